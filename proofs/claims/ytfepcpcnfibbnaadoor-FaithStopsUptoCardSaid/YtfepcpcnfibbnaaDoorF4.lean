/-
  Lemmas on the given program (part 4).
-/
import Derived.Test.YtfepcpcnfibbnaaDoorF3
import Derived.Shelf.LaysM
import Derived.Shelf.Strings.BuilderRune
import Derived.Shelf.Strings.BuilderK
import Derived.Shelf.Unicode.Decode
import Derived.Shelf.Unicode.DecodeAny
import Derived.Test.YtfepcpcnfibbnaaDoorProg
import Derived.RangeFuncNested
import Derived.RangeFuncBound
import Derived.RangeFuncCalls
import Derived.RangeFuncLeaves
import Derived.Shelf.Abstract
import Derived.Shelf.RegionOpen
import Derived.WalkKit
import Derived.OwnWalkIn
import Derived.TacticsInMore
import Derived.LoopNIn
import Derived.LoopIn
import Derived.Lib.QuoteLoop
import Derived.Lib.TrimU
import Derived.Shelf.Strings.MapGrows
import Derived.Shelf.Strings.Shaped
import Derived.Shelf.Strings.OnBuilder
import Derived.Shelf.Strings.Split
import Derived.Shelf.Strings.Cut
import Derived.Lib.SlBytesConst
import Derived.Shelf.Small.Strs
import Derived.Test.YtfepcpcnfibbnaaDoorRows
set_option linter.unusedVariables false
set_option linter.unusedSimpArgs false
set_option maxRecDepth 100000
namespace Go.Mu
open Go Go.Proofs
noncomputable def laySm : Lay := Lay.nil.addF 191 smTold
theorem laySm_ok : laySm.OK Tryd.prog := Lay.nil_ok.addF smTold_ok
structure TuA where
  q : Nat
  n : Int
  v : Nat
  rows : List (List AVal)
  i : Nat
def allB (rows : List (List AVal)) : Bool := rows.all isByteRow
def ownL : AVal → Nat
  | .own _ _ n _ _ => n
  | _ => 0
def tuR (rows : List (List AVal)) (i : Nat) : List (List AVal) := rows.take i ++ (rows.drop i).map (fun r => [.int .u8 (smM (intOf (r.getD 0 .undef)))])
noncomputable def tuSp (R : List (List AVal) → Nat → List (List AVal)) : LSp := mkL (fun vs _ H => TuA.mk (ownL (vs.getD 1 .undef)) (aI vs 3) (verO (H.getD 0 (.var []))) (rowsO (H.getD 0 (.var []))) (aI vs 4).toNat) (fun a => a.q = a.rows.length ∧ a.n = a.rows.length ∧ a.i ≤ a.rows.length ∧ a.rows.length ≤ 1099511627776 ∧ allB a.rows = true)
  (fun a => [.func 191 [], .own 0 0 a.q a.v false, .own 0 0 a.q a.v false, .int .i64 a.n, .int .i64 (a.i : Nat)]) (fun _ => []) (fun a => [.arr 1 a.rows a.v])
  (fun a k => k (.exit 0) [.own 0 0 a.q a.v false] [] [.arr 1 (R a.rows a.i) a.v])
noncomputable def tuFH (R : List (List AVal) → Nat → List (List AVal)) : FH := { FH.of [(3, loopSpec 26 [1,5,10,11,12] [] [5] [] (tuSp R))] with own := [9] }
theorem tu_step (R : List (List AVal) → Nat → List (List AVal)) (n v : Nat) (m i : Int) (rows : List (List AVal)) (D : List (FuncId × List AVal)) (k : Kont) : lturn Tryd.prog laySm (tuFH R) 190 3 [1,5,10,11,12] [] [5] [] (stL 26 [1,5,10,11,12] [.func 191 [], .own 0 0 n v false, .own 0 0 n v false, .int .i64 m, .int .i64 i] [] [] [.arr 1 rows v] D) k = (
 let c0 : Bool := v == v;
 let c1 : Bool := c0 && decide (0 ≤ i) && decide (i < (↑n : Int));
 let m2 : Nat := 0 + i.toNat;
 let c3 : Bool := c0 && decide (m2 < rows.length) && true;
  bif decide (i < m) then
  bif c1 then
  bif c3 && isInt IntKind.u8 ((rows.getD m2 []).getD 0 AVal.undef) then
  bif c1 then
  bif c3 then
  k AExit.normal
  (stL 26 [1, 5, 10, 11, 12]
  [AVal.func 191 [], AVal.own 0 0 n v false, AVal.own 0 0 n v false, AVal.int IntKind.i64 m,
  AVal.int IntKind.i64 (IntKind.i64.wrap (i + 1))]
  [] []
  [Obj.arr 1
  (rows.set m2
  ((rows.getD m2 []).set 0 (AVal.int IntKind.u8 (smM (intOf ((rows.getD m2 []).getD 0 AVal.undef))))))
  v]
  D)
  else none
  else none
  else none
  else none
  else k (AExit.exit 0) (stL 26 [5] [AVal.own 0 0 n v false] [] [] [Obj.arr 1 rows v] D)) := by kernel_rfl
noncomputable def layTu (R : List (List AVal) → Nat → List (List AVal)) : Lay := laySm.addL 190 (tuFH R)
theorem lower_fun (R : List (List AVal) → Nat → List (List AVal)) (s : List UInt8) (k : Out → Ans) : iFun Tryd.prog ((layTu R).hd Tryd.prog) (layTu R).fhs 0 125 [.str s] [] k = (
 let m0 : Nat := ownL (AVal.own 0 0 s.length 0 false);
 let m1 : Nat := (List.map (fun (c : UInt8) => [AVal.int IntKind.u8 (↑c.toNat : Int)]) s).length;
 let n2 : Int := (↑s.length : Int);
  bif
  tst
  ((m0 = m1 ∧
  n2 = (↑m1 : Int) ∧
  Int.toNat 0 ≤ m1 ∧
  m1 ≤ 1099511627776 ∧
  allB (List.map (fun (c : UInt8) => [AVal.int IntKind.u8 (↑c.toNat : Int)]) s) = true) ∧
  SubTL
  [AVal.func 191 [], AVal.own 0 0 s.length 0 false, AVal.own 0 0 s.length 0 false, AVal.int IntKind.i64 n2,
  AVal.int IntKind.i64 0]
  [AVal.func 191 [], AVal.own 0 0 m0 0 false, AVal.own 0 0 m0 0 false, AVal.int IntKind.i64 n2,
  AVal.int IntKind.i64 (↑(Int.toNat 0) : Int)] ∧
  ([] : List (List AVal)) = [] ∧
  [Obj.arr 1 (List.map (fun (c : UInt8) => [AVal.int IntKind.u8 (↑c.toNat : Int)]) s) 0] =
  [Obj.arr 1 (List.map (fun (c : UInt8) => [AVal.int IntKind.u8 (↑c.toNat : Int)]) s) 0]) then
  bif
  decide
  (0 + m0 ≤
  (R (List.map (fun (c : UInt8) => [AVal.int IntKind.u8 (↑c.toNat : Int)]) s) (Int.toNat 0)).length) &&
  (List.take m0
  (List.drop 0
  (R (List.map (fun (c : UInt8) => [AVal.int IntKind.u8 (↑c.toNat : Int)]) s) (Int.toNat 0)))).all
  fun (r : List AVal) =>
  match r with
  | [v] => isInt IntKind.u8 v
  | x => false then
  k
  (Out.ret
  (AVal.str
  (List.map (fun (r : List AVal) => UInt8.ofNat (intOf (r.getD 0 AVal.undef)).toNat)
  (List.take m0
  (List.drop 0
  (R (List.map (fun (c : UInt8) => [AVal.int IntKind.u8 (↑c.toNat : Int)]) s) (Int.toNat 0))))))
  [])
  else none
  else none) := by kernel_rfl
def subR (r : List AVal) : List AVal := [.int .u8 (smM (intOf (r.getD 0 .undef)))]
theorem allB_get {rows : List (List AVal)} (h : allB rows = true) {i : Nat} (hi : i < rows.length) : ∃ v, rows.getD i [] = [v] ∧ isInt .u8 v = true := by
  unfold allB at h
  rw [List.all_eq_true] at h
  have hm : rows.getD i [] ∈ rows := by
    rw [List.getD_eq_getElem?_getD, List.getElem?_eq_getElem hi]
    exact List.getElem_mem _
  have := h _ hm
  match hr : rows.getD i [], this with
  | [v], hv => exact ⟨v, rfl, hv⟩
theorem tuR_step {rows : List (List AVal)} {i : Nat} (hi : i < rows.length) : tuR (rows.set i (subR (rows.getD i []))) (i + 1) = tuR rows i := by
  unfold tuR
  have e1 : rows.drop i = rows.getD i [] :: rows.drop (i + 1) := drop_cons_of rows i [] hi
  have e2 : (rows.set i (subR (rows.getD i []))).drop (i + 1) = rows.drop (i + 1) := List.drop_set_of_lt (by omega)
  have e3 : (rows.set i (subR (rows.getD i []))).take (i + 1) = rows.take i ++ [subR (rows.getD i [])] := by
    rw [List.take_add_one, List.take_set_of_le (by omega), List.getElem?_set_self hi]
    rfl
  rw [e1, e2, e3, List.map_cons, List.append_assoc]
  rfl
theorem allB_set {rows : List (List AVal)} (h : allB rows = true) (i : Nat) (n : Int) : allB (rows.set i [.int .u8 n]) = true := by
  unfold allB at h ⊢
  rw [List.all_eq_true] at h ⊢
  intro r hr
  rcases List.mem_or_eq_of_mem_set hr with hr | rfl
  · exact h r hr
  · rfl
noncomputable abbrev tuTurn (R : List (List AVal) → Nat → List (List AVal)) := lturn Tryd.prog laySm (tuFH R) 190 3 [1,5,10,11,12] [] [5] []
theorem tu_runs (R : List (List AVal) → Nat → List (List AVal)) (v : Nat) : ∀ (m i : Nat) (rows : List (List AVal)), rows.length - i ≤ m → i ≤ rows.length → rows.length ≤ 1099511627776 → allB rows = true →
    LoopRuns (tuTurn R) 26 [1,5,10,11,12] [] [5] [] [.func 191 [], .own 0 0 rows.length v false, .own 0 0 rows.length v false, .int .i64 rows.length, .int .i64 (i : Nat)] [] [.arr 1 rows v] (.exit 0) [.own 0 0 rows.length v false] [] [.arr 1 (tuR rows i) v] := by
  intro m
  induction m with
  | zero =>
    intro i rows hm hi hl hb
    have e : tuR rows i = rows := by unfold tuR; rw [List.drop_eq_nil_of_le (by omega), List.take_of_length_le (by omega)]; simp
    rw [e]
    refine .stop (by simp) (fun D k => ?_)
    refine (tu_step R rows.length v rows.length i rows D k).trans ?_
    simp (disch := omega) only [dF, cond_false]
  | succ m ih =>
    intro i rows hm hi hl hb
    have key := fun D k => tu_step R rows.length v rows.length i rows D k
    by_cases hlt : i < rows.length
    · obtain ⟨x, hx, hx2⟩ := allB_get hb hlt
      have e1 : IntKind.i64.wrap ((i : Int) + 1) = ((i + 1 : Nat) : Int) := wrap_add1 (by omega)
      simp (disch := omega) only [dT, cond_true, Bool.and_self, beq_self_eq_true, Int.toNat_natCast, Nat.zero_add, hx, List.getD_cons_zero, hx2, e1, Bool.and_true] at key
      have hs : [x].set 0 (AVal.int .u8 (smM (intOf x))) = subR (rows.getD i []) := by rw [hx]; rfl
      rw [hs] at key
      have ih2 := ih (i + 1) (rows.set i (subR (rows.getD i []))) (by rw [List.length_set]; omega) (by rw [List.length_set]; omega) (by rw [List.length_set]; omega) (allB_set hb _ _)
      rw [tuR_step hlt, List.length_set] at ih2
      exact .step key ih2
    · have e : tuR rows i = rows := by unfold tuR; rw [List.drop_eq_nil_of_le (by omega), List.take_of_length_le (by omega)]; simp
      rw [e]
      refine .stop (by simp) (fun D k => ?_)
      refine (tu_step R rows.length v rows.length i rows D k).trans ?_
      simp (disch := omega) only [dF, cond_false]
theorem tuSp_ok : SpOK (tuTurn tuR) 26 [1,5,10,11,12] [] [5] [] (tuSp tuR) := mkL_ok fun a h => by
  obtain ⟨q, n, v, rows, i⟩ := a
  obtain ⟨h0, h1, h2, h3, h4⟩ := h
  simp only at h0 h1 h2 h3 h4
  subst h0 h1
  exact ⟨_, _, _, _, fun k => rfl, tu_runs tuR v _ i rows (Nat.le_refl _) h2 h3 h4⟩
theorem layTu_ok : (layTu tuR).OK Tryd.prog := laySm_ok.loop1 (id := 3) (by kernel_rfl) (by kernel_rfl) (by kernel_rfl) tuSp_ok
def lowC (c : UInt8) : UInt8 := UInt8.ofNat (smM (c.toNat : Int)).toNat
def lowM (s : List UInt8) : List UInt8 := s.map lowC
theorem tuR_all (s : List UInt8) : tuR (s.map fun c => [AVal.int IntKind.u8 (c.toNat : Int)]) 0 = s.map fun c => [AVal.int IntKind.u8 (smM (c.toNat : Int))] := by
  unfold tuR
  rw [List.take_zero, List.nil_append, List.drop_zero, List.map_map]
  rfl
theorem lower_call (s : List UInt8) (hs : s.length ≤ 1099511627776) (k : Out → Ans) : iFun Tryd.prog ((layTu tuR).hd Tryd.prog) (layTu tuR).fhs 0 125 [.str s] [] k = k (.ret (.str (lowM s)) []) := by
  refine (lower_fun tuR s k).trans ?_
  have hb : allB (s.map fun c => [AVal.int IntKind.u8 (c.toNat : Int)]) = true := by
    unfold allB
    rw [List.all_eq_true]
    intro r hr
    obtain ⟨c, _, rfl⟩ := List.mem_map.1 hr
    rfl
  have hl : (s.map fun c => [AVal.int IntKind.u8 (c.toNat : Int)]).length = s.length := List.length_map _
  refine (congrArg (fun c => cond c _ none) (tst_true ⟨⟨by rw [hl]; rfl, by rw [hl], Nat.zero_le _, by rw [hl]; exact hs, hb⟩, .refl _, rfl, rfl⟩)).trans ((cond_true _ _).trans ?_)
  have e0 : Int.toNat 0 = 0 := rfl
  rw [e0, tuR_all]
  have hm : ownL (AVal.own 0 0 s.length 0 false) = s.length := rfl
  rw [hm, List.drop_zero]
  have ht : (s.map fun c => [AVal.int IntKind.u8 (smM (c.toNat : Int))]).take s.length = s.map fun c => [AVal.int IntKind.u8 (smM (c.toNat : Int))] := List.take_of_length_le (by simp)
  rw [ht, dT (by simp)]
  have ha : ((s.map fun c => [AVal.int IntKind.u8 (smM (c.toNat : Int))]).all fun (r : List AVal) => match r with | [v] => isInt IntKind.u8 v | x => false) = true := by
    rw [List.all_eq_true]
    intro r hr
    obtain ⟨c, _, rfl⟩ := List.mem_map.1 hr
    rfl
  rw [ha, List.map_map]
  rfl
def lowTold : FSp := mkFS [.s] (fun xs => decide ((aS xs 0).length ≤ 1099511627776)) (fun xs k => k (.ret (.str (lowM (aS xs 0))) []))
theorem lowTold_ok : ∀ xs H k out, lowTold xs H k = some out → ∃ o, CallOK Tryd.prog 125 xs H o ∧ k o = some out := mkFS_ok fun ys xs e h => by
  obtain ⟨s, rfl⟩ : ∃ s, xs = [.str s] := ⟨_, e⟩
  have h2 : s.length ≤ 1099511627776 := of_decide_eq_true h
  exact ⟨_, fun k => rfl, layTu_ok.callF (G := []) rfl (fun k => lower_call s h2 k)⟩
end Go.Mu
set_option linter.unusedVariables false
set_option linter.unusedSimpArgs false
set_option maxRecDepth 100000
namespace Go.Mu
open Go Go.Proofs
/- ContainsFunc of octets, by a closure -/
def scP (c : UInt8) : Bool := bif bif (c.toNat : Int) == 47 then true else (c.toNat : Int) == 63 then true else (c.toNat : Int) == 35
def sfP (c : UInt8) : Bool := decide (ibM [60, 62, 38, 39, 34, 47, 33, 45, 96, 10, 13, 0] (c.toNat : Int) ≥ 0)
def cpP (c : UInt8) : Bool :=
  bif bif !bif decide (IntKind.u8.wrap ((BitVec.ofInt 8 (c.toNat : Int) ||| BitVec.ofInt 8 32).toNat : Int) ≥ 97) then decide (IntKind.u8.wrap ((BitVec.ofInt 8 (c.toNat : Int) ||| BitVec.ofInt 8 32).toNat : Int) ≤ 122) else false then
      bif decide ((c.toNat : Int) < 48) then true else decide ((c.toNat : Int) > 57)
    else false then decide (ibM [32, 46, 44, 37, 35, 43, 45] (c.toNat : Int) < 0) else false
def scFH : FH := .of [(2, loopSpec 19 [0,1,7,8] [] [4] [] (idxSp wfB decB scP 124))]
theorem sc_step (full : Bool) (l : List UInt8) (i : Nat) (H : Heap) (D : List (FuncId × List AVal)) (k : Kont) : lturn Tryd.prog layY1 scFH 189 2 [0,1,7,8] [] [4] [] (stL 19 [0,1,7,8] [encL full byteRow 0 l, .func 124 [], .int .i64 l.length, .int .i64 i] [] [] H D) k =
    cond (decide ((i : Int) < l.length)) (cond (decide ((i : Int) < l.length)) (cond (scP (l.getD (i : Int).toNat 0)) (k .ret (stL 19 [4] [.int .i64 i] [] [] H D)) (k .normal (stL 19 [0,1,7,8] [encL full byteRow 0 l, .func 124 [], .int .i64 l.length, .int .i64 (IntKind.i64.wrap ((i : Int) + 1))] [] [] H D))) none)
      (k (.exit 0) (stL 19 [4] [.undef] [] [] H D)) := by kernel_rfl
noncomputable def lay_sc : Lay := layY1.addL 189 scFH
theorem lay_sc_ok : lay_sc.OK Tryd.prog := layY1_ok.loop1 (id := 2) (by kernel_rfl) (by kernel_rfl) (by kernel_rfl) (idxSp_ok wfB_sub sc_step)
def sfFH : FH := .of [(2, loopSpec 19 [0,1,7,8] [] [4] [] (idxSp wfB decB sfP 128))]
theorem sf_step (full : Bool) (l : List UInt8) (i : Nat) (H : Heap) (D : List (FuncId × List AVal)) (k : Kont) : lturn Tryd.prog layY1 sfFH 189 2 [0,1,7,8] [] [4] [] (stL 19 [0,1,7,8] [encL full byteRow 0 l, .func 128 [], .int .i64 l.length, .int .i64 i] [] [] H D) k =
    cond (decide ((i : Int) < l.length)) (cond (decide ((i : Int) < l.length)) (cond (sfP (l.getD (i : Int).toNat 0)) (k .ret (stL 19 [4] [.int .i64 i] [] [] H D)) (k .normal (stL 19 [0,1,7,8] [encL full byteRow 0 l, .func 128 [], .int .i64 l.length, .int .i64 (IntKind.i64.wrap ((i : Int) + 1))] [] [] H D))) none)
      (k (.exit 0) (stL 19 [4] [.undef] [] [] H D)) := by kernel_rfl
noncomputable def lay_sf : Lay := layY1.addL 189 sfFH
theorem lay_sf_ok : lay_sf.OK Tryd.prog := layY1_ok.loop1 (id := 2) (by kernel_rfl) (by kernel_rfl) (by kernel_rfl) (idxSp_ok wfB_sub sf_step)
def cpFH : FH := .of [(2, loopSpec 19 [0,1,7,8] [] [4] [] (idxSp wfB decB cpP 130))]
theorem cp_step (full : Bool) (l : List UInt8) (i : Nat) (H : Heap) (D : List (FuncId × List AVal)) (k : Kont) : lturn Tryd.prog layY1 cpFH 189 2 [0,1,7,8] [] [4] [] (stL 19 [0,1,7,8] [encL full byteRow 0 l, .func 130 [], .int .i64 l.length, .int .i64 i] [] [] H D) k =
    cond (decide ((i : Int) < l.length)) (cond (decide ((i : Int) < l.length)) (cond (cpP (l.getD (i : Int).toNat 0)) (k .ret (stL 19 [4] [.int .i64 i] [] [] H D)) (k .normal (stL 19 [0,1,7,8] [encL full byteRow 0 l, .func 130 [], .int .i64 l.length, .int .i64 (IntKind.i64.wrap ((i : Int) + 1))] [] [] H D))) none)
      (k (.exit 0) (stL 19 [4] [.undef] [] [] H D)) := by kernel_rfl
noncomputable def lay_cp : Lay := layY1.addL 189 cpFH
theorem lay_cp_ok : lay_cp.OK Tryd.prog := layY1_ok.loop1 (id := 2) (by kernel_rfl) (by kernel_rfl) (by kernel_rfl) (idxSp_ok wfB_sub cp_step)
noncomputable def lay_sc2 : Lay := lay_sc.addF 125 lowTold
theorem lay_sc2_ok : lay_sc2.OK Tryd.prog := lay_sc_ok.addF lowTold_ok
theorem scheme_fun (s : List UInt8) (k : Out → Ans) (n0 : Int) (e_n0 : n0 = (ibM s 58))
  (c1 : Bool) (e_c1 : c1 = (decide (0 ≤ n0) && decide (n0 ≤ (↑s.length : Int))))
  (c2 : Bool) (e_c2 : c2 = (decide (n0 < 0)))
  (l3 : List UInt8) (e_l3 : l3 = (List.drop (Int.toNat 0) (List.take n0.toNat s)))
  (m4 : Nat) (e_m4 : m4 = (l3.length))
  (m5 : Nat) (e_m5 : m5 = (lenL
    (AVal.list false m4 fun (i : Nat) =>
      [AVal.int IntKind.u8 (↑((List.drop (Int.toNat 0) (List.take (ibM s 58).toNat s)).getD i 0).toNat : Int)]))) : iFun Tryd.prog (lay_sc2.hd Tryd.prog) lay_sc2.fhs 0 69 [.str s] [] k = (
  bif c1 || !!c2 then
    bif
        wfL
                    (fun (r : List AVal) =>
                      match r with
                      | [AVal.int IntKind.u8 n] => decide (0 ≤ n) && decide (n < 256)
                      | x => false)
                    (AVal.list false m4 fun (i : Nat) =>
                      [AVal.int IntKind.u8
                          (↑((List.drop (Int.toNat 0) (List.take (ibM s 58).toNat s)).getD i 0).toNat : Int)]) &&
                  true &&
                (↑m4 : Int) == (↑m5 : Int) &&
              true &&
            decide (m5 ≤ 1099511627776) &&
          true then
      bif
          (decL (fun (r : List AVal) => byteOf r)
                (AVal.list false m4 fun (i : Nat) =>
                  [AVal.int IntKind.u8
                      (↑((List.drop (Int.toNat 0) (List.take (ibM s 58).toNat s)).getD i 0).toNat : Int)])).any
            scP then
        bif bif c2 then true else true then k (Out.ret (AVal.tuple [AVal.str [], AVal.bool false]) [])
        else
          bif c1 then
            bif decide (m4 ≤ 1099511627776) then k (Out.ret (AVal.tuple [AVal.str (lowM l3), AVal.bool true]) [])
            else none
          else none
      else
        bif bif c2 then true else false then k (Out.ret (AVal.tuple [AVal.str [], AVal.bool false]) [])
        else
          bif c1 then
            bif decide (m4 ≤ 1099511627776) then k (Out.ret (AVal.tuple [AVal.str (lowM l3), AVal.bool true]) [])
            else none
          else none
    else none
  else none) := by
  subst e_n0 e_c1 e_c2 e_l3 e_m4 e_m5
  kernel_rfl
theorem safe_fun (s : List UInt8) (k : Out → Ans) : iFun Tryd.prog (lay_sf.hd Tryd.prog) lay_sf.fhs 0 73 [.str s] [] k = (
 let m0 : Nat := lenL (AVal.list false s.length fun (i : Nat) => [AVal.int IntKind.u8 (↑(s.getD i 0).toNat : Int)]);
  bif
  wfL
  (fun (r : List AVal) =>
  match r with
  | [AVal.int IntKind.u8 n] => decide (0 ≤ n) && decide (n < 256)
  | x => false)
  (AVal.list false s.length fun (i : Nat) => [AVal.int IntKind.u8 (↑(s.getD i 0).toNat : Int)]) &&
  true &&
  (↑s.length : Int) == (↑m0 : Int) &&
  true &&
  decide (m0 ≤ 1099511627776) &&
  true then
  bif
  (decL (fun (r : List AVal) => byteOf r)
  (AVal.list false s.length fun (i : Nat) => [AVal.int IntKind.u8 (↑(s.getD i 0).toNat : Int)])).any
  sfP then
  k (Out.ret (AVal.bool false) [])
  else k (Out.ret (AVal.bool true) [])
  else none) := by kernel_rfl
noncomputable def lay_cp2 : Lay := (lay_cp.addF 125 lowTold).addF 111 idxTold
theorem lay_cp2_ok : lay_cp2.OK Tryd.prog := (lay_cp_ok.addF lowTold_ok).addF idxTold_ok
theorem plain_fun (s : List UInt8) (k : Out → Ans) (c0 : Bool) (e_c0 : c0 = (decide ((lowM s).length < 4294967281)))
  (m1 : Nat) (e_m1 : m1 = (lenL (AVal.list false (lowM s).length fun (i : Nat) => [AVal.int IntKind.u8 (↑((lowM s).getD i 0).toNat : Int)])))
  (c2 : Bool) (e_c2 : c2 = (bif !decide (Lib.index (lowM s) [101, 120, 112, 114, 101, 115, 115, 105, 111, 110] ≥ 0) then
    !decide (Lib.index (lowM s) [117, 114, 108] ≥ 0)
  else false)) : iFun Tryd.prog (lay_cp2.hd Tryd.prog) lay_cp2.fhs 0 74 [.str s] [] k = (
  bif decide ((↑s.length : Int) > 4096) then k (Out.ret (AVal.bool false) [])
  else
  bif decide (s.length ≤ 1099511627776) then
  bif c0 then
  bif c0 then
  bif
  wfL
  (fun (r : List AVal) =>
  match r with
  | [AVal.int IntKind.u8 n] => decide (0 ≤ n) && decide (n < 256)
  | x => false)
  (AVal.list false (lowM s).length fun (i : Nat) =>
  [AVal.int IntKind.u8 (↑((lowM s).getD i 0).toNat : Int)]) &&
  true &&
  (↑(lowM s).length : Int) == (↑m1 : Int) &&
  true &&
  decide (m1 ≤ 1099511627776) &&
  true then
  bif
  (decL (fun (r : List AVal) => byteOf r)
  (AVal.list false (lowM s).length fun (i : Nat) =>
  [AVal.int IntKind.u8 (↑((lowM s).getD i 0).toNat : Int)])).any
  cpP then
  k (Out.ret (AVal.bool (bif c2 then false else false)) [])
  else k (Out.ret (AVal.bool (bif c2 then true else false)) [])
  else none
  else none
  else none
  else none) := by
  subst e_c0 e_m1 e_c2
  kernel_rfl
theorem ixG {l : List UInt8} (hl : l.length ≤ 1099511627776) : (wfL (fun (r : List AVal) => match r with | [AVal.int IntKind.u8 n] => decide (0 ≤ n) && decide (n < 256) | x => false) (AVal.list false l.length fun (i : Nat) => [AVal.int IntKind.u8 ((l.getD i 0).toNat : Int)]) && true && ((l.length : Int) == ((lenL (AVal.list false l.length fun (i : Nat) => [AVal.int IntKind.u8 ((l.getD i 0).toNat : Int)]) : Nat) : Int)) && true && decide (lenL (AVal.list false l.length fun (i : Nat) => [AVal.int IntKind.u8 ((l.getD i 0).toNat : Int)]) ≤ 1099511627776) && true) = true := by
  show (wfL wfB (encL false byteRow 0 l) && true && ((l.length : Int) == l.length) && true && decide (l.length ≤ 1099511627776) && true) = true
  rw [wfL_encL wfB_enc, dT hl]
  simp
def schemeM (s : List UInt8) : List UInt8 × Bool := bif decide (ibM s 58 < 0) || (s.take (ibM s 58).toNat).any scP then ([], false) else (lowM (s.take (ibM s 58).toNat), true)
def safeM (s : List UInt8) : Bool := !s.any sfP
def plainM (s : List UInt8) : Bool := decide (s.length ≤ 4096) && (!decide (Lib.index (lowM s) [101, 120, 112, 114, 101, 115, 115, 105, 111, 110] ≥ 0) && !decide (Lib.index (lowM s) [117, 114, 108] ≥ 0) && !(lowM s).any cpP)
theorem ib_hi (s : List UInt8) (n : Int) : ibM s n < s.length := by
  unfold ibM
  have h := Lib.indexByte_ge s (UInt8.ofNat n.toNat)
  generalize hx : Lib.indexByte s (UInt8.ofNat n.toNat) = x at h
  have : ∀ (l : List UInt8) (c : UInt8), Lib.indexByte l c < l.length := by
    intro l c
    induction l with
    | nil => show (-1 : Int) < 0; decide
    | cons b l ih =>
      rw [Lib.indexByte, List.length_cons]
      split
      · omega
      · split <;> omega
  rw [← hx]; exact this s _
theorem scheme_call (s : List UInt8) (hs : s.length ≤ 1099511627776) (k : Out → Ans) : iFun Tryd.prog (lay_sc2.hd Tryd.prog) lay_sc2.fhs 0 69 [.str s] [] k = k (.ret (.tuple [.str (schemeM s).1, .bool (schemeM s).2]) []) := by
  refine (scheme_fun s k _ rfl _ rfl _ rfl _ rfl _ rfl _ rfl).trans ?_
  have hlt := ib_hi s 58
  have hl : (List.drop (Int.toNat 0) (List.take (ibM s 58).toNat s)).length ≤ 1099511627776 := by simp; omega
  have e0 : List.drop (Int.toNat 0) (List.take (ibM s 58).toNat s) = List.take (ibM s 58).toNat s := rfl
  unfold schemeM
  by_cases h : ibM s 58 < 0
  · rw [dT h, dF (show ¬ 0 ≤ ibM s 58 by omega)]
    simp only [Bool.false_and, Bool.not_true, Bool.not_false, Bool.or_true, Bool.true_or, cond_true]
    refine (congrArg (fun c => cond c _ none) (ixG hl)).trans ?_
    simp only [cond_true]
    generalize List.any _ _ = b
    cases b <;> rfl
  · rw [dF h, dT (show 0 ≤ ibM s 58 by omega), dT (show ibM s 58 ≤ (s.length : Int) by omega)]
    simp only [Bool.and_self, Bool.true_or, cond_true, Bool.false_or]
    refine (congrArg (fun c => cond c _ none) (ixG hl)).trans ?_
    have hl2 : (List.take (ibM s 58).toNat s).length ≤ 1099511627776 := hl
    simp only [cond_true, bytes_back, e0, dT hl2]
    cases (List.take (ibM s 58).toNat s).any scP <;> rfl
def schTold : FSp := mkFS [.s] (fun xs => decide ((aS xs 0).length ≤ 1099511627776)) (fun xs k => k (.ret (.tuple [.str (schemeM (aS xs 0)).1, .bool (schemeM (aS xs 0)).2]) []))
theorem schTold_ok : ∀ xs H k out, schTold xs H k = some out → ∃ o, CallOK Tryd.prog 69 xs H o ∧ k o = some out := mkFS_ok fun ys xs e h => by
  obtain ⟨s, rfl⟩ : ∃ s, xs = [.str s] := ⟨_, e⟩
  exact ⟨_, fun k => rfl, lay_sc2_ok.callF (G := []) rfl (fun k => scheme_call s (of_decide_eq_true h) k)⟩
theorem safe_call (s : List UInt8) (hs : s.length ≤ 1099511627776) (k : Out → Ans) : iFun Tryd.prog (lay_sf.hd Tryd.prog) lay_sf.fhs 0 73 [.str s] [] k = k (.ret (.bool (safeM s)) []) := by
  refine (safe_fun s k).trans ?_
  refine (congrArg (fun c => cond c _ none) (ixG hs)).trans ?_
  simp only [cond_true, bytes_back]
  unfold safeM
  cases s.any sfP <;> rfl
def safTold : FSp := mkFS [.s] (fun xs => decide ((aS xs 0).length ≤ 1099511627776)) (fun xs k => k (.ret (.bool (safeM (aS xs 0))) []))
theorem safTold_ok : ∀ xs H k out, safTold xs H k = some out → ∃ o, CallOK Tryd.prog 73 xs H o ∧ k o = some out := mkFS_ok fun ys xs e h => by
  obtain ⟨s, rfl⟩ : ∃ s, xs = [.str s] := ⟨_, e⟩
  exact ⟨_, fun k => rfl, lay_sf_ok.callF (G := []) rfl (fun k => safe_call s (of_decide_eq_true h) k)⟩
theorem plain_call (s : List UInt8) (hs : s.length ≤ 1099511627776) (k : Out → Ans) : iFun Tryd.prog (lay_cp2.hd Tryd.prog) lay_cp2.fhs 0 74 [.str s] [] k = k (.ret (.bool (plainM s)) []) := by
  refine (plain_fun s k _ rfl _ rfl _ rfl).trans ?_
  have hl : (lowM s).length = s.length := List.length_map _
  unfold plainM
  by_cases h : s.length ≤ 4096
  · rw [dF (show ¬ (s.length : Int) > 4096 by omega), dT hs, dT (show (lowM s).length < 4294967281 by omega), dT h]
    simp only [cond_false, cond_true, Bool.true_and]
    refine (congrArg (fun c => cond c _ none) (ixG (by omega))).trans ?_
    simp only [cond_true, bytes_back, bif_and]
    generalize (!decide (Lib.index (lowM s) [101, 120, 112, 114, 101, 115, 115, 105, 111, 110] ≥ 0) && !decide (Lib.index (lowM s) [117, 114, 108] ≥ 0)) = b
    cases (lowM s).any cpP <;> cases b <;> rfl
  · rw [dT (show (s.length : Int) > 4096 by omega), dF h]; rfl
def plaTold : FSp := mkFS [.s] (fun xs => decide ((aS xs 0).length ≤ 1099511627776)) (fun xs k => k (.ret (.bool (plainM (aS xs 0))) []))
theorem plaTold_ok : ∀ xs H k out, plaTold xs H k = some out → ∃ o, CallOK Tryd.prog 74 xs H o ∧ k o = some out := mkFS_ok fun ys xs e h => by
  obtain ⟨s, rfl⟩ : ∃ s, xs = [.str s] := ⟨_, e⟩
  exact ⟨_, fun k => rfl, lay_cp2_ok.callF (G := []) rfl (fun k => plain_call s (of_decide_eq_true h) k)⟩
end Go.Mu
set_option linter.unusedVariables false
set_option linter.unusedSimpArgs false
set_option maxRecDepth 100000
namespace Go.Mu
open Go Go.Proofs
abbrev b0P (ad b : AVal) (O : Obj) : Heap := [.var [ad, b], .note bdT 2, O, .note bT 0]
structure b0H where
  x : Bld
abbrev b0H.heap (x : b0H) : Heap := b0P x.x.ad x.x.b (.arr 1 x.x.rows x.x.v)
def b0H.dec (H : Heap) : b0H := ⟨bld H 0 2⟩
theorem b0_ws0 (O : Obj) (k : Out → Ans) : iFun Tryd.prog (layW0.hd Tryd.prog) layW0.fhs 0 92 [.ptr (.hp 0) 0, .str []] (b0P .nilptr .nilX O) k = (
  k
  (Out.ret (AVal.tuple [AVal.int IntKind.i64 0, AVal.nilIface])
      [Obj.var [AVal.ptr (Oid.hp 0) 0, AVal.nilX], Obj.note 98 2, O, Obj.note 5 0])) := by kernel_rfl
theorem b0_ws1 (O : Obj) (k : Out → Ans) : iFun Tryd.prog (layW0.hd Tryd.prog) layW0.fhs 0 92 [.ptr (.hp 0) 0, .str []] (b0P (.ptr (.hp 0) 0) .nilX O) k = (
  k
  (Out.ret (AVal.tuple [AVal.int IntKind.i64 0, AVal.nilIface])
      [Obj.var [AVal.ptr (Oid.hp 0) 0, AVal.nilX], Obj.note 98 2, O, Obj.note 5 0])) := by kernel_rfl
theorem b0_ws2 (l : List UInt8) (n v : Nat) (rows : List (List AVal)) (k : Out → Ans) : iFun Tryd.prog (Lay.nil.hd Tryd.prog) Lay.nil.fhs 0 92 [.ptr (.hp 0) 0, .str l] (b0P .nilptr (.own 2 0 n v false) (.arr 1 rows v)) k = (
 let m0 : Nat := n + (List.map (fun (c : UInt8) => [AVal.int IntKind.u8 (↑c.toNat : Int)]) l).length;
 let m1 : Nat := v + 1;
  bif v == v && n == rows.length && decide ((2 * m0 + 1000) * 1 ≤ 281474976710656) && true then
  k
  (Out.ret (AVal.tuple [AVal.int IntKind.i64 (↑l.length : Int), AVal.nilIface])
  [Obj.var [AVal.ptr (Oid.hp 0) 0, AVal.own 2 0 m0 m1 false], Obj.note 98 2,
  Obj.arr 1 (rows.append (List.map (fun (c : UInt8) => [AVal.int IntKind.u8 (↑c.toNat : Int)]) l)) m1,
  Obj.note 5 0])
  else none) := by kernel_rfl
theorem b0_ws3 (l : List UInt8) (n v : Nat) (rows : List (List AVal)) (k : Out → Ans) : iFun Tryd.prog (Lay.nil.hd Tryd.prog) Lay.nil.fhs 0 92 [.ptr (.hp 0) 0, .str l] (b0P (.ptr (.hp 0) 0) (.own 2 0 n v false) (.arr 1 rows v)) k = (
 let m0 : Nat := n + (List.map (fun (c : UInt8) => [AVal.int IntKind.u8 (↑c.toNat : Int)]) l).length;
 let m1 : Nat := v + 1;
  bif v == v && n == rows.length && decide ((2 * m0 + 1000) * 1 ≤ 281474976710656) && true then
  k
  (Out.ret (AVal.tuple [AVal.int IntKind.i64 (↑l.length : Int), AVal.nilIface])
  [Obj.var [AVal.ptr (Oid.hp 0) 0, AVal.own 2 0 m0 m1 false], Obj.note 98 2,
  Obj.arr 1 (rows.append (List.map (fun (c : UInt8) => [AVal.int IntKind.u8 (↑c.toNat : Int)]) l)) m1,
  Obj.note 5 0])
  else none) := by kernel_rfl
theorem b0_wb2 (c : UInt8) (n v : Nat) (rows : List (List AVal)) (k : Out → Ans) : iFun Tryd.prog (Lay.nil.hd Tryd.prog) Lay.nil.fhs 0 56 [.ptr (.hp 0) 0, .int .u8 c.toNat] (b0P .nilptr (.own 2 0 n v false) (.arr 1 rows v)) k = (
 let m0 : Nat := n + 1;
 let m1 : Nat := v + 1;
  bif v == v && n == rows.length && decide ((2 * m0 + 1000) * 1 ≤ 281474976710656) && true then
  k
  (Out.ret AVal.nilIface
  [Obj.var [AVal.ptr (Oid.hp 0) 0, AVal.own 2 0 m0 m1 false], Obj.note 98 2,
  Obj.arr 1 (rows.append [[AVal.int IntKind.u8 (↑c.toNat : Int)]]) m1, Obj.note 5 0])
  else none) := by kernel_rfl
theorem b0_wb3 (c : UInt8) (n v : Nat) (rows : List (List AVal)) (k : Out → Ans) : iFun Tryd.prog (Lay.nil.hd Tryd.prog) Lay.nil.fhs 0 56 [.ptr (.hp 0) 0, .int .u8 c.toNat] (b0P (.ptr (.hp 0) 0) (.own 2 0 n v false) (.arr 1 rows v)) k = (
 let m0 : Nat := n + 1;
 let m1 : Nat := v + 1;
  bif v == v && n == rows.length && decide ((2 * m0 + 1000) * 1 ≤ 281474976710656) && true then
  k
  (Out.ret AVal.nilIface
  [Obj.var [AVal.ptr (Oid.hp 0) 0, AVal.own 2 0 m0 m1 false], Obj.note 98 2,
  Obj.arr 1 (rows.append [[AVal.int IntKind.u8 (↑c.toNat : Int)]]) m1, Obj.note 5 0])
  else none) := by kernel_rfl
theorem b0_len0 (ad : AVal) (O : Obj) (k : Out → Ans) : iFun Tryd.prog (Lay.nil.hd Tryd.prog) Lay.nil.fhs 0 113 [.ptr (.hp 0) 0] (b0P ad .nilX O) k = (
  k (Out.ret (AVal.int IntKind.i64 0) (b0P ad AVal.nilX O))) := by kernel_rfl
theorem b0_len1 (ad : AVal) (n v : Nat) (O : Obj) (k : Out → Ans) : iFun Tryd.prog (Lay.nil.hd Tryd.prog) Lay.nil.fhs 0 113 [.ptr (.hp 0) 0] (b0P ad (.own 2 0 n v false) O) k = (
  k (Out.ret (AVal.int IntKind.i64 (↑n : Int)) (b0P ad (AVal.own 2 0 n v false) O))) := by kernel_rfl
theorem b0_ws (x : b0H) (l : List UInt8) (hx : x.x.can 0 2) (h : x.x.t.length + l.length ≤ 1099511627776) : CallOK Tryd.prog 92 [.ptr (.hp 0) 0, .str l] x.heap (.ret (.tuple [.int .i64 l.length, .nilIface]) ({ x with x := x.x.add 0 2 l } : b0H).heap) := by
  obtain ⟨⟨ad, b, rows, v⟩⟩ := x
  obtain ⟨h1, h2, h3⟩ := hx
  unfold Bld.add Bld.t
  simp only [Bld.t] at h h1 h2 h3 ⊢
  generalize bytesOf rows = text at *
  subst h2 h3
  cases text with
  | nil =>
    cases l with
    | nil =>
      refine layW0_ok.call (fun k => ?_)
      rcases h1 with rfl | rfl
      · exact b0_ws0 (.arr 1 [] v) k
      · exact b0_ws1 (.arr 1 [] v) k
    | cons c t =>
      refine relAt_ok (i := 0) (c := 1) (j := 2) ?_
      simp only [List.length_nil] at h
      refine Lay.nil_ok.call (fun k => ?_)
      have e3 : wsV [] (c :: t) v = v + 1 + 1 := rfl
      rw [e3]
      generalize hl : c :: t = l at *
      have e4 : bfB 2 ([] ++ l) (v + 1 + 1) = .own 2 0 l.length (v + 1 + 1) false := by rw [← hl]; rfl
      rw [e4]
      rcases h1 with rfl | rfl
      · rw [show relAt 0 1 2 (b0P .nilptr (bfB 2 [] v) (.arr 1 (([] : List UInt8).map byteRow) v)) = b0P .nilptr (.own 2 0 0 (v + 1) false) (.arr 1 [] (v + 1)) from rfl, b0_ws2]
        simp (disch := omega) only [e_map, List.length_map, dT, beq_self_eq_true, Bool.and_true, cond_true, List.append_eq, List.nil_append, Nat.zero_add, List.length_nil, Nat.mul_one, List.map_nil]
      · rw [show relAt 0 1 2 (b0P (.ptr (.hp 0) 0) (bfB 2 [] v) (.arr 1 (([] : List UInt8).map byteRow) v)) = b0P (.ptr (.hp 0) 0) (.own 2 0 0 (v + 1) false) (.arr 1 [] (v + 1)) from rfl, b0_ws3]
        simp (disch := omega) only [e_map, List.length_map, dT, beq_self_eq_true, Bool.and_true, cond_true, List.append_eq, List.nil_append, Nat.zero_add, List.length_nil, Nat.mul_one, List.map_nil]
  | cons c t =>
    refine Lay.nil_ok.call (fun k => ?_)
    have e3 : wsV (c :: t) l v = v + 1 := rfl
    have e4 : bfB 2 ((c :: t) ++ l) (v + 1) = .own 2 0 ((c :: t) ++ l).length (v + 1) false := rfl
    have e5 : bfB 2 (c :: t) v = .own 2 0 (c :: t).length v false := rfl
    rw [e3, e4, e5]
    generalize c :: t = m at *
    rcases h1 with rfl | rfl
    · rw [b0_ws2]
      simp (disch := omega) only [e_map, List.length_map, dT, beq_self_eq_true, Bool.and_true, cond_true, List.append_eq, List.length_append, Nat.mul_one]
    · rw [b0_ws3]
      simp (disch := omega) only [e_map, List.length_map, dT, beq_self_eq_true, Bool.and_true, cond_true, List.append_eq, List.length_append, Nat.mul_one]
theorem b0_wb (x : b0H) (c : UInt8) (hx : x.x.can 0 2) (h : x.x.t.length ≤ 1073741824) : CallOK Tryd.prog 56 [.ptr (.hp 0) 0, .int .u8 c.toNat] x.heap (.ret .nilIface ({ x with x := x.x.add 0 2 [c] } : b0H).heap) := by
  obtain ⟨⟨ad, b, rows, v⟩⟩ := x
  obtain ⟨h1, h2, h3⟩ := hx
  unfold Bld.add Bld.t
  simp only [Bld.t] at h h1 h2 h3 ⊢
  generalize bytesOf rows = text at *
  subst h2 h3
  have e6 : [c].map byteRow = [[.int .u8 c.toNat]] := rfl
  rw [e6]
  cases text with
  | nil =>
    refine relAt_ok (i := 0) (c := 1) (j := 2) ?_
    refine Lay.nil_ok.call (fun k => ?_)
    have e3 : wsV [] [c] v = v + 1 + 1 := rfl
    have e4 : bfB 2 ([] ++ [c]) (v + 1 + 1) = .own 2 0 1 (v + 1 + 1) false := rfl
    rw [e3, e4]
    rcases h1 with rfl | rfl
    · rw [show relAt 0 1 2 (b0P .nilptr (bfB 2 [] v) (.arr 1 (([] : List UInt8).map byteRow) v)) = b0P .nilptr (.own 2 0 0 (v + 1) false) (.arr 1 [] (v + 1)) from rfl, b0_wb2]
      simp only [beq_self_eq_true]
      rfl
    · rw [show relAt 0 1 2 (b0P (.ptr (.hp 0) 0) (bfB 2 [] v) (.arr 1 (([] : List UInt8).map byteRow) v)) = b0P (.ptr (.hp 0) 0) (.own 2 0 0 (v + 1) false) (.arr 1 [] (v + 1)) from rfl, b0_wb3]
      simp only [beq_self_eq_true]
      rfl
  | cons d t =>
    refine Lay.nil_ok.call (fun k => ?_)
    have e3 : wsV (d :: t) [c] v = v + 1 := rfl
    have e4 : bfB 2 ((d :: t) ++ [c]) (v + 1) = .own 2 0 ((d :: t) ++ [c]).length (v + 1) false := rfl
    have e5 : bfB 2 (d :: t) v = .own 2 0 (d :: t).length v false := rfl
    rw [e3, e4, e5]
    generalize d :: t = m at *
    rcases h1 with rfl | rfl
    · rw [b0_wb2]
      simp (disch := omega) only [e_map, List.length_map, dT, beq_self_eq_true, Bool.and_true, cond_true, List.append_eq, List.length_append, Nat.mul_one, List.length_cons, List.length_nil]
    · rw [b0_wb3]
      simp (disch := omega) only [e_map, List.length_map, dT, beq_self_eq_true, Bool.and_true, cond_true, List.append_eq, List.length_append, Nat.mul_one, List.length_cons, List.length_nil]
theorem b0_len (x : b0H) (hx : x.x.can 0 2) : CallOK Tryd.prog 113 [.ptr (.hp 0) 0] x.heap (.ret (.int .i64 x.x.t.length) x.heap) := by
  obtain ⟨⟨ad, b, rows, v⟩⟩ := x
  obtain ⟨h1, h2, h3⟩ := hx
  simp only [Bld.t] at h1 h2 h3 ⊢
  generalize bytesOf rows = text at *
  subst h2 h3
  refine Lay.nil_ok.call (fun k => ?_)
  cases text with
  | nil => exact b0_len0 ad _ k
  | cons c t => exact b0_len1 ad (c :: t).length v _ k
theorem b0_str (x : b0H) (hx : x.x.can 0 2) (h : x.x.t.length ≤ 1099511627776) : CallOK Tryd.prog 58 [.ptr (.hp 0) 0] x.heap (.ret (.str x.x.t) ({ x with x := x.x.dead } : b0H).heap) := by
  obtain ⟨⟨ad, b, rows, v⟩⟩ := x
  obtain ⟨h1, h2, h3⟩ := hx
  unfold Bld.dead Bld.t
  simp only [Bld.t] at h h1 h2 h3 ⊢
  generalize bytesOf rows = text at *
  subst h2 h3
  cases text with
  | nil => exact str_ok0 (cs := [ad, .nilX]) rfl rfl
  | cons c t => exact str_ok (i := 0) (off := 0) (j := 2) (u := v) (cs := [ad, .own 2 0 (c :: t).length v false]) (l := c :: t) rfl rfl rfl rfl (by simp) h
noncomputable def b0_wsTold : FSp := mkF (fun xs H => (b0H.dec H, aS xs 1)) (fun x => x.1.x.can 0 2 ∧ x.1.x.t.length + x.2.length ≤ 1099511627776) (fun x => [.ptr (.hp 0) 0, .str x.2]) (fun x => x.1.heap) (fun x k => k (.ret (.tuple [.int .i64 x.2.length, .nilIface]) ({ x.1 with x := x.1.x.add 0 2 x.2 } : b0H).heap))
noncomputable def b0_wbTold : FSp := mkF (fun xs H => (b0H.dec H, UInt8.ofNat (aI xs 1).toNat)) (fun x => x.1.x.can 0 2 ∧ x.1.x.t.length ≤ 1073741824) (fun x => [.ptr (.hp 0) 0, .int .u8 x.2.toNat]) (fun x => x.1.heap) (fun x k => k (.ret .nilIface ({ x.1 with x := x.1.x.add 0 2 [x.2] } : b0H).heap))
noncomputable def b0_lenTold : FSp := mkF (fun xs H => b0H.dec H) (fun x => x.x.can 0 2) (fun x => [.ptr (.hp 0) 0]) (fun x => x.heap) (fun x k => k (.ret (.int .i64 x.x.t.length) x.heap))
noncomputable def b0_strTold : FSp := mkF (fun xs H => b0H.dec H) (fun x => x.x.can 0 2 ∧ x.x.t.length ≤ 1099511627776) (fun x => [.ptr (.hp 0) 0]) (fun x => x.heap) (fun x k => k (.ret (.str x.x.t) ({ x with x := x.x.dead } : b0H).heap))
noncomputable def b0_lay (L : Lay) : Lay := (((L.addF 92 b0_wsTold).addF 56 b0_wbTold).addF 113 b0_lenTold).addF 58 b0_strTold
theorem b0_ok {L : Lay} (h : L.OK Tryd.prog) : (b0_lay L).OK Tryd.prog :=
  (((h.addF (mkF_ok fun x h => ⟨_, fun k => rfl, b0_ws x.1 x.2 h.1 h.2⟩)).addF (mkF_ok fun x h => ⟨_, fun k => rfl, b0_wb x.1 x.2 h.1 h.2⟩)).addF (mkF_ok fun x h => ⟨_, fun k => rfl, b0_len x h⟩)).addF (mkF_ok fun x h => ⟨_, fun k => rfl, b0_str x h.1 h.2⟩)
end Go.Mu
set_option linter.unusedVariables false
set_option linter.unusedSimpArgs false
set_option maxRecDepth 100000
namespace Go.Mu
open Go Go.Proofs
end Go.Mu
set_option linter.unusedVariables false
set_option linter.unusedSimpArgs false
set_option maxRecDepth 100000
namespace Go.Mu
open Go Go.Proofs
noncomputable def layY6 (R : Int → List UInt8 → Int) : Lay := layY5.addL 187 (vaFH R)
theorem va_fun (R : Int → List UInt8 → Int) (s : List UInt8) (b : Bool) (k : Out → Ans) : iFun Tryd.prog ((layY6 R).hd Tryd.prog) (layY6 R).fhs 0 187 [.str s, .bool b] [] k = (
 let l0 : List UInt8 :=
  decL (fun (r : List AVal) => byteOf r)
  (AVal.list false s.length fun (i : Nat) => [AVal.int IntKind.u8 (↑(s.getD i 0).toNat : Int)]);
 let m1 : Nat := l0.length;
 let n2 : Int := (↑s.length : Int);
  bif b then k (Out.ret (AVal.int IntKind.i64 (unhexM s).fst) [])
  else
  bif
  tst
  ((Int.toNat 0 ≤ m1 ∧ m1 ≤ 1099511627776 ∧ n2 = (↑m1 : Int)) ∧
  SubTL
  [AVal.int IntKind.i64 0,
  AVal.list false s.length fun (i : Nat) => [AVal.int IntKind.u8 (↑(s.getD i 0).toNat : Int)],
  AVal.int IntKind.i64 n2, AVal.int IntKind.i64 0]
  [AVal.int IntKind.i64 0,
  AVal.list false m1 fun (i : Nat) =>
  [AVal.int IntKind.u8
  (↑((decL (fun (r : List AVal) => byteOf r)
  (AVal.list false s.length fun (i : Nat) =>
  [AVal.int IntKind.u8 (↑(s.getD i 0).toNat : Int)])).getD
  i 0).toNat :
  Int)],
  AVal.int IntKind.i64 n2, AVal.int IntKind.i64 (↑(Int.toNat 0) : Int)] ∧
  ([] : List (List AVal)) = [] ∧ ([] : Heap) = []) then
  k (Out.ret (AVal.int IntKind.i64 (R 0 (List.drop (Int.toNat 0) l0))) [])
  else none) := by kernel_rfl
/- Encode, whatever it tells -/
def Leaf (F : (Out → Ans) → Ans) : Prop := ∃ (t : List UInt8) (e : Int), t.length ≤ 4 ∧ ∀ k, F k = k (.ret (.tuple [.str t, .int .i64 e]) [])
theorem leaf_bif {b : Bool} {F G : (Out → Ans) → Ans} (h1 : Leaf F) (h2 : Leaf G) : Leaf (fun k => bif b then F k else G k) := by
  cases b
  · exact h2
  · exact h1
theorem leaf_k (t : List UInt8) (e : Int) (h : t.length ≤ 4) : Leaf (fun k => k (.ret (.tuple [.str t, .int .i64 e]) [])) := ⟨t, e, h, fun k => rfl⟩
theorem encode_leaf (n : Int) : Leaf (fun k => iFun Tryd.prog (Lay.nil.hd Tryd.prog) Lay.nil.fhs 0 188 [.int .i64 n] [] k) := by
  have e := funext (encode_fun n)
  rw [show (fun k => iFun Tryd.prog (Lay.nil.hd Tryd.prog) Lay.nil.fhs 0 188 [.int .i64 n] [] k) = _ from e]
  dsimp only
  repeat' (first | exact leaf_k _ _ (by simp) | refine leaf_bif ?_ ?_)
noncomputable def encS' (n : Int) : List UInt8 := Classical.choose (encode_leaf n)
noncomputable def encE (n : Int) : Int := Classical.choose (Classical.choose_spec (encode_leaf n))
theorem encS_len (n : Int) : (encS' n).length ≤ 4 := (Classical.choose_spec (Classical.choose_spec (encode_leaf n))).1
theorem encode_is (n : Int) (k : Out → Ans) : iFun Tryd.prog (Lay.nil.hd Tryd.prog) Lay.nil.fhs 0 188 [.int .i64 n] [] k = k (.ret (.tuple [.str (encS' n), .int .i64 (encE n)]) []) := (Classical.choose_spec (Classical.choose_spec (encode_leaf n))).2 k
noncomputable def encTold : FSp := mkFS [.i .i64] (fun _ => true) (fun xs k => k (.ret (.tuple [.str (encS' (aI xs 0)), .int .i64 (encE (aI xs 0))]) []))
theorem encTold_ok : ∀ xs H k out, encTold xs H k = some out → ∃ o, CallOK Tryd.prog 188 xs H o ∧ k o = some out := mkFS_ok fun ys xs e h => by
  obtain ⟨n, rfl⟩ : ∃ n, xs = [.int .i64 n] := ⟨_, e⟩
  exact ⟨_, fun k => rfl, Lay.nil_ok.callF (G := []) rfl (fun k => encode_is n k)⟩
def valA (s : List UInt8) (b : Bool) : Int := bif b then (unhexM s).1 else vaM 0 s
theorem layY6_ok : (layY6 vaM).OK Tryd.prog := layY5_ok.loop1 (id := 6) (by kernel_rfl) (by kernel_rfl) (by kernel_rfl) vaSp_ok
def valTold : FSp := mkFS [.s, .b] (fun xs => decide ((aS xs 0).length ≤ 1099511627776)) (fun xs k => k (.ret (.int .i64 (valA (aS xs 0) (aB xs 1))) []))
theorem valTold_ok : ∀ xs H k out, valTold xs H k = some out → ∃ o, CallOK Tryd.prog 187 xs H o ∧ k o = some out := mkFS_ok fun ys xs e h => by
  obtain ⟨s, b, rfl⟩ : ∃ s b, xs = [.str s, .bool b] := ⟨_, _, e⟩
  replace h : s.length ≤ 1099511627776 := of_decide_eq_true h
  refine ⟨_, fun k => rfl, layY6_ok.callF (G := []) rfl (fun k => (va_fun vaM s b k).trans ?_)⟩
  show _ = k (.ret (.int .i64 (valA s b)) [])
  unfold valA
  simp only [bytes_back]
  cases b with
  | true => rfl
  | false =>
    simp only [cond_false]
    refine (congrArg (fun c => cond c _ none) (tst_true ⟨⟨Nat.zero_le _, h, trivial⟩, .refl _, by trivial⟩)).trans ?_
    simp only [cond_true, Int.toNat_zero, List.drop_zero]
noncomputable def layY7 : Lay := (((Lay.nil.addF 57 ibTold).addF 186 numrTold).addF 187 valTold).addF 188 encTold
theorem layY7_ok : layY7.OK Tryd.prog := (((Lay.nil_ok.addF ibTold_ok).addF numrTold_ok).addF valTold_ok).addF encTold_ok
theorem rone_fun (s : List UInt8) (k : Out → Ans) (n0 : Int) (e_n0 : n0 = ((↑s.length : Int)))
  (c1 : Bool) (e_c1 : c1 = (s == []))
  (n2 : Int) (e_n2 : n2 = (if 16 < n0 then 16 else n0))
  (n3 : Int) (e_n3 : n3 = (ibM (List.drop (Int.toNat 0) (List.take n2.toNat s)) 59))
  (c4 : Bool) (e_c4 : c4 = (decide (1 ≤ n3) && decide (n3 ≤ n0)))
  (l5 : List UInt8) (e_l5 : l5 = (List.drop (Int.toNat 1) (List.take n3.toNat s)))
  (m6 : Nat) (e_m6 : m6 = (l5.length))
  (n7 : Int) (e_n7 : n7 = ((↑m6 : Int)))
  (c8 : Bool) (e_c8 : c8 = (decide (1 ≤ n7)))
  (c9 : Bool) (e_c9 : c9 = (decide (n7 ≥ 1)))
  (l10 : List UInt8) (e_l10 : l10 = (List.drop (Int.toNat 1) (List.take n7.toNat l5)))
  (m11 : Nat) (e_m11 : m11 = (l10.length))
  (n12 : Int) (e_n12 : n12 = ((↑m11 : Int)))
  (c13 : Bool) (e_c13 : c13 = (l10 == []))
  (c14 : Bool) (e_c14 : c14 = (!c13))
  (l15 : List UInt8) (e_l15 : l15 = (List.drop (Int.toNat 1) (List.take n12.toNat l10)))
  (c16 : Bool) (e_c16 : c16 = (decide (l15.length ≤ 1099511627776)))
  (n17 : Int) (e_n17 : n17 = (valA l15 true))
  (c18 : Bool) (e_c18 : c18 = (decide (m11 ≤ 1099511627776)))
  (n19 : Int) (e_n19 : n19 = (valA l10 false)) : iFun Tryd.prog (layY7.hd Tryd.prog) layY7.fhs 0 122 [.str s] [] k = (
  bif decide (0 < n0) || !!c1 then
  bif bif c1 then true else (↑(s.getD 0 0).toNat : Int) != 38 then
  k (Out.ret (AVal.tuple [AVal.str [], AVal.int IntKind.i64 0]) [])
  else
  bif decide (0 ≤ n2) && decide (n2 ≤ n0) then
  bif decide (n3 < 0) then k (Out.ret (AVal.tuple [AVal.str [], AVal.int IntKind.i64 0]) [])
  else
  bif c4 then
  bif l5 == [97, 109, 112] then
  k (Out.ret (AVal.tuple [AVal.str [38], AVal.int IntKind.i64 (IntKind.i64.wrap (n3 + 1))]) [])
  else
  bif l5 == [108, 116] then
  k (Out.ret (AVal.tuple [AVal.str [60], AVal.int IntKind.i64 (IntKind.i64.wrap (n3 + 1))]) [])
  else
  bif l5 == [103, 116] then
  k (Out.ret (AVal.tuple [AVal.str [62], AVal.int IntKind.i64 (IntKind.i64.wrap (n3 + 1))]) [])
  else
  bif l5 == [113, 117, 111, 116] then
  k (Out.ret (AVal.tuple [AVal.str [34], AVal.int IntKind.i64 (IntKind.i64.wrap (n3 + 1))]) [])
  else
  bif l5 == [97, 112, 111, 115] then
  k (Out.ret (AVal.tuple [AVal.str [39], AVal.int IntKind.i64 (IntKind.i64.wrap (n3 + 1))]) [])
  else
  bif c4 then
  bif c8 || !c9 then
  bif !bif c9 then List.drop (Int.toNat 0) (List.take (Int.toNat 1) l5) == [35] else false then
  bif decide (0 < n7) || true then
  bif decide (m6 ≤ 1099511627776) then
  k (Out.ret (AVal.tuple [AVal.str [], AVal.int IntKind.i64 0]) [])
  else none
  else none
  else
  bif c8 && decide (n7 ≤ n7) then
  bif decide (0 < n12) || !c14 then
  bif
  bif c14 then
  IntKind.u8.wrap
  (↑(BitVec.ofInt 8 (↑(l10.getD 0 0).toNat : Int) ||| BitVec.ofInt 8 32).toNat :
  Int) ==
  120
  else false then
  bif decide (1 ≤ n12) && decide (n12 ≤ n12) then
  bif c16 then
  bif bif l15 == [] then true else !numB l15 true then
  k (Out.ret (AVal.tuple [AVal.str [], AVal.int IntKind.i64 0]) [])
  else
  bif c16 then
  bif bif encE n17 != 0 then true else n17 == 0 then
  k
  (Out.ret
  (AVal.tuple
  [AVal.str [239, 191, 189],
  AVal.int IntKind.i64 (IntKind.i64.wrap (n3 + 1))])
  [])
  else
  k
  (Out.ret
  (AVal.tuple
  [AVal.str (encS' n17),
  AVal.int IntKind.i64 (IntKind.i64.wrap (n3 + 1))])
  [])
  else none
  else none
  else none
  else
  bif c18 then
  bif bif c13 then true else !numB l10 false then
  k (Out.ret (AVal.tuple [AVal.str [], AVal.int IntKind.i64 0]) [])
  else
  bif c18 then
  bif bif encE n19 != 0 then true else n19 == 0 then
  k
  (Out.ret
  (AVal.tuple
  [AVal.str [239, 191, 189],
  AVal.int IntKind.i64 (IntKind.i64.wrap (n3 + 1))])
  [])
  else
  k
  (Out.ret
  (AVal.tuple
  [AVal.str (encS' n19), AVal.int IntKind.i64 (IntKind.i64.wrap (n3 + 1))])
  [])
  else none
  else none
  else none
  else none
  else none
  else none
  else none
  else none
  else none) := by
  subst e_n0 e_c1 e_n2 e_n3 e_c4 e_l5 e_m6 e_n7 e_c8 e_c9 e_l10 e_m11 e_n12 e_c13 e_c14 e_l15 e_c16 e_n17 e_c18 e_n19
  kernel_rfl
end Go.Mu
set_option linter.unusedVariables false
set_option linter.unusedSimpArgs false
set_option maxRecDepth 100000
namespace Go.Mu
open Go Go.Proofs
theorem ib_lt : ∀ (l : List UInt8) (c : UInt8), Lib.indexByte l c < l.length
  | [], c => by show (-1 : Int) < 0; decide
  | b :: l, c => by
    have := ib_lt l c
    rw [Lib.indexByte, List.length_cons]
    split
    · omega
    · split <;> omega
def OL (s : List UInt8) (F : (Out → Ans) → Ans) : Prop := ∃ (t : List UInt8) (n : Nat), t.length ≤ 4 ∧ (n = 0 → t = []) ∧ n ≤ s.length ∧ ∀ k, F k = k (.ret (.tuple [.str t, .int .i64 (n : Nat)]) [])
theorem ol_bif {s : List UInt8} {b : Bool} {F G : (Out → Ans) → Ans} (h1 : OL s F) (h2 : OL s G) : OL s (fun k => bif b then F k else G k) := by
  cases b
  · exact h2
  · exact h1
theorem ol_0 (s : List UInt8) : OL s (fun k => k (.ret (.tuple [.str [], .int .i64 0]) [])) := ⟨[], 0, by simp, fun _ => rfl, Nat.zero_le _, fun k => rfl⟩
theorem ol_k {s : List UInt8} (t : List UInt8) (n : Nat) (h : t.length ≤ 4) (h2 : 1 ≤ n ∧ n ≤ s.length) : OL s (fun k => k (.ret (.tuple [.str t, .int .i64 (n : Nat)]) [])) := ⟨t, n, h, fun h0 => by omega, h2.2, fun k => rfl⟩
theorem one_ol (t : List UInt8) (ht : t.length < 1099511627776) : OL (38 :: t) (fun k => iFun Tryd.prog (layY7.hd Tryd.prog) layY7.fhs 0 122 [.str (38 :: t)] [] k) := by
  obtain ⟨s, hs⟩ : ∃ s, s = 38 :: t := ⟨_, rfl⟩
  rw [← hs]
  have hl : s.length = t.length + 1 := by rw [hs]; rfl
  obtain ⟨n0, e0⟩ : ∃ n0 : Int, n0 = s.length := ⟨_, rfl⟩
  obtain ⟨c1, e1⟩ : ∃ c1, c1 = (s == []) := ⟨_, rfl⟩
  obtain ⟨n2, e2⟩ : ∃ n2 : Int, n2 = (if 16 < n0 then 16 else n0) := ⟨_, rfl⟩
  obtain ⟨n3, e3⟩ : ∃ n3, n3 = ibM (List.drop (Int.toNat 0) (List.take n2.toNat s)) 59 := ⟨_, rfl⟩
  obtain ⟨c4, e4⟩ : ∃ c4, c4 = (decide (1 ≤ n3) && decide (n3 ≤ n0)) := ⟨_, rfl⟩
  obtain ⟨l5, e5⟩ : ∃ l5, l5 = List.drop (Int.toNat 1) (List.take n3.toNat s) := ⟨_, rfl⟩
  obtain ⟨m6, e6⟩ : ∃ m6, m6 = l5.length := ⟨_, rfl⟩
  obtain ⟨n7, e7⟩ : ∃ n7 : Int, n7 = m6 := ⟨_, rfl⟩
  obtain ⟨c8, e8⟩ : ∃ c8, c8 = decide (1 ≤ n7) := ⟨_, rfl⟩
  obtain ⟨c9, e9⟩ : ∃ c9, c9 = decide (n7 ≥ 1) := ⟨_, rfl⟩
  obtain ⟨l10, e10⟩ : ∃ l10, l10 = List.drop (Int.toNat 1) (List.take n7.toNat l5) := ⟨_, rfl⟩
  obtain ⟨m11, e11⟩ : ∃ m11, m11 = l10.length := ⟨_, rfl⟩
  obtain ⟨n12, e12⟩ : ∃ n12 : Int, n12 = m11 := ⟨_, rfl⟩
  obtain ⟨c13, e13⟩ : ∃ c13, c13 = (l10 == []) := ⟨_, rfl⟩
  obtain ⟨c14, e14⟩ : ∃ c14, c14 = !c13 := ⟨_, rfl⟩
  obtain ⟨l15, e15⟩ : ∃ l15, l15 = List.drop (Int.toNat 1) (List.take n12.toNat l10) := ⟨_, rfl⟩
  obtain ⟨c16, e16⟩ : ∃ c16, c16 = decide (l15.length ≤ 1099511627776) := ⟨_, rfl⟩
  obtain ⟨n17, e17⟩ : ∃ n17, n17 = valA l15 true := ⟨_, rfl⟩
  obtain ⟨c18, e18⟩ : ∃ c18, c18 = decide (m11 ≤ 1099511627776) := ⟨_, rfl⟩
  obtain ⟨n19, e19⟩ : ∃ n19, n19 = valA l10 false := ⟨_, rfl⟩
  have key := funext (fun k => rone_fun s k n0 e0 c1 e1 n2 e2 n3 e3 c4 e4 l5 e5 m6 e6 n7 e7 c8 e8 c9 e9 l10 e10 m11 e11 n12 e12 c13 e13 c14 e14 l15 e15 c16 e16 n17 e17 c18 e18 n19 e19)
  rw [key]
  clear key
  have h1 : c1 = false := by rw [e1, hs]; rfl
  have hc : (((s.getD 0 0).toNat : Int) != 38) = false := by rw [hs]; rfl
  have g0 : decide (0 < n0) = true := dT (by omega)
  have h2 : 0 ≤ n2 ∧ n2 ≤ n0 := by rw [e2]; split <;> omega
  have h5 : l5.length ≤ s.length := by rw [e5]; simp; omega
  have h10 : l10.length ≤ s.length := by rw [e10]; simp; omega
  have h15 : l15.length ≤ s.length := by rw [e15]; simp; omega
  have g16 : c16 = true := by rw [e16]; exact dT (by omega)
  have g18 : c18 = true := by rw [e18]; exact dT (by omega)
  have g6 : decide (m6 ≤ 1099511627776) = true := dT (by omega)
  have g77 : decide (n7 ≤ n7) = true := dT (Int.le_refl _)
  have g1212 : decide (n12 ≤ n12) = true := dT (Int.le_refl _)
  simp only [h1, hc, g0, dT h2.1, dT h2.2, Bool.true_or, cond_true, cond_false, Bool.and_self]
  by_cases h3 : n3 < 0
  · simp only [dT h3, cond_true]; exact ol_0 s
  have h31 : 1 ≤ n3 ∧ n3 < n2 := by
    have hlt := ib_lt (List.drop (Int.toNat 0) (List.take n2.toNat s)) 59
    have hd : (List.drop (Int.toNat 0) (List.take n2.toNat s)).length = n2.toNat := by simp; omega
    have e3' : n3 = Lib.indexByte (List.drop (Int.toNat 0) (List.take n2.toNat s)) 59 := e3
    refine ⟨?_, by omega⟩
    have hp : 0 < n2.toNat := by rw [e2]; split <;> omega
    obtain ⟨q, hq⟩ : ∃ q, n2.toNat = q + 1 := ⟨n2.toNat - 1, by omega⟩
    rw [hq, hs, List.take_succ_cons] at e3'
    have : n3 = if ((38 : UInt8) == 59) = true then 0 else if (Lib.indexByte (t.take q) 59 == -1) = true then -1 else Lib.indexByte (t.take q) 59 + 1 := e3'
    rw [if_neg (by decide)] at this
    have hge := Lib.indexByte_ge (t.take q) 59
    split at this
    · omega
    · rename_i hne
      have : Lib.indexByte (t.take q) 59 ≠ -1 := by simpa using hne
      omega
  have g4 : c4 = true := by rw [e4, dT h31.1, dT (show n3 ≤ n0 by omega)]; rfl
  have hw : IntKind.i64.wrap (n3 + 1) = (((n3 + 1).toNat : Nat) : Int) := by rw [wrap_of (by omega) (by omega)]; omega
  have hn : 1 ≤ (n3 + 1).toNat ∧ (n3 + 1).toNat ≤ s.length := by omega
  simp only [dF h3, g4, hw, g6, g16, g18, g77, g1212, Bool.and_true, Bool.or_true, cond_true, cond_false]
  by_cases h7 : 1 ≤ n7
  case neg =>
    have g8 : c8 = false := by rw [e8]; exact dF h7
    have g9 : c9 = false := by rw [e9]; exact dF h7
    simp only [g8, g9, Bool.not_false, Bool.or_true, cond_true, cond_false]
    repeat' (first | exact ol_0 s | exact ol_k _ _ (by simp) hn | refine ol_bif ?_ ?_)
  have g8 : c8 = true := by rw [e8]; exact dT h7
  have g9 : c9 = true := by rw [e9]; exact dT h7
  by_cases he : l10 = []
  case pos =>
    have g13 : c13 = true := by rw [e13, he]; rfl
    have g14 : c14 = false := by rw [e14, g13]; rfl
    simp only [g8, g9, g13, g14, Bool.not_false, Bool.or_true, Bool.true_or, cond_true, cond_false]
    repeat' (first | exact ol_0 s | exact ol_k _ _ (by simp) hn | exact ol_k _ _ (encS_len _) hn | refine ol_bif ?_ ?_)
  have hp : 0 < l10.length := List.length_pos_iff.2 he
  have g13 : c13 = false := by rw [e13]; simpa using he
  have g14 : c14 = true := by rw [e14, g13]; rfl
  have g12 : decide (0 < n12) = true := dT (by omega)
  have g12' : decide (1 ≤ n12) = true := dT (by omega)
  simp only [g8, g9, g13, g14, g12, g12', Bool.not_false, Bool.not_true, Bool.or_true, Bool.true_or, cond_true, cond_false]
  repeat' (first | exact ol_0 s | exact ol_k _ _ (by simp) hn | exact ol_k _ _ (encS_len _) hn | refine ol_bif ?_ ?_)
theorem one_any (s : List UInt8) (hs : s.length ≤ 1099511627776) : OL s (fun k => iFun Tryd.prog (layY7.hd Tryd.prog) layY7.fhs 0 122 [.str s] [] k) ∧ ((s.getD 0 0 == 38) = false → ∀ k, iFun Tryd.prog (layY7.hd Tryd.prog) layY7.fhs 0 122 [.str s] [] k = k (.ret (.tuple [.str [], .int .i64 0]) [])) := by
  cases h : s.getD 0 0 == 38 with
  | true =>
    cases s with
    | nil => cases h
    | cons c t =>
      obtain rfl : c = 38 := by simpa using h
      exact ⟨one_ol t (by rw [List.length_cons] at hs; omega), (fun h => by cases h)⟩
  | false =>
    have key : ∀ k, iFun Tryd.prog (layY7.hd Tryd.prog) layY7.fhs 0 122 [.str s] [] k = k (.ret (.tuple [.str [], .int .i64 0]) []) := fun k => by
      refine (rone_fun s k _ rfl _ rfl _ rfl _ rfl _ rfl _ rfl _ rfl _ rfl _ rfl _ rfl _ rfl _ rfl _ rfl _ rfl _ rfl _ rfl _ rfl _ rfl _ rfl _ rfl).trans ?_
      have hc : (((s.getD 0 0).toNat : Int) != 38) = true := by
        have : (((s.getD 0 0).toNat : Int) == 38) = false := by rw [eqc (show 38 < 256 by decide)]; exact h
        show (!((s.getD 0 0).toNat : Int) == 38) = true
        rw [this]; rfl
      cases s with
      | nil => rfl
      | cons c t =>
        rw [dT (show (0 : Int) < ((c :: t).length : Int) by simp), hc]
        rfl
    refine ⟨?_, fun _ => key⟩
    rw [show (fun k => iFun Tryd.prog (layY7.hd Tryd.prog) layY7.fhs 0 122 [.str s] [] k) = _ from funext key]
    exact ol_0 s
open Classical in
noncomputable def oneP (s : List UInt8) : List UInt8 × Nat := if h : s.length ≤ 1099511627776 then (Classical.choose (one_any s h).1, Classical.choose (Classical.choose_spec (one_any s h).1)) else ([], 0)
theorem oneP_is (s : List UInt8) (h : s.length ≤ 1099511627776) : (oneP s).1.length ≤ 4 ∧ ((oneP s).2 = 0 → (oneP s).1 = []) ∧ (oneP s).2 ≤ s.length ∧ ∀ k, iFun Tryd.prog (layY7.hd Tryd.prog) layY7.fhs 0 122 [.str s] [] k = k (.ret (.tuple [.str (oneP s).1, .int .i64 ((oneP s).2 : Nat)]) []) := by
  have := Classical.choose_spec (Classical.choose_spec (one_any s h).1)
  unfold oneP
  rw [dif_pos h]
  exact this
theorem oneP_eq {s t : List UInt8} {n : Nat} (h : s.length ≤ 1099511627776) (hk : ∀ k, iFun Tryd.prog (layY7.hd Tryd.prog) layY7.fhs 0 122 [.str s] [] k = k (.ret (.tuple [.str t, .int .i64 (n : Nat)]) [])) : oneP s = (t, n) := by
  have h2 := (oneP_is s h).2.2.2
  have h3 := fun k => (h2 k).symm.trans (hk k)
  have h4 := h3 some
  simp only [Option.some.injEq, Out.ret.injEq, AVal.tuple.injEq, List.cons.injEq, AVal.str.injEq, AVal.int.injEq, and_true, true_and] at h4
  rw [← h4.1, ← Int.ofNat.inj h4.2]
theorem oneP_no {s : List UInt8} (h : s.length ≤ 1099511627776) (hc : (s.getD 0 0 == 38) = false) : oneP s = ([], 0) := oneP_eq h ((one_any s h).2 hc)
theorem oneP_lt : oneP [38, 108, 116, 59] = ([60], 4) := oneP_eq (by decide) (fun k => by kernel_rfl)
noncomputable def onePTold : FSp := mkFS [.s] (fun xs => decide ((aS xs 0).length ≤ 1099511627776)) (fun xs k => k (.ret (.tuple [.str (oneP (aS xs 0)).1, .int .i64 ((oneP (aS xs 0)).2 : Nat)]) []))
theorem onePTold_ok : ∀ xs H k out, onePTold xs H k = some out → ∃ o, CallOK Tryd.prog 122 xs H o ∧ k o = some out := mkFS_ok fun ys xs e h => by
  obtain ⟨s, rfl⟩ : ∃ s, xs = [.str s] := ⟨_, e⟩
  exact ⟨_, fun k => rfl, layY7_ok.callF (G := []) rfl (fun k => (oneP_is s (of_decide_eq_true h)).2.2.2 k)⟩
end Go.Mu
set_option linter.unusedVariables false
set_option linter.unusedSimpArgs false
set_option maxRecDepth 100000
namespace Go.Mu
open Go Go.Proofs
noncomputable def layY8 : Lay := b0_lay (Lay.nil.addF 122 onePTold)
theorem layY8_ok : layY8.OK Tryd.prog := b0_ok (Lay.nil_ok.addF onePTold_ok)
noncomputable def decX : Nat → List UInt8 → Bld → Bld
  | 0, _, x => x
  | m + 1, s, x => bif s == [] then x else bif decide (0 < (oneP s).2) then decX m (s.drop (oneP s).2) (x.add 0 2 (oneP s).1) else decX m (s.drop 1) (x.add 0 2 [s.getD 0 0])
noncomputable def decR : Nat → List UInt8 → List UInt8
  | 0, _ => []
  | m + 1, s => bif s == [] then [] else bif decide (0 < (oneP s).2) then (oneP s).1 ++ decR m (s.drop (oneP s).2) else s.getD 0 0 :: decR m (s.drop 1)
noncomputable def dcSp (R : List UInt8 → Bld → Bld) : LSp := mkL (fun vs _ H => (bld H 0 2, aS vs 0)) (fun x => x.1.can 0 2 ∧ x.1.t.length + 4 * x.2.length ≤ 1073741824) (fun x => [.str x.2, .ptr (.hp 0) 0]) (fun _ => []) (fun x => (b0H.mk x.1).heap)
  (fun x k => k (.exit 0) [.ptr (.hp 0) 0] [] (b0H.mk (R x.2 x.1)).heap)
noncomputable def dcFH (R : List UInt8 → Bld → Bld) : FH := { FH.of [(2, loopSpec 26 [0,3] [] [3] [] (dcSp R))] with heap := [3], typed := [(3, [(0, bT)])], exact := true }
theorem dc_step (R : List UInt8 → Bld → Bld) (x : Bld) (s : List UInt8) (D : List (FuncId × List AVal)) (k : Kont) (n0 : Int) (e_n0 : n0 = ((↑(oneP s).snd : Int)))
  (l1 : List UInt8) (e_l1 : l1 = ((Bld.mk x.ad x.b x.rows x.v).t))
  (m2 : Nat) (e_m2 : m2 = (l1.length))
  (l3 : List UInt8) (e_l3 : l3 = ((oneP s).fst))
  (n4 : Int) (e_n4 : n4 = ((↑s.length : Int)))
  (c5 : Bool) (e_c5 : c5 = (decide (n4 ≤ n4)))
  (l6 : List UInt8) (e_l6 : l6 = (List.take n4.toNat s))
  (m7 : Nat) (e_m7 : m7 = (wsV l1 l3 x.v))
  (n8 : Int) (e_n8 : n8 = ((↑(s.getD 0 0).toNat : Int)))
  (v9 : UInt8) (e_v9 : v9 = (UInt8.ofNat n8.toNat))
  (l10 : List UInt8) (e_l10 : l10 = ([v9]))
  (m11 : Nat) (e_m11 : m11 = (wsV l1 l10 x.v)) : lturn Tryd.prog layY8 (dcFH R) 68 2 [0,3] [] [3] [] (stL 26 [0,3] [.str s, .ptr (.hp 0) 0] [] [] (b0H.mk x).heap D) k = (
  bif !s == [] then
  bif decide (s.length ≤ 1099511627776) then
  bif decide (n0 > 0) then
  bif
  tst
  ((Bld.can 0 2 (Bld.mk x.ad x.b x.rows x.v) ∧ m2 + l3.length ≤ 1099511627776) ∧
  SubL [AVal.ptr (Oid.hp 0) 0, AVal.str l3] [AVal.ptr (Oid.hp 0) 0, AVal.str l3] ∧
  (b0H.mk x).heap = (b0H.mk (Bld.mk x.ad x.b x.rows x.v)).heap) then
  bif decide (n0 ≤ n4) && c5 then
  k AExit.normal
  (stL 26 [0, 3] [AVal.str (List.drop n0.toNat l6), AVal.ptr (Oid.hp 0) 0] [] []
  (b0H.mk
  (Bld.mk (AVal.ptr (Oid.hp 0) 0) (bfB 2 (l1.append l3) m7)
  (x.rows.append (List.map (fun (c : UInt8) => [AVal.int IntKind.u8 (↑c.toNat : Int)]) l3)) m7)).heap
  D)
  else none
  else none
  else
  bif decide (0 < n4) then
  bif
  tst
  ((Bld.can 0 2 (Bld.mk x.ad x.b x.rows x.v) ∧ m2 ≤ 1073741824) ∧
  SubL [AVal.ptr (Oid.hp 0) 0, AVal.int IntKind.u8 n8]
  [AVal.ptr (Oid.hp 0) 0, AVal.int IntKind.u8 (↑v9.toNat : Int)] ∧
  (b0H.mk x).heap = (b0H.mk (Bld.mk x.ad x.b x.rows x.v)).heap) then
  bif decide (1 ≤ n4) && c5 then
  k AExit.normal
  (stL 26 [0, 3] [AVal.str (List.drop (Int.toNat 1) l6), AVal.ptr (Oid.hp 0) 0] [] []
  (b0H.mk
  (Bld.mk (AVal.ptr (Oid.hp 0) 0) (bfB 2 (l1.append l10) m11)
  (x.rows.append [[AVal.int IntKind.u8 (↑v9.toNat : Int)]]) m11)).heap
  D)
  else none
  else none
  else none
  else none
  else k (AExit.exit 0) (stL 26 [3] [AVal.ptr (Oid.hp 0) 0] [] [] (b0H.mk x).heap D)) := by
  subst e_n0 e_l1 e_m2 e_l3 e_n4 e_c5 e_l6 e_m7 e_n8 e_v9 e_l10 e_m11
  kernel_rfl
noncomputable def layY9 (R : List UInt8 → Bld → Bld) : Lay := layY8.addL 68 (dcFH R)
theorem dc_fun (R : List UInt8 → Bld → Bld) (s : List UInt8) (k : Out → Ans) (m0 : Nat) (e_m0 : m0 = ((R s (Bld.mk AVal.nilptr AVal.nilX [] 0)).v))
  (l1 : List UInt8) (e_l1 : l1 = ((Bld.mk (R s (Bld.mk AVal.nilptr AVal.nilX [] 0)).ad (R s (Bld.mk AVal.nilptr AVal.nilX [] 0)).b
      (R s (Bld.mk AVal.nilptr AVal.nilX [] 0)).rows m0).t)) : iFun Tryd.prog ((layY9 R).hd Tryd.prog) (layY9 R).fhs 0 68 [.str s] [] k = (
  bif
      tst
        ((Bld.can 0 2 (Bld.mk AVal.nilptr AVal.nilX [] 0) ∧ 0 + 4 * s.length ≤ 1073741824) ∧
          SubTL [AVal.str s, AVal.ptr (Oid.hp 0) 0] [AVal.str s, AVal.ptr (Oid.hp 0) 0] ∧
            ([] : List (List AVal)) = [] ∧
              [Obj.var [AVal.nilptr, AVal.nilX], Obj.note 98 2, Obj.arr 1 [] 0, Obj.note 5 0] =
                (b0H.mk (Bld.mk AVal.nilptr AVal.nilX [] 0)).heap) then
    bif
        tst
          ((Bld.can 0 2
                (Bld.mk (R s (Bld.mk AVal.nilptr AVal.nilX [] 0)).ad (R s (Bld.mk AVal.nilptr AVal.nilX [] 0)).b
                  (R s (Bld.mk AVal.nilptr AVal.nilX [] 0)).rows m0) ∧
              l1.length ≤ 1099511627776) ∧
            SubL [AVal.ptr (Oid.hp 0) 0] [AVal.ptr (Oid.hp 0) 0] ∧
              (b0H.mk (R s (Bld.mk AVal.nilptr AVal.nilX [] 0))).heap =
                (b0H.mk
                    (Bld.mk (R s (Bld.mk AVal.nilptr AVal.nilX [] 0)).ad (R s (Bld.mk AVal.nilptr AVal.nilX [] 0)).b
                      (R s (Bld.mk AVal.nilptr AVal.nilX [] 0)).rows m0)).heap) then
      k
        (Out.ret (AVal.str l1)
          (b0H.mk
              (Bld.mk (R s (Bld.mk AVal.nilptr AVal.nilX [] 0)).ad (R s (Bld.mk AVal.nilptr AVal.nilX [] 0)).b []
                (bif l1 == [] then m0 else m0 + 1))).heap)
    else none
  else none) := by
  subst e_m0 e_l1
  kernel_rfl
noncomputable abbrev dcTurn (R : List UInt8 → Bld → Bld) := lturn Tryd.prog layY8 (dcFH R) 68 2 [0,3] [] [3] []
theorem dc_runs (R : List UInt8 → Bld → Bld) : ∀ (m : Nat) (s : List UInt8) (x : Bld), s.length ≤ m → x.can 0 2 → x.t.length + 4 * s.length ≤ 1073741824 →
    LoopRuns (dcTurn R) 26 [0,3] [] [3] [] [.str s, .ptr (.hp 0) 0] [] (b0H.mk x).heap (.exit 0) [.ptr (.hp 0) 0] [] (b0H.mk (decX m s x)).heap := by
  intro m
  induction m with
  | zero =>
    intro s x hm hx ht
    obtain rfl : s = [] := List.eq_nil_of_length_eq_zero (by omega)
    exact .stop (by simp) (fun D k => dc_step R x [] D k _ rfl _ rfl _ rfl _ rfl _ rfl _ rfl _ rfl _ rfl _ rfl _ rfl _ rfl _ rfl)
  | succ m ih =>
    intro s x hm hx ht
    cases h0 : s == [] with
    | true =>
      obtain rfl : s = [] := by simpa using h0
      exact .stop (by simp) (fun D k => dc_step R x [] D k _ rfl _ rfl _ rfl _ rfl _ rfl _ rfl _ rfl _ rfl _ rfl _ rfl _ rfl _ rfl)
    | false =>
      have hne : s ≠ [] := by simpa using h0
      have hl : 0 < s.length := List.length_pos_iff.2 hne
      obtain ⟨o1, o2, o3, _⟩ := oneP_is s (by omega)
      rw [decX, h0, cond_false]
      have key := fun D k => dc_step R x s D k ((oneP s).2 : Nat) rfl x.t rfl _ rfl (oneP s).1 rfl (s.length : Nat) rfl _ rfl s (by rw [Int.toNat_natCast, List.take_length]) _ rfl ((s.getD 0 0).toNat : Int) rfl (s.getD 0 0) (by simp) _ rfl _ rfl
      simp (disch := omega) only [h0, dT, Bool.not_false, cond_true, Bool.and_self, Int.toNat_natCast] at key
      by_cases hn : 0 < (oneP s).2
      · simp only [dT (show (((oneP s).2 : Nat) : Int) > 0 by omega), dT (show (((oneP s).2 : Nat) : Int) ≤ (s.length : Int) by omega), cond_true, Bool.and_true] at key
        replace key := fun D k => (key D k).trans ((congrArg (fun c => cond c _ none) (tst_true ⟨⟨hx, by omega⟩, .refl _, by trivial⟩)).trans rfl)
        rw [dT hn, cond_true]
        have hd : (s.drop (oneP s).2).length = s.length - (oneP s).2 := List.length_drop
        exact .step key (ih (s.drop (oneP s).2) (x.add 0 2 (oneP s).1) (by omega) (Bld.add_can hx _) (by rw [Bld.add_t, List.length_append]; omega))
      · simp only [dF (show ¬ (((oneP s).2 : Nat) : Int) > 0 by omega), cond_false] at key
        replace key := fun D k => (key D k).trans ((congrArg (fun c => cond c _ none) (tst_true ⟨⟨hx, by omega⟩, .refl _, by trivial⟩)).trans rfl)
        rw [dF hn, cond_false]
        have hd : (s.drop 1).length = s.length - 1 := List.length_drop
        exact .step key (ih (s.drop 1) (x.add 0 2 [s.getD 0 0]) (by omega) (Bld.add_can hx _) (by rw [Bld.add_t, List.length_append, List.length_singleton]; omega))
theorem dcSp_ok : SpOK (dcTurn (fun s x => decX s.length s x)) 26 [0,3] [] [3] [] (dcSp (fun s x => decX s.length s x)) := mkL_ok fun a h => ⟨_, _, _, _, fun k => rfl, dc_runs _ a.2.length a.2 a.1 (Nat.le_refl _) h.1 h.2⟩
theorem layY9_ok : (layY9 (fun s x => decX s.length s x)).OK Tryd.prog := layY8_ok.loop1 (id := 2) (by kernel_rfl) (by kernel_rfl) (by kernel_rfl) dcSp_ok
theorem decX_is : ∀ (m : Nat) (s : List UInt8) (x : Bld), x.can 0 2 → (decX m s x).can 0 2 ∧ (decX m s x).t = x.t ++ decR m s
  | 0, s, x, h => ⟨h, by rw [decX, decR, List.append_nil]⟩
  | m + 1, s, x, h => by
    rw [decX, decR]
    cases s == [] with
    | true => exact ⟨h, by simp⟩
    | false =>
      simp only [cond_false]
      cases decide (0 < (oneP s).2) with
      | true =>
        obtain ⟨h1, h2⟩ := decX_is m (s.drop (oneP s).2) _ (Bld.add_can h (oneP s).1)
        exact ⟨h1, by simp only [cond_true]; rw [h2, Bld.add_t, List.append_assoc]⟩
      | false =>
        obtain ⟨h1, h2⟩ := decX_is m (s.drop 1) _ (Bld.add_can h [s.getD 0 0])
        exact ⟨h1, by simp only [cond_false]; rw [h2, Bld.add_t, List.append_assoc]; rfl⟩
theorem decR_len : ∀ (m : Nat) (s : List UInt8), s.length ≤ 1099511627776 → (decR m s).length ≤ 4 * s.length
  | 0, s, _ => Nat.zero_le _
  | m + 1, s, hs => by
    rw [decR]
    cases h0 : s == [] with
    | true => exact Nat.zero_le _
    | false =>
      have hne : s ≠ [] := by simpa using h0
      have hl : 0 < s.length := List.length_pos_iff.2 hne
      obtain ⟨o1, o2, o3, _⟩ := oneP_is s hs
      simp only [cond_false]
      by_cases hn : 0 < (oneP s).2
      · rw [dT hn, cond_true, List.length_append]
        have hd : (s.drop (oneP s).2).length = s.length - (oneP s).2 := List.length_drop
        have := decR_len m (s.drop (oneP s).2) (by omega)
        omega
      · rw [dF hn, cond_false, List.length_cons]
        have hd : (s.drop 1).length = s.length - 1 := List.length_drop
        have := decR_len m (s.drop 1) (by omega)
        omega
noncomputable def decP (s : List UInt8) : List UInt8 := decR s.length s
theorem decP_ok (s : List UInt8) (hs : s.length ≤ 268435456) : CallOK Tryd.prog 68 [.str s] [] (.ret (.str (decP s)) []) := by
  obtain ⟨c1, t1⟩ := decX_is s.length s Bld.new (Bld.new_can 0 2)
  have hl := decR_len s.length s (by omega)
  have t2 : (decX s.length s Bld.new).t = decP s := by rw [t1]; rfl
  have key := fun k => (dc_fun (fun s x => decX s.length s x) s k _ rfl (decX s.length s Bld.new).t rfl).trans
    ((congrArg (fun c => cond c _ none) (tst_true ⟨⟨Bld.new_can 0 2, by omega⟩, .refl _, by trivial⟩)).trans ((cond_true _ _).trans
    ((congrArg (fun c => cond c _ none) (tst_true ⟨⟨c1, by rw [t2]; unfold decP; omega⟩, .refl _, by trivial⟩)).trans (cond_true _ _))))
  rw [← t2]
  exact layY9_ok.callF rfl key
noncomputable def decTold : FSp := mkFS [.s] (fun xs => decide ((aS xs 0).length ≤ 268435456)) (fun xs k => k (.ret (.str (decP (aS xs 0))) []))
theorem decTold_ok : ∀ xs H k out, decTold xs H k = some out → ∃ o, CallOK Tryd.prog 68 xs H o ∧ k o = some out := mkFS_ok fun ys xs e h => by
  obtain ⟨s, rfl⟩ : ∃ s, xs = [.str s] := ⟨_, e⟩
  exact ⟨_, fun k => rfl, decP_ok s (of_decide_eq_true h)⟩
/- Clean -/
structure ClA where
  s : List UInt8
  f : Bool
  l : List UInt8
  n : Int
  i : Nat
  H : Heap
end Go.Mu
set_option linter.unusedVariables false
set_option maxRecDepth 100000
namespace Go.Proofs
open Go.Shelf
def Tryd.uRen : Ren := {
  f := fun x => match x with
    | 168 => 152
    | 169 => 58
    | 197 => 210
    | 240 => 109
    | 242 => 202
    | 260 => 228
    | 276 => 170
    | 278 => 226
    | n => n,
  t := fun x => match x with
    | 0 => 0
    | 3 => 3
    | 4 => 4
    | 5 => 5
    | 9 => 9
    | 20 => 20
    | 21 => 21
    | 37 => 94
    | 46 => 159
    | 51 => 203
    | 70 => 96
    | 72 => 98
    | 75 => 100
    | 80 => 103
    | 105 => 206
    | 119 => 220
    | 127 => 133
    | 138 => 222
    | 139 => 223
    | 164 => 169
    | n => n,
  g := fun x => match x with
    | 3 => 1
    | 4 => 2
    | n => n }
theorem Tryd.uRen_168 : Lays.n168 Tryd.prog Tryd.uRen := {
  mixed := by kernel_rfl
  f168 := Tryd.func152.trans (congrArg some (by kernel_rfl))
  f240 := Tryd.func109.trans (congrArg some (by kernel_rfl))
  f242 := Tryd.func202.trans (congrArg some (by kernel_rfl))
  f276 := Tryd.func170.trans (congrArg some (by kernel_rfl))
  f278 := Tryd.func226.trans (congrArg some (by kernel_rfl))
  t0 := Tryd.underlying0
  a0 := Tryd.isAgg0
  z0 := Tryd.sizeOf0
  v0 := Tryd.zeroValue0
  t3 := Tryd.underlying3
  a3 := Tryd.isAgg3
  z3 := Tryd.sizeOf3
  v3 := Tryd.zeroValue3
  t4 := Tryd.underlying4
  a4 := Tryd.isAgg4
  z4 := Tryd.sizeOf4
  v4 := Tryd.zeroValue4
  t5 := Tryd.underlying5
  a5 := Tryd.isAgg5
  z5 := Tryd.sizeOf5
  v5 := Tryd.zeroValue5
  t9 := Tryd.underlying9
  a9 := Tryd.isAgg9
  z9 := Tryd.sizeOf9
  v9 := Tryd.zeroValue9
  t20 := Tryd.underlying20
  a20 := Tryd.isAgg20
  z20 := Tryd.sizeOf20
  v20 := Tryd.zeroValue20
  t21 := Tryd.underlying21
  a21 := Tryd.isAgg21
  z21 := Tryd.sizeOf21
  v21 := Tryd.zeroValue21
  t37 := Tryd.underlying94
  a37 := Tryd.isAgg94
  z37 := Tryd.sizeOf94
  v37 := Tryd.zeroValue94
  t46 := Tryd.underlying159
  a46 := Tryd.isAgg159
  z46 := Tryd.sizeOf159
  v46 := Tryd.zeroValue159
  t51 := Tryd.underlying203
  a51 := Tryd.isAgg203
  z51 := Tryd.sizeOf203
  v51 := Tryd.zeroValue203
  t70 := Tryd.underlying96
  a70 := Tryd.isAgg96
  z70 := Tryd.sizeOf96
  v70 := Tryd.zeroValue96
  t72 := Tryd.underlying98
  a72 := Tryd.isAgg98
  z72 := Tryd.sizeOf98
  v72 := Tryd.zeroValue98
  t75 := Tryd.underlying100
  a75 := Tryd.isAgg100
  z75 := Tryd.sizeOf100
  v75 := Tryd.zeroValue100
  t164 := Tryd.underlying169
  a164 := Tryd.isAgg169
  z164 := Tryd.sizeOf169
  v164 := Tryd.zeroValue169
}
theorem Tryd.uRen_169 : Lays.n169 Tryd.prog Tryd.uRen := {
  mixed := by kernel_rfl
  f169 := Tryd.func58.trans (congrArg some (by kernel_rfl))
  t0 := Tryd.underlying0
  a0 := Tryd.isAgg0
  z0 := Tryd.sizeOf0
  v0 := Tryd.zeroValue0
  t3 := Tryd.underlying3
  a3 := Tryd.isAgg3
  z3 := Tryd.sizeOf3
  v3 := Tryd.zeroValue3
  t9 := Tryd.underlying9
  a9 := Tryd.isAgg9
  z9 := Tryd.sizeOf9
  v9 := Tryd.zeroValue9
  t37 := Tryd.underlying94
  a37 := Tryd.isAgg94
  z37 := Tryd.sizeOf94
  v37 := Tryd.zeroValue94
  t70 := Tryd.underlying96
  a70 := Tryd.isAgg96
  z70 := Tryd.sizeOf96
  v70 := Tryd.zeroValue96
  t72 := Tryd.underlying98
  a72 := Tryd.isAgg98
  z72 := Tryd.sizeOf98
  v72 := Tryd.zeroValue98
  t127 := Tryd.underlying133
  a127 := Tryd.isAgg133
  z127 := Tryd.sizeOf133
  v127 := Tryd.zeroValue133
}
theorem Tryd.uRen_197 : Lays.n197 Tryd.prog Tryd.uRen := {
  mixed := by kernel_rfl
  f197 := Tryd.func210.trans (congrArg some (by kernel_rfl))
  f260 := Tryd.func228.trans (congrArg some (by kernel_rfl))
  t0 := Tryd.underlying0
  a0 := Tryd.isAgg0
  z0 := Tryd.sizeOf0
  v0 := Tryd.zeroValue0
  t3 := Tryd.underlying3
  a3 := Tryd.isAgg3
  z3 := Tryd.sizeOf3
  v3 := Tryd.zeroValue3
  t4 := Tryd.underlying4
  a4 := Tryd.isAgg4
  z4 := Tryd.sizeOf4
  v4 := Tryd.zeroValue4
  t5 := Tryd.underlying5
  a5 := Tryd.isAgg5
  z5 := Tryd.sizeOf5
  v5 := Tryd.zeroValue5
  t9 := Tryd.underlying9
  a9 := Tryd.isAgg9
  z9 := Tryd.sizeOf9
  v9 := Tryd.zeroValue9
  t21 := Tryd.underlying21
  a21 := Tryd.isAgg21
  z21 := Tryd.sizeOf21
  v21 := Tryd.zeroValue21
  t46 := Tryd.underlying159
  a46 := Tryd.isAgg159
  z46 := Tryd.sizeOf159
  v46 := Tryd.zeroValue159
  t105 := Tryd.underlying206
  a105 := Tryd.isAgg206
  z105 := Tryd.sizeOf206
  v105 := Tryd.zeroValue206
  t119 := Tryd.underlying220
  a119 := Tryd.isAgg220
  z119 := Tryd.sizeOf220
  t138 := Tryd.underlying222
  a138 := Tryd.isAgg222
  z138 := Tryd.sizeOf222
  v138 := Tryd.zeroValue222
  t139 := Tryd.underlying223
  a139 := Tryd.isAgg223
  z139 := Tryd.sizeOf223
  v139 := Tryd.zeroValue223
  g3 := by kernel_rfl
  g4 := by kernel_rfl
}

theorem Tryd.uExtra : Builder.Extra Tryd.prog Tryd.uRen where
  sizeBuilder := by kernel_rfl
  liesBuilder := by kernel_rfl
  t5 := Tryd.underlying5
  a5 := Tryd.isAgg5
  z5 := Tryd.sizeOf5
  v5 := Tryd.zeroValue5
  infoByte := by kernel_rfl
  cellsByte := by kernel_rfl
  sizeByte := by kernel_rfl
  neB5 := by decide
end Go.Proofs
set_option linter.unusedVariables false
set_option linter.unusedSimpArgs false
set_option maxRecDepth 100000
namespace Go.Proofs
open Go.RowKit Go.Shelf
attribute [local go_sem] Oper.semAt_some
theorem uB_kept {T e : TypeId} {B b k : Nat} {bs : List Value} {W W' : World} {o : Obj} (h : Lib.IsBuilderF T e B b bs W) (hg : W.grownBy W' (some k)) (hk : k ≠ b) (ho : W.heap[k]? = some o) (hx : ∀ c fz, o ≠ .cells c e fz) : Lib.IsBuilderF T e B b bs W' := by
  have one : ∀ p, Lib.BuilderAtF T e B b p bs W → Lib.BuilderAtF T e B b p bs W' := fun p h => by
    have hlt := h.lt
    obtain ⟨hB, v, hb, hown, hne⟩ := h
    have hv : v.ownBlock ≠ some k := fun hv => by
      obtain ⟨c, fz, hc⟩ := Lib.ownsRowF_kind hown k hv
      rw [ho] at hc
      exact hx c fz (Option.some.inj hc)
    exact ⟨hB, v, (hg.block b hlt (fun e => hk (Option.some.inj e).symm)).trans hb, hown.kept hg (Or.inr hv), hne⟩
  exact h.elim (fun x => .inl (one _ x)) (fun x => .inr (one _ x))
theorem uEach (s : ByteArray) (w : World) : CallsIn Fence.wide 3 Tryd.prog 151 #[.string s] w fun e w' => e = .returned (.func (.func 200) #[] #[.pointer (some ⟨w.heap.size, 0, none⟩)]) ∧ w' = w.alloc (.cells #[.string s] 9) := by
  refine callsIn_of_wp Tryd.func151 rfl trivial ?_ rfl
  simp only [Tryd.ntmps151, List.size_toArray, List.length_cons, List.length_nil, Nat.reduceAdd, Nat.reduceSub, Array.replicate_succ, Array.replicate_zero, List.push_toArray, List.append_toArray, List.nil_append, List.cons_append]
  gi_wp2
  go_ret
  exact ⟨rfl, rfl⟩
theorem decGo_le (t : ByteArray) : (Lib.decodeGo t).1 ≤ 1114111 := by
  unfold Lib.decodeGo
  split
  · show 65533 ≤ 1114111; omega
  · exact Lib.rune_le t 0
def decC (t : ByteArray) : Int := if (Lib.decodeGo t).1 = 65533 ∧ (Lib.decodeGo t).2 < 2 then -1 else (Lib.decodeGo t).1
def DecAt (W : World) (t : ByteArray) : Prop := Calls Tryd.prog 210 #[.string t] W fun e W' => e = .returned (.tuple #[.int .i32 (Lib.decodeGo t).1, .int .i64 (Lib.decodeGo t).2]) ∧ Below W.heap.size W W'
theorem uDecode (t : ByteArray) (W : World) (hd : DecAt W t) : CallsIn Fence.wide 2 Tryd.prog 201 #[.string t] W fun e W' => e = .returned (.tuple #[.int .i64 (decC t), .int .i64 (Lib.decodeGo t).2]) ∧ Below W.heap.size W W' := by
  refine callsIn_of_wp Tryd.func201 rfl trivial ?_ rfl
  simp only [Tryd.ntmps201, List.size_toArray, List.length_cons, List.length_nil, Nat.reduceAdd, Nat.reduceSub, Array.replicate_succ, Array.replicate_zero, List.push_toArray, List.append_toArray, List.nil_append, List.cons_append]
  unfold DecAt at hd
  generalize hx : ((Lib.decodeGo t).1 : Int) = x at hd
  generalize hy : ((Lib.decodeGo t).2 : Int) = y at hd ⊢
  have hC : decC t = if x = 65533 ∧ y < 2 then -1 else x := by unfold decC; rw [← hx, ← hy]; congr 1; simp only [eq_iff_iff]; omega
  rw [hC]
  by_cases h1 : x = 65533
  · by_cases h2 : y < 2
    · rw [if_pos ⟨h1, h2⟩]
      subst h1
      gi_wp2_with (refine ⟨trivial, ?_⟩; gi_at_call 210; refine (callsIn_wide.2 hd).mono ?_; rintro e W1 ⟨rfl, hb⟩)
      gi_wp2
      go_ret2
      exact ⟨rfl, hb⟩
    · rw [if_neg (fun h => h2 h.2)]
      subst h1
      gi_wp2_with (refine ⟨trivial, ?_⟩; gi_at_call 210; refine (callsIn_wide.2 hd).mono ?_; rintro e W1 ⟨rfl, hb⟩)
      gi_wp2
      go_ret2
      exact ⟨rfl, hb⟩
  · rw [if_neg (fun h => h1 h.1)]
    gi_wp2_with (refine ⟨trivial, ?_⟩; gi_at_call 210; refine (callsIn_wide.2 hd).mono ?_; rintro e W1 ⟨rfl, hb⟩)
    gi_wp2
    go_ret2
    have hle := decGo_le t
    have hw : wrap64 x = x := by simp [wrap64]; omega
    exact ⟨by simp [hw], hb⟩
def repC (t : ByteArray) : Int := if (Lib.decodeGo t).1 = 0 then 65533 else (Lib.decodeGo t).1
def repF : Nat → ByteArray → List UInt8
  | 0, _ => []
  | m + 1, t => if t.size = 0 then [] else Lib.encodeRune (repC t) ++ repF m (t.extract (Lib.decodeGo t).2 t.size)
def strSz (W : World) (B : Nat) : Nat := match W.cell? ⟨B, 0, none⟩ with
  | some (.string t) => t.size
  | _ => 0
abbrev strO (t : ByteArray) : Obj := .cells #[.string t] 9 (0, 0)
set_option maxHeartbeats 1000000 in
theorem uEach1 (l Bs N : Nat) (J : List UInt8 → World → Prop) (good : ByteArray → Prop) (hgood : ∀ t, good t → t.size ≠ 0 → good (t.extract (Lib.decodeGo t).2 t.size))
    (hdec : ∀ t W acc, good t → t.size ≠ 0 → J acc W → DecAt W t) (hJd : ∀ acc W W', J acc W → Below W.heap.size W W' → J acc W')
    (hJs : ∀ acc W t t', J acc W → W.heap[Bs]? = some (strO t) → J acc (W.setCell ⟨Bs, 0, none⟩ (.string t')))
    (hY : ∀ acc W c t, J acc W → W.heap[Bs]? = some (strO t) → acc.length ≤ N → 0 < c → c ≤ 1114111 → YieldAt Fence.wide 2 Tryd.prog l #[.int .i64 c] W fun e W' => e = .returned (.bool true) ∧ J (acc ++ Lib.encodeRune c) W' ∧ W'.heap[Bs]? = some (strO t))
    (s : ByteArray) (W : World) (hBs : W.heap[Bs]? = some (strO s)) (hg : good s) (h0 : J [] W) (hs : 4 * s.size ≤ N) :
    CallsIn Fence.wide 3 Tryd.prog 200 #[.func (.yield l) #[] #[], .pointer (some ⟨Bs, 0, none⟩)] W fun e W' => (∃ v, e = .returned v) ∧ J (repF s.size s) W' := by
  refine callsIn_of_wp Tryd.func200 rfl trivial ?_ rfl
  simp only [Tryd.ntmps200, List.size_toArray, List.length_cons, List.length_nil, Nat.reduceAdd, Nat.reduceSub, Array.replicate_succ, Array.replicate_zero, List.push_toArray, List.append_toArray, List.nil_append, List.cons_append]
  gi_wp2
  gi_loopw [] (fun wr => ∃ (acc : List UInt8) (rest : ByteArray) (fuel : Nat), wr.heap[Bs]? = some (strO rest) ∧ J acc wr ∧ good rest ∧ acc ++ repF fuel rest = repF s.size s ∧ rest.size ≤ fuel ∧ acc.length + 4 * rest.size ≤ 4 * s.size)
    (fun wr => strSz wr Bs)
  case atStart =>
    exact ⟨[], s, s.size, hBs, h0, hg, rfl, Nat.le_refl _, by simp⟩
  case round =>
    obtain ⟨acc, rest, fuel, hb, hJ, hgr, hacc, hfu, hlen⟩ := hrel
    have hcell : wr.cell? ⟨Bs, 0, none⟩ = some (.string rest) := by simp [World.cell?, hb]
    have hfr : wr.frozen? ⟨Bs, 0, none⟩ = false := by simp [World.frozen?, hb]
    by_cases hz : rest.size = 0
    · obtain rfl : rest = ⟨#[]⟩ := ByteArray.ext (Array.eq_empty_of_size_eq_zero hz)
      have hrr : acc = repF s.size s := by
        rw [← hacc]
        cases fuel with
        | zero => rw [repF, List.append_nil]
        | succ m => rw [repF, if_pos hz, List.append_nil]
      gi_wp2
      go_end0
      exact ⟨⟨_, rfl⟩, by rw [← hrr]; exact hJ⟩
    · have hemp : rest.toList.isEmpty = false := by
        rw [Go.ByteArray.toList_eq]
        cases hr : rest.data.toList with
        | cons c t => rfl
        | nil =>
          exfalso; apply hz
          show rest.data.size = 0
          rw [← Array.length_toList, hr]; rfl
      have hpos : 0 < rest.size := Nat.pos_of_ne_zero hz
      have hdG : Lib.decodeGo rest = Utf8.decode rest 0 := by unfold Lib.decodeGo; rw [if_neg hz]
      have hw1 : 1 ≤ (Utf8.decode rest 0).2 := Lib.width_pos rest 0
      have hw2 : (Utf8.decode rest 0).2 ≤ rest.size := Lib.width_le rest hpos
      have hr1 := decGo_le rest
      obtain ⟨f, rfl⟩ : ∃ f, fuel = f + 1 := ⟨fuel - 1, by omega⟩
      have hsz : (rest.extract (Utf8.decode rest 0).2 rest.size).size = rest.size - (Utf8.decode rest 0).2 := by simp
      have hg2 := hgood rest hgr hz
      rw [repF, if_neg hz] at hacc
      rw [hdG] at hacc hg2
      have h1 : 1 ≤ (3 : Nat) - 1 := by omega
      have hblt : Bs < wr.heap.size := (Array.getElem?_eq_some_iff.1 hb).1
      have hcl := (Lib.runeCells_le (repC rest)).2
      rw [Lib.runeCells_length] at hcl
      have hmu : strSz wr Bs = rest.size := by unfold strSz; rw [hcell]
      by_cases hc : decC rest ≤ 0
      · have hC : repC rest = 65533 := by
          unfold decC at hc; unfold repC
          split at hc
          · rename_i h; rw [h.1]; rfl
          · rw [if_pos (by omega)]
        rw [hC] at hacc hcl
        gi_wp2_with (refine ⟨trivial, ?_⟩; gi_at_call 201; refine (uDecode rest wr (hdec rest wr acc hgr hz hJ)).mono ?_; rintro e W2 ⟨rfl, hb2⟩; obtain ⟨fn, tmps, assign, body, hy, hR⟩ := hY acc W2 65533 rest (hJd _ _ _ hJ hb2) ((hb2.block Bs hblt).trans hb) (by omega) (by omega) (by omega))
        refine hR.mono ?_
        rintro e W3 ⟨rfl, hJ3, hb3⟩
        have hcell3 : W3.cell? ⟨Bs, 0, none⟩ = some (.string rest) := by simp [World.cell?, hb3]
        have hfr3 : W3.frozen? ⟨Bs, 0, none⟩ = false := by simp [World.frozen?, hb3]
        have hnew : ∀ t', (W3.setCell ⟨Bs, 0, none⟩ (.string t')).heap[Bs]? = some (strO t') := fun t' => by simp [World.setCell, Array.getElem?_modify, hb3]
        have hcn : ∀ t', strSz (W3.setCell ⟨Bs, 0, none⟩ (.string t')) Bs = t'.size := fun t' => by unfold strSz World.cell?; rw [hnew]; rfl
        gi_wp2
        refine ⟨⟨acc ++ Lib.encodeRune 65533, _, f, hnew _, hJs _ _ _ _ hJ3 hb3, hg2, by rw [List.append_assoc]; exact hacc, by omega, by rw [List.length_append]; omega⟩, ?_⟩
        rw [hcn, hmu]
        omega
      · have hC : repC rest = decC rest := by
          unfold decC at hc ⊢; unfold repC
          split at hc
          · omega
          · rename_i h; rw [if_neg h, if_neg (by omega)]
        have hC2 : decC rest ≤ 1114111 := by rw [← hC]; unfold repC; split <;> omega
        rw [hC] at hacc hcl
        gi_wp2_with (refine ⟨trivial, ?_⟩; gi_at_call 201; refine (uDecode rest wr (hdec rest wr acc hgr hz hJ)).mono ?_; rintro e W2 ⟨rfl, hb2⟩; obtain ⟨fn, tmps, assign, body, hy, hR⟩ := hY acc W2 (decC rest) rest (hJd _ _ _ hJ hb2) ((hb2.block Bs hblt).trans hb) (by omega) (by omega) (by omega))
        refine hR.mono ?_
        rintro e W3 ⟨rfl, hJ3, hb3⟩
        have hcell3 : W3.cell? ⟨Bs, 0, none⟩ = some (.string rest) := by simp [World.cell?, hb3]
        have hfr3 : W3.frozen? ⟨Bs, 0, none⟩ = false := by simp [World.frozen?, hb3]
        have hnew : ∀ t', (W3.setCell ⟨Bs, 0, none⟩ (.string t')).heap[Bs]? = some (strO t') := fun t' => by simp [World.setCell, Array.getElem?_modify, hb3]
        have hcn : ∀ t', strSz (W3.setCell ⟨Bs, 0, none⟩ (.string t')) Bs = t'.size := fun t' => by unfold strSz World.cell?; rw [hnew]; rfl
        gi_wp2
        refine ⟨⟨acc ++ Lib.encodeRune (decC rest), _, f, hnew _, hJs _ _ _ _ hJ3 hb3, hg2, by rw [List.append_assoc]; exact hacc, by omega, by rw [List.length_append]; omega⟩, ?_⟩
        rw [hcn, hmu]
        omega
theorem wpIn_eachU {g : Operand} {ps : Array Tmp} {assign body : Code} {Q : Exit → Act → World → Prop} {a : Act} {w : World} (Bs : Nat) (hg : a.eval g = .func (.func 200) #[] #[.pointer (some ⟨Bs, 0, none⟩)]) (hps : ps.size = 1)
    (good : ByteArray → Prop) (hgood : ∀ t, good t → t.size ≠ 0 → good (t.extract (Lib.decodeGo t).2 t.size)) (s : ByteArray) (hgs : good s) (hBs : w.heap[Bs]? = some (strO s))
    (I : List UInt8 → World → Prop) (hdec : ∀ t W acc, good t → t.size ≠ 0 → I acc W → DecAt W t) (hId : ∀ acc A B, I acc A → Below A.heap.size A B → I acc B)
    (hIs : ∀ acc A t t', I acc A → A.heap[Bs]? = some (strO t) → I acc (A.setCell ⟨Bs, 0, none⟩ (.string t')))
    (hIp : ∀ acc A l r r', I acc A → w.heap.size ≤ l → A.heap[l]? = some (.loop r) → I acc (A.putObj l (.loop r'))) (h0 : I [] w) (a₁ : Int → Act)
    (hassign : ∀ (l : Nat) (c : Int) (W : World) (K : Act → World → Prop), K (a₁ c) W → assign.wpIn (Fence.wide.inRound l) 2 Tryd.prog (Exit.then K (fun _ _ _ => False)) { tmps := (ps.zip #[Value.int .i64 c]).foldl (fun t (p, v) => t.setIfInBounds p v) a.tmps, defers := [] } W)
    (hbody : ∀ (l : Nat) (acc : List UInt8) (c : Int) (W : World), I acc W → acc.length ≤ 4 * s.size → 0 < c → c ≤ 1114111 → body.wpIn (Fence.wide.inRound l) 2 Tryd.prog
      (fun e _ W' => e = .normal ∧ I (acc ++ Lib.encodeRune c) W' ∧ (∀ t, W.heap[Bs]? = some (strO t) → W'.heap[Bs]? = some (strO t)) ∧ ∀ k o, w.heap.size ≤ k → W.heap[k]? = some o → o.isCells = false → W'.heap[k]? = some o) (a₁ c) W)
    (hdone : ∀ (D : Nat) (W : World), w.heap.size ≤ D → I (repF s.size s) W → W.heap[D]? = some (.deferred (some [])) → Q .normal { a with defers := { target := .collected D, args := #[] } :: a.defers } W) :
    (Code.rangeFunc g ps assign body).wpIn Fence.wide 4 Tryd.prog Q a w := by
  refine wpIn_rangeFunc ?_
  intro fn hfn
  have hBlt : Bs < w.heap.size := (Array.getElem?_eq_some_iff.1 hBs).1
  have hro : Fence.wide.round = none := rfl
  rw [hro]
  obtain ⟨rec, hrec⟩ : ∃ rec : LoopState → Option Code → Loop, rec = fun st pe => { state := st, pending := pe, fn, tmps := a.tmps, params := ps, assign, body, defers := w.heap.size } := ⟨_, rfl⟩
  obtain ⟨W1, hW1⟩ : ∃ W1, (w.alloc (.deferred (some []))).alloc (.loop (rec .ready none)) = W1 := ⟨_, rfl⟩
  have hL1 : W1.heap[w.heap.size + 1]? = some (.loop (rec .ready none)) := by
    rw [← hW1]; have := World.alloc_heap_new (w.alloc (.deferred (some []))) (.loop (rec .ready none)); rwa [World.size_alloc] at this
  have hK1 : W1.heap[w.heap.size]? = some (.deferred (some [])) := by
    rw [← hW1]; exact (Below.heap_alloc _ _ _ (by simp)).trans (World.alloc_heap_new w _)
  have hb1 : Below w.heap.size w W1 := by
    rw [← hW1]; exact ((Below.refl _ w).alloc (Nat.le_refl _) _).alloc (by simp) _
  have hI1 : I [] W1 := hId _ _ _ h0 hb1
  have hBs1 : W1.heap[Bs]? = some (strO s) := (hb1.block Bs hBlt).trans hBs
  have eg := enters_of (P := Tryd.prog) Tryd.func200 (by kernel_rfl) rfl
  refine ⟨w.heap.size + 1, [{ target := .collected w.heap.size, args := #[] }], W1, { target := .fn (.func 200) #[.pointer (some ⟨Bs, 0, none⟩)], args := #[.func (.yield (w.heap.size + 1)) #[] #[]] }, W1, 200,
    #[.func (.yield (w.heap.size + 1)) #[] #[], .pointer (some ⟨Bs, 0, none⟩)], W1, ?_, ?_, ?_, ?_, fun _ => by omega, ?_⟩
  · rw [← hW1, hrec]; exact run_enterLoop_outer _ _ _ _ _
  · simp only [resolve, hg]
    simp [go_sem]
  · intro f' hf'; trivial
  · simp [invoke, go_sem, eg]
  · refine (uEach1 (w.heap.size + 1) Bs (4 * s.size) (fun acc W => I acc W ∧ W.heap[w.heap.size + 1]? = some (.loop (rec .ready none)) ∧ W.heap[w.heap.size]? = some (.deferred (some []))) good hgood (fun t W acc hgt h0 hJ => hdec t W acc hgt h0 hJ.1)
      (fun acc A B hJ hb => ⟨hId _ _ _ hJ.1 hb, (hb.block _ (Array.getElem?_eq_some_iff.1 hJ.2.1).1).trans hJ.2.1, (hb.block _ (Array.getElem?_eq_some_iff.1 hJ.2.2).1).trans hJ.2.2⟩)
      (fun acc A t t' hJ hA => ⟨hIs _ _ _ _ hJ.1 hA, (Below.heap_setCell _ _ _ _ (by show w.heap.size + 1 ≠ Bs; omega)).trans hJ.2.1, (Below.heap_setCell _ _ _ _ (by show w.heap.size ≠ Bs; omega)).trans hJ.2.2⟩)
      ?_ s W1 hBs1 hgs ⟨hI1, hL1, hK1⟩ (Nat.le_refl _)).mono ?_
    · rintro acc W c t ⟨hi, hl, hk⟩ hbt hlen hc0 hc1
      have hlt : w.heap.size + 1 < W.heap.size := (Array.getElem?_eq_some_iff.1 hl).1
      have hy := run_yield (P := Tryd.prog) (args := #[Value.int .i64 c]) hl (by rw [hrec]; exact hps.symm)
      rw [hrec] at hy
      refine ⟨fn, _, assign, body, hy, roundIn_of_wpIn trivial (hassign _ c W _ ⟨_, run_beginRound hl (by rw [hrec]), ?_⟩)⟩
      have hl2 : (W.putObj (w.heap.size + 1) (.loop { rec .ready none with state := .busy })).heap[w.heap.size + 1]? = some (.loop { rec .ready none with state := .busy }) := World.putObj_heap_same hlt
      have hk2 : (W.putObj (w.heap.size + 1) (.loop { rec .ready none with state := .busy })).heap[w.heap.size]? = some (.deferred (some [])) := (World.putObj_heap_other (by omega)).trans hk
      have hb2 : (W.putObj (w.heap.size + 1) (.loop { rec .ready none with state := .busy })).heap[Bs]? = some (strO t) := (World.putObj_heap_other (by omega)).trans hbt
      refine wpIn_mono (hbody _ acc c _ (hIp _ _ _ _ _ hi (by omega) hl) hlen hc0 hc1) ?_
      rintro e a3 W3 ⟨rfl, hi3, hb3, hoth⟩
      have hl3 := hoth _ _ (by omega) hl2 rfl
      have hk3 := hoth _ _ (Nat.le_refl _) hk2 rfl
      have hr := run_endRound (P := Tryd.prog) none hl3
      refine ⟨_, _, hr, rfl, ⟨hIp _ _ _ _ _ hi3 (by omega) hl3, ?_, (World.putObj_heap_other (by omega)).trans hk3⟩, (World.putObj_heap_other (by omega)).trans (hb3 t hb2)⟩
      rw [World.putObj_heap_same (Array.getElem?_eq_some_iff.1 hl3).1, hrec]
      rfl
    · rintro e W2 ⟨⟨v, rfl⟩, hi, hl, hk⟩
      refine ⟨none, _, run_endLoop (P := Tryd.prog) hl (by rw [hrec]; simp) |>.trans (by rw [hrec]), hdone _ _ (Nat.le_refl _) (hIp _ _ _ _ _ hi (by omega) hl) ((World.putObj_heap_other (by omega)).trans hk)⟩

set_option maxHeartbeats 2000000 in
theorem uRepair (good : ByteArray → Prop) (hgood : ∀ t, good t → t.size ≠ 0 → good (t.extract (Lib.decodeGo t).2 t.size)) (s : ByteArray) (w : World) (hg : good s) (hs : s.size ≤ 17592186044416)
    (hdec : ∀ t W, good t → t.size ≠ 0 → Below w.heap.size w W → DecAt W t) :
    Calls Tryd.prog 95 #[.string s] w fun e w' => e = .returned (.string ⟨(repF s.size s).toArray⟩) ∧ Below w.heap.size w w' := by
  refine (callsIn_wide (n := 4)).1 ?_
  refine callsIn_of_wp_marks Tryd.func95 rfl trivial ?_ rfl
  simp only [Tryd.ntmps95, List.size_toArray, List.length_cons, List.length_nil, Nat.reduceAdd, Nat.reduceSub, Array.replicate_succ, Array.replicate_zero, List.push_toArray, List.append_toArray, List.nil_append, List.cons_append]
  gi_wp2_with (refine ⟨trivial, ?_⟩; gi_at_call 151; refine (uEach s _).mono ?_; rintro e w' ⟨rfl, rfl⟩)
  obtain ⟨w0, hw0⟩ : ∃ w0, (w.alloc (Obj.cells #[Value.pointer none, Value.slice none 0 0] 98)).alloc (Obj.cells #[Value.string s] 9) = w0 := ⟨_, rfl⟩
  rw [hw0]
  have hsz0 : w0.heap.size = w.heap.size + 2 := by rw [← hw0]; simp
  have hBs0 : w0.heap[w.heap.size + 1]? = some (strO s) := by
    rw [← hw0]
    have := World.alloc_heap_new (w.alloc (Obj.cells #[Value.pointer none, Value.slice none 0 0] 98)) (strO s)
    rwa [World.size_alloc] at this
  have hb0 : Below w.heap.size w w0 := by rw [← hw0]; exact ((Below.refl _ w).alloc (Nat.le_refl _) _).alloc (by simp) _
  have hI0 : Lib.IsBuilderF 98 5 w.heap.size w.heap.size (Lib.byteCells []) w0 := by
    rw [← hw0]
    exact (Lib.IsBuilderF.of (Lib.fresh_isBuilder 98 5 w)).alloc _
  refine wpIn_eachU (w.heap.size + 1) rfl rfl good hgood s hg hBs0 (fun acc W => Lib.IsBuilderF 98 5 w.heap.size w.heap.size (Lib.byteCells acc) W ∧ Below w.heap.size w W) (fun t W acc hgt h0 hJ => hdec t W hgt h0 hJ.2)
    (fun acc A B hJ hb => ⟨hJ.1.below hb, hJ.2.trans (hb.mono hJ.2.size)⟩)
    (fun acc A t t' hJ hA => ⟨uB_kept hJ.1 (k := w.heap.size + 1) ⟨rfl, rfl, rfl, by simp [World.setCell], fun k _ hk => Below.heap_setCell _ _ _ _ (fun e => hk (by simp [e]))⟩ (by omega) hA (fun c fz h => by cases h), hJ.2.setCell (p := ⟨w.heap.size + 1, 0, none⟩) (by show w.heap.size ≤ w.heap.size + 1; omega) _⟩)
    (fun acc A l r r' hJ hl hA => ⟨uB_kept hJ.1 (grownBy_putObj' A l _) (by omega) hA (fun c fz h => by cases h), hJ.2.grown (grownBy_putObj' A l _) hJ.2.size (fun k e => by cases e; omega)⟩)
    ⟨hI0, hb0⟩ (fun c => { tmps := #[.string s, undef, .string ⟨#[]⟩, .pointer (some ⟨w.heap.size, 0, none⟩), .int .i64 c, .string s, .func (.func 200) #[] #[.pointer (some ⟨w.heap.size + 1, 0, none⟩)], .int .i64 c, undef, undef, undef, undef], defers := [] }) ?assign ?body ?done
  case assign =>
    intro l c W K hK
    gi_wp2
    exact hK
  case body =>
    rintro l acc c W ⟨hi, hb⟩ hlen hc0 hc1
    have hsz : w.heap.size ≤ W.heap.size := hb.size
    have hd : 1 ≤ (2 : Nat) - 1 := by omega
    gi_wp2_with (refine ⟨trivial, ?_⟩; gi_at_call 152; refine (CallsIn.inRound l (callsIn_wide.2 (Any.Builder_WriteRune_k Tryd.uRen_168 Tryd.uExtra w.heap.size w.heap.size _ c (by omega) (by omega) W hi (by rw [Lib.byteCells_length]; omega) hsz))).mono ?_; rintro e W1 ⟨rfl, h1, b1, k1⟩)
    refine ⟨⟨by rw [Lib.byteCells_append, Lib.byteCells_encodeRune]; exact .inr h1, hb.trans b1⟩, fun t ht => k1 _ _ ht (by simp) (fun c fz h => by cases h), fun k o hk ho hc => k1 _ _ ho (by simp; omega) (fun c fz h => by subst h; cases hc)⟩
  case done =>
    rintro D W hD ⟨hi, hb⟩ hK
    gi_wp2_with (refine ⟨trivial, ?_⟩; gi_at_call 58; refine (callsIn_wide.2 (Any.Builder_String_any_k Tryd.uRen_169 Tryd.uExtra w.heap.size w.heap.size _ W hi hb.size)).mono ?_; rintro e W1 ⟨rfl, _, b1, k1⟩)
    have hK1 := k1 D _ hK (by simp; omega) (fun c fz h => by cases h)
    refine ⟨by simp, .inl ⟨_, _, rfl, run_takeDeferred hK1, ?_⟩⟩
    refine ⟨_, results_tmp rfl _ _ _, rfl, ?_⟩
    exact (hb.trans b1).grown (grownBy_putObj' W1 D _) (hb.trans b1).size (fun k e => by cases e; omega)
def asciiB (t : ByteArray) : Prop := ∀ b ∈ t.data.toList, b.toNat < 128
theorem dec_cons (c : UInt8) (l : List UInt8) (h : c.toNat < 128) : Lib.decodeGo ⟨(c :: l).toArray⟩ = (c.toNat, 1) := by
  have hsz : (⟨(c :: l).toArray⟩ : ByteArray).size = l.length + 1 := by simp [ByteArray.size]
  have hp : 0 < (⟨(c :: l).toArray⟩ : ByteArray).size := by omega
  have hx : (⟨(c :: l).toArray⟩ : ByteArray)[0]'hp = c := rfl
  unfold Lib.decodeGo
  rw [if_neg (by omega), decode_ascii _ 0 hp (by rw [hx]; exact h), hx]
theorem ext_cons (c : UInt8) (l : List UInt8) : (⟨(c :: l).toArray⟩ : ByteArray).extract 1 (⟨(c :: l).toArray⟩ : ByteArray).size = ⟨l.toArray⟩ := by
  apply ByteArray.ext
  rw [ByteArray.data_extract]
  apply Array.ext'
  simp [ByteArray.size]
theorem uB_list (t : ByteArray) : ∃ l : List UInt8, t = ⟨l.toArray⟩ ∧ l = t.data.toList := ⟨t.data.toList, by cases t; rfl, rfl⟩
theorem ascii_step : ∀ t, asciiB t → t.size ≠ 0 → asciiB (t.extract (Lib.decodeGo t).2 t.size) := fun t h hz => by
  obtain ⟨l, rfl, _⟩ := uB_list t
  cases l with
  | nil => exact absurd rfl hz
  | cons c l =>
    have hc : c.toNat < 128 := h c (by simp)
    rw [dec_cons c l hc, ext_cons]
    exact fun b hb => h b (by simp at hb ⊢; exact .inr hb)
theorem ascii_dec (t : ByteArray) (W : World) (h : asciiB t) (hz : t.size ≠ 0) : DecAt W t := by
  obtain ⟨l, rfl, _⟩ := uB_list t
  cases l with
  | nil => exact absurd rfl hz
  | cons c l =>
    have hc : c.toNat < 128 := h c (by simp)
    unfold DecAt
    rw [dec_cons c l hc]
    exact (Any.utf8_DecodeRuneInString_ascii Tryd.uRen_197 ⟨(c :: l).toArray⟩ c W rfl hc).mono fun e w' ⟨he, hw⟩ => ⟨he, by rw [hw]; exact Below.refl _ _⟩
theorem repF_ascii : ∀ (l : List UInt8) (m : Nat), l.length ≤ m → (∀ c ∈ l, 1 ≤ c.toNat ∧ c.toNat < 128) → repF m ⟨l.toArray⟩ = l
  | [], m, _, _ => by
    cases m with
    | zero => rfl
    | succ m => rw [repF, if_pos (by rfl)]
  | c :: l, m, hm, h => by
    obtain ⟨m, rfl⟩ : ∃ q, m = q + 1 := ⟨m - 1, by rw [List.length_cons] at hm; omega⟩
    obtain ⟨h1, h2⟩ := h c (by simp)
    have hsz : (⟨(c :: l).toArray⟩ : ByteArray).size = l.length + 1 := by simp [ByteArray.size]
    have ih := repF_ascii l m (by rw [List.length_cons] at hm; omega) (fun d hd => h d (by simp [hd]))
    rw [repF, if_neg (by omega), dec_cons c l h2, ext_cons, ih]
    have hC : repC ⟨(c :: l).toArray⟩ = (c.toNat : Int) := by unfold repC; rw [dec_cons c l h2, if_neg (by show c.toNat ≠ 0; omega)]
    rw [hC]
    unfold Lib.encodeRune
    rw [Lib.encodeRuneZ_one (by omega) (by omega)]
    show [((c.toNat : Int)).toNat.toUInt8] ++ l = c :: l
    rw [Int.toNat_natCast]
    show [UInt8.ofNat c.toNat] ++ l = _
    rw [UInt8.ofNat_toNat]; rfl
theorem uRepairA (s : List UInt8) (w : World) (h : ∀ c ∈ s, 1 ≤ c.toNat ∧ c.toNat < 128) (hs : s.length ≤ 17592186044416) :
    Calls Tryd.prog 95 #[.string ⟨s.toArray⟩] w fun e w' => e = .returned (.string ⟨s.toArray⟩) ∧ Below w.heap.size w w' := by
  have hsz : (⟨s.toArray⟩ : ByteArray).size = s.length := by simp [ByteArray.size]
  refine (uRepair asciiB ascii_step ⟨s.toArray⟩ w (fun b hb => (h b (by simpa using hb)).2) (by omega) (fun t W hg hz _ => ascii_dec t W hg hz)).mono fun e w' ⟨he, hb⟩ => ⟨?_, hb⟩
  rw [he, repF_ascii s _ (by omega) h]
end Go.Proofs
set_option linter.unusedVariables false
set_option linter.unusedSimpArgs false
set_option maxRecDepth 100000
namespace Go.Proofs
open Go.Shelf
end Go.Proofs
namespace Go.Mu
open Go Go.Proofs Go.RowKit
section
variable {P : Program} {w w' : World} {E : Env} {H : Heap}
def ba (s : List UInt8) : ByteArray := ⟨⟨s⟩⟩
theorem ba_eq {b : ByteArray} {s : List UInt8} (h : b.data.toList = s) : b = ba s := by
  subst h
  cases b with | mk d => cases d with | mk l => rfl
end
end Go.Mu
set_option linter.unusedVariables false
set_option linter.unusedSimpArgs false
set_option maxRecDepth 100000
namespace Go.Proofs
open Go.RowKit Go.Shelf
attribute [local go_sem] Oper.semAt_some
def Tryd.cRen : Ren := {
  f := fun x => match x with
    | 137 => 57
    | 217 => 110
    | 266 => 171
    | n => n,
  t := fun x => match x with
    | 3 => 3
    | 5 => 5
    | 9 => 9
    | n => n,
  g := fun x => match x with
    | n => n }
theorem Tryd.cRen_137 : Lays.n137 Tryd.prog Tryd.cRen := {
  mixed := by kernel_rfl
  f137 := Tryd.func57.trans (congrArg some (by kernel_rfl))
  f217 := Tryd.func110.trans (congrArg some (by kernel_rfl))
  f266 := Tryd.func171.trans (congrArg some (by kernel_rfl))
  t3 := Tryd.underlying3
  a3 := Tryd.isAgg3
  z3 := Tryd.sizeOf3
  v3 := Tryd.zeroValue3
  t5 := Tryd.underlying5
  a5 := Tryd.isAgg5
  z5 := Tryd.sizeOf5
  v5 := Tryd.zeroValue5
  t9 := Tryd.underlying9
  a9 := Tryd.isAgg9
  z9 := Tryd.sizeOf9
  v9 := Tryd.zeroValue9
}

def cleanC (l : List UInt8) (c : UInt8) : Bool := decide (Lib.indexByte l c ≥ 0)
def cleanM (l : List UInt8) : Bool := !(cleanC l 60 || cleanC l 62 || cleanC l 34 || cleanC l 39)
abbrev blkC : Obj := .cells #[.int .u8 60, .int .u8 62, .int .u8 34, .int .u8 39] 5 (4, 5)
set_option maxHeartbeats 2000000 in
theorem uClean (s : ByteArray) (w : World) : Calls Tryd.prog 67 #[.string s] w fun e w' => e = .returned (.bool (cleanM s.data.toList)) ∧ Below w.heap.size w w' := by
  refine (callsIn_wide (n := 3)).1 ?_
  have kc := fun (w : World) (C : Array Value) (n c : Nat) => Lib.run_convert_bytes_const (P := Tryd.prog) w 94 5 C n c Tryd.underlying94 Tryd.underlying5
  have hcell : ∀ i c, (#[Value.int .u8 60, Value.int .u8 62, Value.int .u8 34, Value.int .u8 39] : Array Value)[i]? = some c → (w.alloc blkC).cell? ⟨w.heap.size, i, none⟩ = some c := fun i c h => by
    have := World.alloc_heap_new w blkC
    simp only [World.cell?, this]
    simpa using h
  have hc0 := hcell 0 _ rfl
  have hc1 := hcell 1 _ rfl
  have hc2 := hcell 2 _ rfl
  have hc3 := hcell 3 _ rfl
  unfold blkC at hc0 hc1 hc2 hc3
  refine callsIn_of_wp Tryd.func67 rfl trivial ?_ rfl
  simp only [Tryd.ntmps67, List.size_toArray, List.length_cons, List.length_nil, Nat.reduceAdd, Nat.reduceSub, Array.replicate_succ, Array.replicate_zero, List.push_toArray, List.append_toArray, List.nil_append, List.cons_append]
  have hbw : Below w.heap.size w (w.alloc blkC) := (Below.refl _ w).alloc (Nat.le_refl _) _
  unfold blkC at hbw
  gi_wp2
  gi_loopw [8] (fun p wr => ∃ i : Nat, p = .int .i64 i ∧ i ≤ 4 ∧ wr = w.alloc blkC ∧ ∀ k, k < i → cleanC s.data.toList (([60, 62, 34, 39] : List UInt8).getD k 0) = false) (fun p wr => 4 - (intOf p).toNat)
  case atStart =>
    exact ⟨0, rfl, by omega, rfl, fun k hk => by omega⟩
  case round =>
    obtain ⟨i, rfl, hi, rfl, hk⟩ := hrel
    unfold blkC
    rcases (show i = 0 ∨ i = 1 ∨ i = 2 ∨ i = 3 ∨ i = 4 by omega) with rfl | rfl | rfl | rfl | rfl
    · have cB : ∀ w', Calls Tryd.prog 57 #[.string s, .int .u8 60] w' fun e w'' => e = .returned (.int .i64 (Lib.indexByte s.data.toList 60)) ∧ w'' = w' := fun w' => Any.strings_IndexByte Tryd.cRen_137 s 60 w'
      have hd : cleanC s.data.toList 60 = decide (Lib.indexByte s.data.toList 60 ≥ 0) := rfl
      generalize Lib.indexByte s.data.toList 60 = x at cB hd
      by_cases hb : x ≥ 0
      · rw [decide_eq_true hb] at hd
        have hM : cleanM s.data.toList = false := by unfold cleanM; rw [hd]; simp
        gi_wp2_with (refine ⟨trivial, ?_⟩; gi_at_call 57; refine (callsIn_wide.2 (cB _)).mono ?_; rintro e w' ⟨rfl, rfl⟩)
        go_ret
        exact ⟨congrArg (fun b => Ending.returned (Value.bool b)) hM.symm, hbw⟩
      · rw [decide_eq_false hb] at hd
        gi_wp2_with (refine ⟨trivial, ?_⟩; gi_at_call 57; refine (callsIn_wide.2 (cB _)).mono ?_; rintro e w' ⟨rfl, rfl⟩)
        refine ⟨⟨1, by first | rfl | trivial, by omega, by first | rfl | trivial, fun k hk' => ?_⟩, by simp [intOf]⟩
        by_cases he : k = 0
        · subst he; exact hd
        · exact hk k (by omega)
    · have cB : ∀ w', Calls Tryd.prog 57 #[.string s, .int .u8 62] w' fun e w'' => e = .returned (.int .i64 (Lib.indexByte s.data.toList 62)) ∧ w'' = w' := fun w' => Any.strings_IndexByte Tryd.cRen_137 s 62 w'
      have hd : cleanC s.data.toList 62 = decide (Lib.indexByte s.data.toList 62 ≥ 0) := rfl
      generalize Lib.indexByte s.data.toList 62 = x at cB hd
      by_cases hb : x ≥ 0
      · rw [decide_eq_true hb] at hd
        have hM : cleanM s.data.toList = false := by unfold cleanM; rw [hd]; simp
        gi_wp2_with (refine ⟨trivial, ?_⟩; gi_at_call 57; refine (callsIn_wide.2 (cB _)).mono ?_; rintro e w' ⟨rfl, rfl⟩)
        go_ret
        exact ⟨congrArg (fun b => Ending.returned (Value.bool b)) hM.symm, hbw⟩
      · rw [decide_eq_false hb] at hd
        gi_wp2_with (refine ⟨trivial, ?_⟩; gi_at_call 57; refine (callsIn_wide.2 (cB _)).mono ?_; rintro e w' ⟨rfl, rfl⟩)
        refine ⟨⟨2, by first | rfl | trivial, by omega, by first | rfl | trivial, fun k hk' => ?_⟩, by simp [intOf]⟩
        by_cases he : k = 1
        · subst he; exact hd
        · exact hk k (by omega)
    · have cB : ∀ w', Calls Tryd.prog 57 #[.string s, .int .u8 34] w' fun e w'' => e = .returned (.int .i64 (Lib.indexByte s.data.toList 34)) ∧ w'' = w' := fun w' => Any.strings_IndexByte Tryd.cRen_137 s 34 w'
      have hd : cleanC s.data.toList 34 = decide (Lib.indexByte s.data.toList 34 ≥ 0) := rfl
      generalize Lib.indexByte s.data.toList 34 = x at cB hd
      by_cases hb : x ≥ 0
      · rw [decide_eq_true hb] at hd
        have hM : cleanM s.data.toList = false := by unfold cleanM; rw [hd]; simp
        gi_wp2_with (refine ⟨trivial, ?_⟩; gi_at_call 57; refine (callsIn_wide.2 (cB _)).mono ?_; rintro e w' ⟨rfl, rfl⟩)
        go_ret
        exact ⟨congrArg (fun b => Ending.returned (Value.bool b)) hM.symm, hbw⟩
      · rw [decide_eq_false hb] at hd
        gi_wp2_with (refine ⟨trivial, ?_⟩; gi_at_call 57; refine (callsIn_wide.2 (cB _)).mono ?_; rintro e w' ⟨rfl, rfl⟩)
        refine ⟨⟨3, by first | rfl | trivial, by omega, by first | rfl | trivial, fun k hk' => ?_⟩, by simp [intOf]⟩
        by_cases he : k = 2
        · subst he; exact hd
        · exact hk k (by omega)
    · have cB : ∀ w', Calls Tryd.prog 57 #[.string s, .int .u8 39] w' fun e w'' => e = .returned (.int .i64 (Lib.indexByte s.data.toList 39)) ∧ w'' = w' := fun w' => Any.strings_IndexByte Tryd.cRen_137 s 39 w'
      have hd : cleanC s.data.toList 39 = decide (Lib.indexByte s.data.toList 39 ≥ 0) := rfl
      generalize Lib.indexByte s.data.toList 39 = x at cB hd
      by_cases hb : x ≥ 0
      · rw [decide_eq_true hb] at hd
        have hM : cleanM s.data.toList = false := by unfold cleanM; rw [hd]; simp
        gi_wp2_with (refine ⟨trivial, ?_⟩; gi_at_call 57; refine (callsIn_wide.2 (cB _)).mono ?_; rintro e w' ⟨rfl, rfl⟩)
        go_ret
        exact ⟨congrArg (fun b => Ending.returned (Value.bool b)) hM.symm, hbw⟩
      · rw [decide_eq_false hb] at hd
        gi_wp2_with (refine ⟨trivial, ?_⟩; gi_at_call 57; refine (callsIn_wide.2 (cB _)).mono ?_; rintro e w' ⟨rfl, rfl⟩)
        refine ⟨⟨4, by first | rfl | trivial, by omega, by first | rfl | trivial, fun k hk' => ?_⟩, by simp [intOf]⟩
        by_cases he : k = 3
        · subst he; exact hd
        · exact hk k (by omega)
    · have hM : cleanM s.data.toList = true := by
        have h0 := hk 0 (by omega)
        have h1 := hk 1 (by omega)
        have h2 := hk 2 (by omega)
        have h3 := hk 3 (by omega)
        simp only [List.getD_cons_zero, List.getD_cons_succ] at h0 h1 h2 h3
        unfold cleanM
        rw [h0, h1, h2, h3]; rfl
      gi_wp2
      go_ret
      exact ⟨congrArg (fun b => Ending.returned (Value.bool b)) hM.symm, hbw⟩
end Go.Proofs
namespace Go.Mu
open Go Go.Proofs
theorem clean_ok (s : List UInt8) : CallOK Tryd.prog 67 [.str s] [] (.ret (.bool (cleanM s)) []) := by
  refine CallOK.below (fun w E cs sim hl hr => ?_)
  obtain ⟨x, rfl⟩ : ∃ x, cs = [x] := by
    match cs, hl with
    | [x], _ => exact ⟨x, rfl⟩
  obtain ⟨b, e1, e2⟩ := rep_str (hr 0 (by simp))
  replace e1 : x = .string b := e1
  subst e1
  refine ⟨.bool (cleanM s), ?_, .pure _ _ (.bool _)⟩
  rw [← e2]
  exact uClean b w
def cleanTold : FSp := mkFS [.s] (fun _ => true) (fun xs k => k (.ret (.bool (cleanM (aS xs 0))) []))
theorem cleanTold_ok : ∀ xs H k out, cleanTold xs H k = some out → ∃ o, CallOK Tryd.prog 67 xs H o ∧ k o = some out := mkFS_ok fun ys xs e h => by
  obtain ⟨s, rfl⟩ : ∃ s, xs = [.str s] := ⟨_, e⟩
  exact ⟨_, fun k => rfl, clean_ok s⟩
end Go.Mu
set_option linter.unusedVariables false
set_option linter.unusedSimpArgs false
set_option maxRecDepth 100000
namespace Go.Mu
open Go Go.Proofs
theorem repA_ok (s : List UInt8) (h : ∀ c ∈ s, 1 ≤ c.toNat ∧ c.toNat < 128) (hs : s.length ≤ 17592186044416) : CallOK Tryd.prog 95 [.str s] [] (.ret (.str s) []) := by
  refine CallOK.below (fun w E cs sim hl hr => ?_)
  obtain ⟨x, rfl⟩ : ∃ x, cs = [x] := by
    match cs, hl with
    | [x], _ => exact ⟨x, rfl⟩
  obtain ⟨b, e1, e2⟩ := rep_str (hr 0 (by simp))
  replace e1 : x = .string b := e1
  subst e1
  rw [ba_eq e2]
  exact ⟨.string (ba s), uRepairA s w h hs, .pure _ _ (.str (ba s))⟩
def repATold : FSp := mkFS [.s] (fun xs => (aS xs 0).all (fun c => decide (1 ≤ c.toNat) && decide (c.toNat < 128)) && decide ((aS xs 0).length ≤ 17592186044416)) (fun xs k => k (.ret (.str (aS xs 0)) []))
theorem repATold_ok : ∀ xs H k out, repATold xs H k = some out → ∃ o, CallOK Tryd.prog 95 xs H o ∧ k o = some out := mkFS_ok fun ys xs e h => by
  obtain ⟨s, rfl⟩ : ∃ s, xs = [.str s] := ⟨_, e⟩
  rw [Bool.and_eq_true, decide_eq_true_eq, List.all_eq_true] at h
  refine ⟨_, fun k => rfl, repA_ok s (fun c hc => ?_) h.2⟩
  have := h.1 c hc
  rw [Bool.and_eq_true, decide_eq_true_eq, decide_eq_true_eq] at this
  exact this
end Go.Mu
set_option linter.unusedVariables false
set_option linter.unusedSimpArgs false
set_option maxRecDepth 100000
namespace Go.Mu
open Go Go.Proofs
noncomputable def layFa : Lay := (((((Lay.nil.addF 67 cleanTold).addF 68 decTold).addF 69 schTold).addF 73 safTold).addF 74 plaTold).addF 95 repATold
theorem layFa_ok : layFa.OK Tryd.prog := (((((Lay.nil_ok.addF cleanTold_ok).addF decTold_ok).addF schTold_ok).addF safTold_ok).addF plaTold_ok).addF repATold_ok
theorem alive35_fun (k : Out → Ans) : iFun Tryd.prog (layFa.hd Tryd.prog) layFa.fhs 0 31 [] [] k = (
  k (Out.ret (AVal.bool (bif bif decP [38, 108, 116, 59] == [60] then true else false then true else false)) [])) := by kernel_rfl
theorem decP_lt : decP [38, 108, 116, 59] = [60] := by
  unfold decP
  show decR 4 [38, 108, 116, 59] = [60]
  rw [decR, oneP_lt]
  show [60] ++ decR 3 [] = [60]
  rw [decR]; rfl
theorem alive35_ok : CallOK Tryd.prog 31 [] [] (.ret (.bool true) []) := layFa_ok.callF (G := []) rfl (fun k => (alive35_fun k).trans (by rw [decP_lt]; rfl))
def alive35Told : FSp := mkFS [] (fun _ => true) (fun _ k => k (.ret (.bool true) []))
theorem alive35Told_ok : ∀ xs H k out, alive35Told xs H k = some out → ∃ o, CallOK Tryd.prog 31 xs H o ∧ k o = some out := mkFS_ok fun ys xs e h => by
  obtain rfl : xs = [] := e
  exact ⟨_, fun k => rfl, alive35_ok⟩
noncomputable def layFb (R : List UInt8 → Int → Bool) : Lay := ((layFa.addF 31 alive35Told).addF 66 (hasTold R))
theorem layFb_ok : (layFb anyI).OK Tryd.prog := (layFa_ok.addF alive35Told_ok).addF hasTold_ok
theorem stops_fun (R : List UInt8 → Int → Bool) (a b : List UInt8) (k : Out → Ans) : iFun Tryd.prog ((layFb R).hd Tryd.prog) (layFb R).fhs 0 9 [.str a, .str b] [] k = (
 let c0 : Bool := decide (a.length ≤ 1099511627776);
 let c1 : Bool := decide (a.length + 1 ≤ 4611686018427387904);
 let l2 : List UInt8 := a.append [60];
 let l3 : List UInt8 := l2.append b;
 let c4 : Bool := !cleanM l3;
 let c5 : Bool := !c4;
 let l6 : List UInt8 := a.append [34];
 let l7 : List UInt8 := l6.append b;
 let c8 : Bool := bif c4 then !cleanM l7 else false;
 let c9 : Bool := !c8;
 let l10 : List UInt8 := a.append [39];
 let l11 : List UInt8 := l10.append b;
 let m12 : Nat := l11.length;
 let c13 : Bool := bif c8 then !safeM l11 else false;
 let c14 : Bool := !c13;
 let l15 : List UInt8 := a.append [59];
 let l16 : List UInt8 := l15.append b;
 let m17 : Nat := l16.length;
 let c18 : Bool := bif c13 then !plainM l16 else false;
 let l19 : List UInt8 := 106 :: 97 :: 118 :: 97 :: 115 :: 99 :: 114 :: 105 :: 112 :: 116 :: 58 :: b;
 let l20 : List UInt8 := decP l19;
 let l21 : List UInt8 := (schemeM l20).fst;
  bif c0 then
  bif c0 then
  bif c0 then
  bif c0 then
  bif c1 then
  bif decide (l2.length + b.length ≤ 4611686018427387904) then
  bif decide (l3.length ≤ 268435456) then
  bif c1 || c5 then
  bif decide (l6.length + b.length ≤ 4611686018427387904) || c5 then
  bif decide (l7.length ≤ 268435456) then
  bif c1 || c9 then
  bif decide (l10.length + b.length ≤ 4611686018427387904) || c9 then
  bif decide (m12 ≤ 268435456) then
  bif decide (m12 ≤ 1099511627776) then
  bif c1 || c14 then
  bif decide (l15.length + b.length ≤ 4611686018427387904) || c14 then
  bif decide (m17 ≤ 268435456) then
  bif decide (m17 ≤ 1099511627776) then
  bif decide (11 + b.length ≤ 4611686018427387904) || !c18 then
  bif decide (l19.length ≤ 268435456) then
  bif decide (l20.length ≤ 1099511627776) then
  bif decide (a.length ≤ 268435456) then
  k
  (Out.ret
  (AVal.bool
  (bif
  bif c18 then
  !bif cleanM l19 then
  bif !(schemeM l20).snd then true
  else
  bif
  bif l21 == [104, 116, 116, 112] then true
  else l21 == [104, 116, 116, 112, 115] then
  true
  else l21 == [109, 97, 105, 108, 116, 111]
  else false
  else false then
  cleanM a ==
  bif
  bif bif !R a 60 then !R a 62 else false then !R a 34
  else false then
  !R a 39
  else false
  else false))
  [])
  else none
  else none
  else none
  else none
  else none
  else none
  else none
  else none
  else none
  else none
  else none
  else none
  else none
  else none
  else none
  else none
  else none
  else none
  else none
  else none
  else none
  else none) := by kernel_rfl
/- the law -/
theorem ib_any : ∀ (l : List UInt8) (c : UInt8), decide (Lib.indexByte l c ≥ 0) = l.any (fun d => d == c)
  | [], c => rfl
  | b :: l, c => by
    have ih := ib_any l c
    have hge := Lib.indexByte_ge l c
    rw [List.any_cons, ← ih, Lib.indexByte]
    cases hb : b == c with
    | true => rfl
    | false =>
      simp only [Bool.false_or, if_neg (show ¬ (false = true) by decide)]
      by_cases h1 : Lib.indexByte l c = -1
      · rw [h1]; rfl
      · have h2 : (Lib.indexByte l c == -1) = false := by simpa using h1
        rw [h2, if_neg (by decide)]
        exact decide_eq_decide.2 (by omega)
theorem cleanC_any (l : List UInt8) (c : UInt8) : cleanC l c = l.any (fun d => d == c) := ib_any l c
theorem anyI_c (l : List UInt8) {n : Nat} (h : n < 256) : anyI l (no_index (@OfNat.ofNat Int n _)) = l.any (fun d => d == (@OfNat.ofNat UInt8 n _)) := by
  unfold anyI
  congr 1
  funext d
  exact eqc h
theorem any_mid (p : UInt8 → Bool) (a b : List UInt8) (c : UInt8) (h : p c = true) : ((a.append [c]).append b).any p = true := by
  show ((a ++ [c]) ++ b).any p = true
  simp [h]
theorem decR_cons {c : UInt8} {t : List UInt8} {m : Nat} (hc : (c == 38) = false) (hl : t.length < 1099511627776) : decR (m + 1) (c :: t) = c :: decR m t := by
  have h1 : oneP (c :: t) = ([], 0) := oneP_no (by rw [List.length_cons]; omega) hc
  rw [decR, h1]
  rfl
theorem decP_js (b : List UInt8) (hb : b.length ≤ 1048576) : ∃ X, decP (106 :: 97 :: 118 :: 97 :: 115 :: 99 :: 114 :: 105 :: 112 :: 116 :: 58 :: b) = 106 :: 97 :: 118 :: 97 :: 115 :: 99 :: 114 :: 105 :: 112 :: 116 :: 58 :: X := by
  refine ⟨decR b.length b, ?_⟩
  unfold decP
  show decR (b.length + 10 + 1) _ = _
  rw [decR_cons (by decide) (by simp; omega)]
  show _ :: decR (b.length + 9 + 1) _ = _
  rw [decR_cons (by decide) (by simp; omega)]
  show _ :: _ :: decR (b.length + 8 + 1) _ = _
  rw [decR_cons (by decide) (by simp; omega)]
  show _ :: _ :: _ :: decR (b.length + 7 + 1) _ = _
  rw [decR_cons (by decide) (by simp; omega)]
  show _ :: _ :: _ :: _ :: decR (b.length + 6 + 1) _ = _
  rw [decR_cons (by decide) (by simp; omega)]
  show _ :: _ :: _ :: _ :: _ :: decR (b.length + 5 + 1) _ = _
  rw [decR_cons (by decide) (by simp; omega)]
  show _ :: _ :: _ :: _ :: _ :: _ :: decR (b.length + 4 + 1) _ = _
  rw [decR_cons (by decide) (by simp; omega)]
  show _ :: _ :: _ :: _ :: _ :: _ :: _ :: decR (b.length + 3 + 1) _ = _
  rw [decR_cons (by decide) (by simp; omega)]
  show _ :: _ :: _ :: _ :: _ :: _ :: _ :: _ :: decR (b.length + 2 + 1) _ = _
  rw [decR_cons (by decide) (by simp; omega)]
  show _ :: _ :: _ :: _ :: _ :: _ :: _ :: _ :: _ :: decR (b.length + 1 + 1) _ = _
  rw [decR_cons (by decide) (by simp; omega)]
  show _ :: _ :: _ :: _ :: _ :: _ :: _ :: _ :: _ :: _ :: decR (b.length + 1) _ = _
  rw [decR_cons (by decide) (by omega)]
theorem scheme_js (X : List UInt8) : schemeM (106 :: 97 :: 118 :: 97 :: 115 :: 99 :: 114 :: 105 :: 112 :: 116 :: 58 :: X) = ([106, 97, 118, 97, 115, 99, 114, 105, 112, 116], true) := by kernel_rfl
theorem sf39 : sfP 39 = true := by kernel_rfl
theorem cp59 : (cpP (lowC 59)) = true := by kernel_rfl
theorem stops_call (a b : List UInt8) (ha : a.length ≤ 1048576) (hb : b.length ≤ 1048576) (k : Out → Ans) : iFun Tryd.prog ((layFb anyI).hd Tryd.prog) (layFb anyI).fhs 0 9 [.str a, .str b] [] k = k (.ret (.bool true) []) := by
  refine (stops_fun anyI a b k).trans ?_
  have ll : ∀ c : UInt8, ((a.append [c]).append b).length = a.length + 1 + b.length := fun c => by
    show ((a ++ [c]) ++ b).length = _
    simp only [List.length_append, List.length_singleton]
  have l1 : ∀ c : UInt8, (a.append [c]).length = a.length + 1 := fun c => by show (a ++ [c]).length = _; simp
  have h60 : cleanM ((a.append [60]).append b) = false := by unfold cleanM; rw [cleanC_any, any_mid _ a b 60 (by decide)]; rfl
  have h34 : cleanM ((a.append [34]).append b) = false := by unfold cleanM; rw [cleanC_any _ 34, any_mid _ a b 34 (by decide)]; simp
  have h39 : safeM ((a.append [39]).append b) = false := by unfold safeM; rw [any_mid _ a b 39 sf39]; rfl
  have h59 : plainM ((a.append [59]).append b) = false := by
    unfold plainM lowM
    rw [List.any_map, any_mid (cpP ∘ lowC) a b 59 cp59]
    simp
  obtain ⟨X, hX⟩ := decP_js b hb
  have hX2 := decR_len (106 :: 97 :: 118 :: 97 :: 115 :: 99 :: 114 :: 105 :: 112 :: 116 :: 58 :: b).length (106 :: 97 :: 118 :: 97 :: 115 :: 99 :: 114 :: 105 :: 112 :: 116 :: 58 :: b) (by simp; omega)
  have hl19 : (106 :: 97 :: 118 :: 97 :: 115 :: 99 :: 114 :: 105 :: 112 :: 116 :: 58 :: b : List UInt8).length = b.length + 11 := rfl
  have hX3 : (decP (106 :: 97 :: 118 :: 97 :: 115 :: 99 :: 114 :: 105 :: 112 :: 116 :: 58 :: b)).length ≤ 4 * (b.length + 11) := by rw [← hl19]; exact hX2
  rw [hX] at hX3
  have hca : cleanM a = bif bif bif !anyI a 60 then !anyI a 62 else false then !anyI a 34 else false then !anyI a 39 else false := by
    rw [anyI_c a (show 60 < 256 by decide), anyI_c a (show 62 < 256 by decide), anyI_c a (show 34 < 256 by decide), anyI_c a (show 39 < 256 by decide)]
    unfold cleanM
    rw [cleanC_any, cleanC_any, cleanC_any, cleanC_any]
    generalize a.any (fun d => d == 60) = x
    generalize a.any (fun d => d == 62) = y
    generalize a.any (fun d => d == 34) = z
    generalize a.any (fun d => d == 39) = w
    cases x <;> cases y <;> cases z <;> cases w <;> rfl
  simp only [h60, h34, h39, h59, hX, scheme_js, hl19, ll, l1, ← hca, Bool.not_false, Bool.not_true, cond_true, cond_false]
  simp (disch := omega) only [dT, cond_true, Bool.true_or]
  cases cleanM (106 :: 97 :: 118 :: 97 :: 115 :: 99 :: 114 :: 105 :: 112 :: 116 :: 58 :: b) <;> simp
theorem stops_ok (a b : List UInt8) (ha : a.length ≤ 1048576) (hb : b.length ≤ 1048576) : CallOK Tryd.prog 9 [.str a, .str b] [] (.ret (.bool true) []) := layFb_ok.call (stops_call a b ha hb)
end Go.Mu
set_option linter.unusedVariables false
namespace Go.Mu
open Go
variable {H : Type}
mutual
theorem size_bulk : ∀ d : DataW H, (tOf d).size ≤ Go.Proofs.YtfepcpcnfibbnaaDoor.Rows.uptoBulk d
  | .lit (.bool _) => by simp [tOf, T.size, Go.Proofs.YtfepcpcnfibbnaaDoor.Rows.uptoBulk]
  | .lit (.int _ _) => by simp [tOf, T.size, Go.Proofs.YtfepcpcnfibbnaaDoor.Rows.uptoBulk]
  | .lit (.string _) => by simp [tOf, T.size, Go.Proofs.YtfepcpcnfibbnaaDoor.Rows.uptoBulk]
  | .lit (.float _ _) => by simp [tOf, T.size, T.sizes, Go.Proofs.YtfepcpcnfibbnaaDoor.Rows.uptoBulk]
  | .lit .nil => by simp [tOf, T.size, T.sizes, Go.Proofs.YtfepcpcnfibbnaaDoor.Rows.uptoBulk]
  | .nil => by simp [tOf, T.size, T.sizes, Go.Proofs.YtfepcpcnfibbnaaDoor.Rows.uptoBulk]
  | .ptr d => by simp [tOf, T.size, T.sizes, Go.Proofs.YtfepcpcnfibbnaaDoor.Rows.uptoBulk]
  | .slice es sp => by
    have := size_bulks es
    simp only [tOf, T.size, Go.Proofs.YtfepcpcnfibbnaaDoor.Rows.uptoBulk]
    omega
  | .agg ps => by
    have := size_bulks ps
    simp only [tOf, T.size, Go.Proofs.YtfepcpcnfibbnaaDoor.Rows.uptoBulk]
    omega
  | .iface _ d => by simp [tOf, T.size, T.sizes, Go.Proofs.YtfepcpcnfibbnaaDoor.Rows.uptoBulk]
  | .map _ => by simp [tOf, T.size, T.sizes, Go.Proofs.YtfepcpcnfibbnaaDoor.Rows.uptoBulk]
  | .held _ => by simp [tOf, T.size, T.sizes, Go.Proofs.YtfepcpcnfibbnaaDoor.Rows.uptoBulk]
theorem size_bulks : ∀ ds : List (DataW H), T.sizes (tOfs ds) ≤ Go.Proofs.YtfepcpcnfibbnaaDoor.Rows.uptoBulkAll ds
  | [] => by simp [tOfs, T.sizes, Go.Proofs.YtfepcpcnfibbnaaDoor.Rows.uptoBulkAll]
  | d :: ds => by
    have := size_bulk d
    have := size_bulks ds
    simp only [tOfs, T.sizes, Go.Proofs.YtfepcpcnfibbnaaDoor.Rows.uptoBulkAll]
    omega
end
theorem small_size {ds : List (DataW H)} (h : Go.Proofs.YtfepcpcnfibbnaaDoor.Rows.uptoSmall H ds = true) : T.sizes (tOfs ds) ≤ 1048576 := by
  unfold Go.Proofs.YtfepcpcnfibbnaaDoor.Rows.uptoSmall at h
  have := size_bulks ds
  have := of_decide_eq_true h
  omega
end Go.Mu
