/-
  muslinlaw18: what LexRemarks walks.
-/
import Derived.Test.YtlbmedmddoljnaaDoorLTxt
set_option linter.unusedVariables false
set_option linter.unusedSimpArgs false
set_option maxRecDepth 100000
namespace Go.Mu
open Go Go.Proofs
def hasStar (r : List UInt8) : Bool := r.any (· == 42)
def rmSp : LSp := mkLS [.s, .s, .s, .i .i64] (fun vs => decide (0 ≤ aI vs 3 ∧ aI vs 3 ≤ (aS vs 1).length ∧ (aS vs 1).length ≤ 1099511627776)) (fun vs k => cond (hasStar ((aS vs 1).drop (aI vs 3).toNat)) (k .ret [.str (aS vs 0), .str (aS vs 1), .str (aS vs 2), .bool true]) (k (.exit 0) [.str (aS vs 0), .str (aS vs 1), .str (aS vs 2), .undef]))
def rmFH : FH := .of [(6, loopSpec 82 [0,1,2,7] [] [0,1,2,6] [] rmSp)]
theorem rm_step (a r b : List UInt8) (i : Int) (H : Heap) (D : List (FuncId × List AVal)) (k : Kont) : lturn Tryd.prog layQ2 rmFH 5 6 [0,1,2,7] [] [0,1,2,6] [] (stL 82 [0,1,2,7] [.str a, .str r, .str b, .int .i64 i] [] [] H D) k = (
  let c0 : Bool := decide (i < (↑r.length : Int));
  bif c0 then
    bif decide (0 ≤ i) && c0 then
      bif (↑(r.getD i.toNat 0).toNat : Int) == 42 then
        k AExit.ret (stL 82 [0, 1, 2, 6] [AVal.str a, AVal.str r, AVal.str b, AVal.bool true] [] [] H D)
      else
        k AExit.normal
          (stL 82 [0, 1, 2, 7] [AVal.str a, AVal.str r, AVal.str b, AVal.int IntKind.i64 (IntKind.i64.wrap (i + 1))] [] []
            H D)
    else none
  else k (AExit.exit 0) (stL 82 [0, 1, 2, 6] [AVal.str a, AVal.str r, AVal.str b, AVal.undef] [] [] H D)) := by kernel_rfl
theorem rm_runs (a r b : List UInt8) (hr : r.length ≤ 1099511627776) : ∀ (m i : Nat) (H : Heap), r.length - i ≤ m → i ≤ r.length →
    (hasStar (r.drop i) = true → LoopRuns (lturn Tryd.prog layQ2 rmFH 5 6 [0,1,2,7] [] [0,1,2,6] []) 82 [0,1,2,7] [] [0,1,2,6] [] [.str a, .str r, .str b, .int .i64 i] [] H .ret [.str a, .str r, .str b, .bool true] [] H) ∧
    (hasStar (r.drop i) = false → LoopRuns (lturn Tryd.prog layQ2 rmFH 5 6 [0,1,2,7] [] [0,1,2,6] []) 82 [0,1,2,7] [] [0,1,2,6] [] [.str a, .str r, .str b, .int .i64 i] [] H (.exit 0) [.str a, .str r, .str b, .undef] [] H) := by
  intro m
  induction m with
  | zero =>
    intro i H h1 h2
    have e : r.drop i = [] := List.drop_eq_nil_of_le (by omega)
    rw [e]
    refine ⟨fun h => by simp [hasStar] at h, fun _ => .stop (by simp) (fun D k => ?_)⟩
    rw [rm_step]
    simp (disch := omega) only [dF, cond_false]
  | succ m ih =>
    intro i H h1 h2
    by_cases hi : i < r.length
    · have key := fun D k => rm_step a r b i H D k
      simp (disch := first | omega | decide) only [dT, cond_true, Bool.and_self, eqc, Int.toNat_natCast, wrap_of] at key
      have e2 : (i : Int) + 1 = ((i + 1 : Nat) : Int) := by omega
      rw [e2] at key
      rw [drop_cons_of r i 0 hi]
      have := ih (i + 1) H (by omega) (by omega)
      cases hc : r.getD i 0 == 42 with
      | true =>
        simp only [hc, cond_true] at key
        refine ⟨fun _ => .stop (by simp) key, fun h => ?_⟩
        simp only [hasStar, List.any_cons, hc, Bool.true_or] at h
        cases h
      | false =>
        simp only [hc, cond_false] at key
        have e : hasStar (r.getD i 0 :: r.drop (i + 1)) = hasStar (r.drop (i + 1)) := by simp only [hasStar, List.any_cons, hc, Bool.false_or]
        rw [e]
        exact ⟨fun h => .step key (this.1 h), fun h => .step key (this.2 h)⟩
    · have e : r.drop i = [] := List.drop_eq_nil_of_le (by omega)
      rw [e]
      refine ⟨fun h => by simp [hasStar] at h, fun _ => .stop (by simp) (fun D k => ?_)⟩
      rw [rm_step]
      simp (disch := omega) only [dF, cond_false]
theorem rmSp_ok : SpOK (lturn Tryd.prog layQ2 rmFH 5 6 [0,1,2,7] [] [0,1,2,6] []) 82 [0,1,2,7] [] [0,1,2,6] [] rmSp := mkLS_ok fun ys vs H e h => by
  obtain ⟨a, r, b, n, rfl⟩ : ∃ a r b n, vs = [.str a, .str r, .str b, .int .i64 n] := ⟨_, _, _, _, e⟩
  replace h : 0 ≤ n ∧ n ≤ r.length ∧ r.length ≤ 1099511627776 := of_decide_eq_true h
  obtain ⟨i, rfl⟩ : ∃ i : Nat, n = i := ⟨n.toNat, by omega⟩
  have key := rm_runs a r b h.2.2 _ i H (Nat.le_refl _) (by omega)
  show ∃ e ws, (∀ k : AExit → List AVal → Ans, cond (hasStar (r.drop i)) _ _ = k e ws) ∧ _
  cases hb : hasStar (r.drop i) with
  | true => exact ⟨.ret, _, fun k => rfl, key.1 hb⟩
  | false => exact ⟨.exit 0, _, fun k => rfl, key.2 hb⟩
noncomputable def layR : Lay := layQ2.addL 5 rmFH
theorem layR_ok : layR.OK Tryd.prog := layQ2_ok.loop1 (id := 6) (by kernel_rfl) (by kernel_rfl) (by kernel_rfl) rmSp_ok
theorem rem_fun (a r b : List UInt8) (k : Out → Ans) : iFun Tryd.prog (layR.hd Tryd.prog) layR.fhs 0 5 [.str a, .str r, .str b] [] k = (
  let l0 : List UInt8 := a.append [123];
  let n1 : Int := (↑r.length : Int);
  let l2 : List UInt8 := a.append [123, 123, 47, 42];
  let l3 : List UInt8 := l2.append r;
  let l4 : List UInt8 := l3.append [42, 47, 125, 125];
  let l5 : List UInt8 := l4.append b;
  let c6 : Bool := decide (a.length + b.length ≤ 4611686018427387904);
  let c7 : Bool := c6 || true;
  let n8 : Int := (↑(itemsOf l5).length : Int);
  let c9 : Bool := bif a.append b == [] then n8 == 0 else false;
  let c10 : Bool := n8 == 1;
  let c11 : Bool := !(!c9 && c10);
  bif decide (a.length + 1 ≤ 4611686018427387904) then
    bif decide (l0.length ≤ 1099511627776) then
      bif decide (b.length ≤ 1099511627776) then
        bif
            bif bif opF l0 then true else opF b then true
            else decide (IntKind.i64.wrap (IntKind.i64.wrap ((↑a.length : Int) + (↑b.length : Int)) + n1) > 8192) then
          k (Out.ret (AVal.bool true) [])
        else
          bif decide ((0 : Int) ≤ 0 ∧ 0 ≤ n1 ∧ r.length ≤ 1099511627776) then
            bif hasStar (List.drop (Int.toNat 0) r) then k (Out.ret (AVal.bool true) [])
            else
              bif decide (a.length + 4 ≤ 4611686018427387904) then
                bif decide (l2.length + r.length ≤ 4611686018427387904) then
                  bif decide (l3.length + 4 ≤ 4611686018427387904) then
                    bif decide (l4.length + b.length ≤ 4611686018427387904) then
                      bif decide (16384 < l5.length) then
                        bif c7 then bif c7 then k (Out.ret (AVal.bool false) []) else none else none
                      else
                        bif itBad l5 then bif c7 then bif c7 then k (Out.ret (AVal.bool false) []) else none else none
                        else
                          bif c6 || false then
                            bif decide (0 < n8) || c11 then
                              bif c6 || c11 then
                                k
                                  (Out.ret
                                    (AVal.bool
                                      (bif c9 then true
                                      else
                                        bif c10 then ((itemsOf l5).getD 0 (ItemD.mk 0 [] 0)).text == a.append b
                                        else false))
                                    [])
                              else none
                            else none
                          else none
                    else none
                  else none
                else none
              else none
          else none
      else none
    else none
  else none) := by kernel_rfl
theorem rem_call (a r b : List UInt8) (ha : a.length ≤ 1073741824) (hr : r.length ≤ 1073741824) (hb : b.length ≤ 1073741824) (k : Out → Ans) : iFun Tryd.prog (layR.hd Tryd.prog) layR.fhs 0 5 [.str a, .str r, .str b] [] k = k (.ret (.bool true) []) := by
  have key := rem_fun a r b k
  have la : (a.append [123]).length = a.length + 1 := by simp
  have l2 : (a.append [123, 123, 47, 42]).length = a.length + 4 := by simp
  have l3 : ((a.append [123, 123, 47, 42]).append r).length = a.length + 4 + r.length := by simp; omega
  have l4 : (((a.append [123, 123, 47, 42]).append r).append [42, 47, 125, 125]).length = a.length + 4 + r.length + 4 := by simp; omega
  have l5 : ((((a.append [123, 123, 47, 42]).append r).append [42, 47, 125, 125]).append b).length = a.length + 4 + r.length + 4 + b.length := by simp; omega
  rw [key]
  clear key
  dsimp only
  rw [la, l2, l3, l4, l5, wrap_of (n := (a.length : Int) + b.length) (by omega) (by omega), wrap_of (by omega) (by omega), Int.toNat_zero, List.drop_zero]
  rw [dT (show a.length + 1 ≤ 4611686018427387904 by omega), dT (show a.length + 1 ≤ 1099511627776 by omega), dT (show b.length ≤ 1099511627776 by omega),
    dT (show (0 : Int) ≤ 0 ∧ 0 ≤ (r.length : Int) ∧ r.length ≤ 1099511627776 by omega), dT (show a.length + 4 ≤ 4611686018427387904 by omega), dT (show a.length + 4 + r.length ≤ 4611686018427387904 by omega),
    dT (show a.length + 4 + r.length + 4 ≤ 4611686018427387904 by omega), dT (show a.length + 4 + r.length + 4 + b.length ≤ 4611686018427387904 by omega), dT (show a.length + b.length ≤ 4611686018427387904 by omega)]
  simp only [cond_true, Bool.true_or]
  cases h1 : opF (a.append [123]) with
  | true => rfl
  | false =>
    cases h2 : opF b with
    | true => rfl
    | false =>
      by_cases h3 : (a.length : Int) + b.length + r.length > 8192
      · rw [dT h3]; rfl
      · rw [dF h3, dF (show ¬ 16384 < a.length + 4 + r.length + 4 + b.length by omega)]
        simp only [cond_false]
        cases h4 : hasStar r with
        | true => rfl
        | false =>
          have h5 : ∀ x ∈ r, x ≠ 42 := fun x hx e => by
            unfold hasStar at h4
            rw [List.any_eq_false] at h4
            exact h4 x hx (by simp [e])
          obtain ⟨k1, k2⟩ := items_rem a r b h1 h5 h2 (by omega) (s := (((a.append [123, 123, 47, 42]).append r).append [42, 47, 125, 125]).append b) (by simp)
          rw [k1]
          simp only [cond_false]
          show cond _ _ _ = _
          have eab : a.append b = a ++ b := rfl
          rw [eab]
          cases hab : a ++ b with
          | nil =>
            rw [hab] at k2
            rw [kt_nil k2]
            rfl
          | cons c t =>
            rw [hab] at k2
            obtain ⟨p, hp⟩ := kt_one k2
            rw [hp]
            simp
theorem rem_ok (a r b : List UInt8) (ha : a.length ≤ 1073741824) (hr : r.length ≤ 1073741824) (hb : b.length ≤ 1073741824) : CallOK Tryd.prog 5 [.str a, .str r, .str b] [] (.ret (.bool true) []) := layR_ok.call (rem_call a r b ha hr hb)
end Go.Mu
