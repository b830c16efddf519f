/-
  muslinlaw18: what LexTexts walks.
-/
import Derived.Test.YtlbmedmddoljnaaDoorLLaw
set_option linter.unusedVariables false
set_option linter.unusedSimpArgs false
set_option maxRecDepth 100000
namespace Go.Mu
open Go Go.Proofs
def opSp : LSp := mkLS [.s, .i .i64] (fun vs => decide (0 ≤ aI vs 1 ∧ aI vs 1 ≤ (aS vs 0).length ∧ (aS vs 0).length ≤ 1099511627776)) (fun vs k => cond (opF ((aS vs 0).drop (aI vs 1).toNat)) (k .ret [.bool true]) (k (.exit 0) [.undef]))
def opFH : FH := .of [(2, loopSpec 22 [0,3] [] [2] [] opSp)]
theorem op_step (s : List UInt8) (i : Int) (H : Heap) (D : List (FuncId × List AVal)) (k : Kont) : lturn Tryd.prog Lay.nil opFH 10 2 [0,3] [] [2] [] (stL 22 [0,3] [.str s, .int .i64 i] [] [] H D) k = (
  let n0 : Int := IntKind.i64.wrap (i + 1);
  let n1 : Int := (↑s.length : Int);
  let c2 : Bool := decide (n0 < n1);
  let c3 : Bool := (↑(s.getD i.toNat 0).toNat : Int) == 123;
  bif c2 then
    bif decide (0 ≤ i) && decide (i < n1) then
      bif decide (0 ≤ n0) && c2 || !c3 then
        bif bif c3 then (↑(s.getD n0.toNat 0).toNat : Int) == 123 else false then
          k AExit.ret (stL 22 [2] [AVal.bool true] [] [] H D)
        else k AExit.normal (stL 22 [0, 3] [AVal.str s, AVal.int IntKind.i64 n0] [] [] H D)
      else none
    else none
  else k (AExit.exit 0) (stL 22 [2] [AVal.undef] [] [] H D)) := by kernel_rfl
theorem op_runs (s : List UInt8) (hs : s.length ≤ 1099511627776) : ∀ (m i : Nat) (H : Heap), s.length - i ≤ m → i ≤ s.length →
    (opF (s.drop i) = true → LoopRuns (lturn Tryd.prog Lay.nil opFH 10 2 [0,3] [] [2] []) 22 [0,3] [] [2] [] [.str s, .int .i64 i] [] H .ret [.bool true] [] H) ∧
    (opF (s.drop i) = false → LoopRuns (lturn Tryd.prog Lay.nil opFH 10 2 [0,3] [] [2] []) 22 [0,3] [] [2] [] [.str s, .int .i64 i] [] H (.exit 0) [.undef] [] H) := by
  intro m
  induction m with
  | zero =>
    intro i H h1 h2
    have e : s.drop i = [] := List.drop_eq_nil_of_le (by omega)
    rw [e]
    refine ⟨fun h => by simp [opF] at h, fun _ => .stop (by simp) (fun D k => ?_)⟩
    rw [op_step]
    simp (disch := omega) only [dF, cond_false, wrap_of]
  | succ m ih =>
    intro i H h1 h2
    by_cases hi : i + 1 < s.length
    · have key := fun D k => op_step s i H D k
      simp (disch := first | omega | decide) only [dT, cond_true, Bool.true_or, Bool.and_true, Bool.and_self, eqc, Int.toNat_natCast, List.take_length, wrap_of, bif_and] at key
      have e1 : ((i : Int) + 1).toNat = i + 1 := by omega
      have e2 : (i : Int) + 1 = ((i + 1 : Nat) : Int) := by omega
      rw [e1, e2] at key
      have ed := drop_cons_of s i 0 (by omega)
      have ed2 := drop_cons_of s (i + 1) 0 hi
      rw [ed, ed2]
      have := ih (i + 1) H (by omega) (by omega)
      rw [ed2] at this
      rw [opF]
      cases hc : s.getD i 0 == 123 && s.getD (i + 1) 0 == 123 with
      | true =>
        simp only [hc, cond_true] at key
        simp only [Bool.true_or]
        exact ⟨fun _ => .stop (by simp) key, fun h => by simp at h⟩
      | false =>
        simp only [hc, cond_false] at key
        simp only [Bool.false_or]
        exact ⟨fun h => .step key (this.1 h), fun h => .step key (this.2 h)⟩
    · have e : opF (s.drop i) = false := by
        have hl : (s.drop i).length ≤ 1 := by simp; omega
        match s.drop i, hl with
        | [], _ => rfl
        | [c], _ => rfl
      rw [e]
      refine ⟨fun h => by simp at h, fun _ => .stop (by simp) (fun D k => ?_)⟩
      rw [op_step]
      simp (disch := omega) only [dF, cond_false, wrap_of]
theorem opSp_ok : SpOK (lturn Tryd.prog Lay.nil opFH 10 2 [0,3] [] [2] []) 22 [0,3] [] [2] [] opSp := mkLS_ok fun ys vs H e h => by
  obtain ⟨s, n, rfl⟩ : ∃ s n, vs = [.str s, .int .i64 n] := ⟨_, _, e⟩
  replace h : 0 ≤ n ∧ n ≤ s.length ∧ s.length ≤ 1099511627776 := of_decide_eq_true h
  obtain ⟨i, rfl⟩ : ∃ i : Nat, n = i := ⟨n.toNat, by omega⟩
  have key := op_runs s h.2.2 _ i H (Nat.le_refl _) (by omega)
  show ∃ e ws, (∀ k : AExit → List AVal → Ans, cond (opF (s.drop i)) _ _ = k e ws) ∧ _
  cases hb : opF (s.drop i) with
  | true => exact ⟨.ret, [.bool true], fun k => rfl, key.1 hb⟩
  | false => exact ⟨.exit 0, [.undef], fun k => rfl, key.2 hb⟩
noncomputable def layO : Lay := Lay.nil.addL 10 opFH
theorem layO_ok : layO.OK Tryd.prog := Lay.nil_ok.loop1 (id := 2) (by kernel_rfl) (by kernel_rfl) (by kernel_rfl) opSp_ok
theorem op_fun (s : List UInt8) (k : Out → Ans) : iFun Tryd.prog (layO.hd Tryd.prog) layO.fhs 0 10 [.str s] [] k =
  cond (true && true && decide (0 ≤ (0 : Int) ∧ (0 : Int) ≤ s.length ∧ s.length ≤ 1099511627776)) (cond (opF (s.drop (0 : Int).toNat)) (k (.ret (.bool true) [])) (k (.ret (.bool false) []))) none := by kernel_rfl
def opTold : FSp := mkFS [.s] (fun xs => decide ((aS xs 0).length ≤ 1099511627776)) (fun xs k => k (.ret (.bool (opF (aS xs 0))) []))
theorem opTold_ok : ∀ xs H k out, opTold xs H k = some out → ∃ o, CallOK Tryd.prog 10 xs H o ∧ k o = some out := mkFS_ok fun ys xs e h => by
  obtain ⟨s, rfl⟩ : ∃ s, xs = [.str s] := ⟨_, e⟩
  replace h : s.length ≤ 1099511627776 := of_decide_eq_true h
  refine ⟨.ret (.bool (opF s)) [], fun k => rfl, layO_ok.callF (G := []) rfl (fun k => ?_)⟩
  rw [op_fun, dT (by omega)]
  show cond (opF s) _ _ = _
  cases opF s <;> rfl
noncomputable def layQ : Lay := (Lay.nil.addF 11 itemsTold).addF 10 opTold
theorem layQ_ok : layQ.OK Tryd.prog := (Lay.nil_ok.addF itemsTold_ok).addF opTold_ok
theorem alive18_fun (k : Out → Ans) : iFun Tryd.prog (layQ.hd Tryd.prog) layQ.fhs 0 9 [] [] k = k (.ret (.bool true) []) := by kernel_rfl
def alive18Told : FSp := mkFS [] (fun _ => true) (fun _ k => k (.ret (.bool true) []))
theorem alive18Told_ok : ∀ xs H k out, alive18Told xs H k = some out → ∃ o, CallOK Tryd.prog 9 xs H o ∧ k o = some out := mkFS_ok fun ys xs e h => by
  obtain rfl : xs = [] := e
  exact ⟨_, fun k => rfl, layQ_ok.callF (G := []) rfl alive18_fun⟩
noncomputable def layQ2 : Lay := layQ.addF 9 alive18Told
theorem layQ2_ok : layQ2.OK Tryd.prog := layQ_ok.addF alive18Told_ok
theorem texts_fun (s : List UInt8) (k : Out → Ans) : iFun Tryd.prog (layQ2.hd Tryd.prog) layQ2.fhs 0 3 [.str s] [] k = (
  let c0 : Bool := decide (5 + s.length ≤ 4611686018427387904);
  let l1 : List UInt8 := 123 :: 123 :: 46 :: 125 :: 125 :: s;
  let c2 : Bool := decide (16384 < l1.length);
  let c3 : Bool := s == [];
  let c4 : Bool := itBad l1;
  let n5 : Int := (↑(itemsOf l1).length : Int);
  let c6 : Bool := n5 == 1;
  let c7 : Bool := decide (1 < n5);
  let n8 : Int := (↑(itemsOf s).length : Int);
  let c9 : Bool := n8 == 0;
  let c10 : Bool := decide (0 < n8);
  let c11 : Bool := n8 == 1;
  let c12 : Bool := bif bif c11 then ((itemsOf s).getD 0 (ItemD.mk 0 [] 0)).text == s else false then n5 == 2 else false;
  bif decide (s.length ≤ 1099511627776) then
    bif bif opF s then true else decide ((↑s.length : Int) > 8192) then k (Out.ret (AVal.bool true) [])
    else
      bif decide (16384 < s.length) then
        bif c0 then
          bif c2 then bif c3 then k (Out.ret (AVal.bool false) []) else k (Out.ret (AVal.bool false) [])
          else
            bif c4 then bif c3 then k (Out.ret (AVal.bool false) []) else k (Out.ret (AVal.bool false) [])
            else
              bif c3 then k (Out.ret (AVal.bool c6) [])
              else bif c7 || true then k (Out.ret (AVal.bool false) []) else none
        else none
      else
        bif itBad s then
          bif c0 then
            bif c2 then bif c3 then k (Out.ret (AVal.bool false) []) else k (Out.ret (AVal.bool false) [])
            else
              bif c4 then bif c3 then k (Out.ret (AVal.bool false) []) else k (Out.ret (AVal.bool false) [])
              else
                bif c3 then k (Out.ret (AVal.bool c6) [])
                else bif c7 || true then k (Out.ret (AVal.bool false) []) else none
          else none
        else
          bif c0 then
            bif c2 then
              bif c3 then k (Out.ret (AVal.bool (bif c9 then false else false)) [])
              else bif c10 || true then k (Out.ret (AVal.bool false) []) else none
            else
              bif c4 then
                bif c3 then k (Out.ret (AVal.bool (bif c9 then false else false)) [])
                else bif c10 || true then k (Out.ret (AVal.bool false) []) else none
              else
                bif c3 then k (Out.ret (AVal.bool (bif c9 then c6 else false)) [])
                else
                  bif c10 || !c11 then
                    bif c7 || !c12 then
                      k
                        (Out.ret (AVal.bool (bif c12 then ((itemsOf l1).getD 1 (ItemD.mk 0 [] 0)).text == s else false))
                          [])
                    else none
                  else none
          else none
  else none) := by kernel_rfl
theorem kt_nil {s : List UInt8} (h : (itemsOf s).map kt = []) : itemsOf s = [] := List.map_eq_nil_iff.1 h
theorem kt_one {s t : List UInt8} {n : Int} (h : (itemsOf s).map kt = [(n, t)]) : ∃ p, itemsOf s = [⟨n, t, p⟩] := by
  match itemsOf s, h with
  | [⟨a, b, c⟩], h =>
    simp only [List.map_cons, List.map_nil, List.cons.injEq, and_true, Prod.mk.injEq] at h
    obtain ⟨rfl, rfl⟩ := h
    exact ⟨_, rfl⟩
theorem kt_two {s t u : List UInt8} {n m : Int} (h : (itemsOf s).map kt = [(n, t), (m, u)]) : ∃ p q, itemsOf s = [⟨n, t, p⟩, ⟨m, u, q⟩] := by
  match itemsOf s, h with
  | [⟨a, b, c⟩, ⟨d, e, f⟩], h =>
    simp only [List.map_cons, List.map_nil, List.cons.injEq, and_true, Prod.mk.injEq] at h
    obtain ⟨⟨rfl, rfl⟩, rfl, rfl⟩ := h
    exact ⟨_, _, rfl⟩
theorem texts_call (s : List UInt8) (hs : s.length ≤ 1099511627776) (k : Out → Ans) : iFun Tryd.prog (layQ2.hd Tryd.prog) layQ2.fhs 0 3 [.str s] [] k = k (.ret (.bool true) []) := by
  rw [texts_fun, dT hs, cond_true]
  cases ho : opF s with
  | true => rfl
  | false =>
    by_cases hl : (s.length : Int) > 8192
    · rw [dT hl]; rfl
    · rw [dF hl]
      obtain ⟨a1, a2⟩ := items_none s ho
      obtain ⟨b1, b2⟩ := items_dot s ho (by omega)
      have h5 : (123 :: 123 :: 46 :: 125 :: 125 :: s).length ≤ 16384 := by simp; omega
      simp only [cond_false]
      rw [dF (show ¬ 16384 < s.length by omega), a1, dT (show 5 + s.length ≤ 4611686018427387904 by omega), dF (show ¬ 16384 < (123 :: 123 :: 46 :: 125 :: 125 :: s).length by omega), b1]
      cases s with
      | nil =>
        rw [kt_nil a2]
        obtain ⟨p, hp⟩ := kt_one b2
        rw [hp]
        rfl
      | cons c t =>
        obtain ⟨p, hp⟩ := kt_one a2
        obtain ⟨q, r, hq⟩ := kt_two b2
        rw [hp, hq]
        simp only [cond_false, cond_true]
        simp
theorem texts_ok (s : List UInt8) (hs : s.length ≤ 1099511627776) : CallOK Tryd.prog 3 [.str s] [] (.ret (.bool true) []) := layQ2_ok.call (texts_call s hs)
end Go.Mu
