/-
  muslinlaw18: what LexTrims walks.
-/
import Derived.Test.YtlbmedmddoljnaaDoorLTxt
set_option linter.unusedVariables false
set_option linter.unusedSimpArgs false
set_option maxRecDepth 100000
namespace Go.Mu
open Go Go.Proofs
theorem blank18_fun (n : Int) (k : Out → Ans) : iFun Tryd.prog (Lay.nil.hd Tryd.prog) Lay.nil.fhs 0 13 [.int .u8 n] [] k = (
  k
    (Out.ret
      (AVal.bool
        (bif bif bif bif n == 32 then true else n == 9 then true else n == 10 then true else n == 12 then true
        else n == 13))
      [])) := by kernel_rfl
theorem blkI_or (n : Int) : (bif bif bif bif n == 32 then true else n == 9 then true else n == 10 then true else n == 12 then true else n == 13) = blkI n := by
  unfold blkI
  rw [Bool.eq_iff_iff]
  simp only [bif_or, Bool.or_eq_true, Bool.and_eq_true, beq_iff_eq, bne_iff_ne, decide_eq_true_eq]
  omega
def blank18Told : FSp := mkFS [.i .u8] (fun _ => true) (fun xs k => k (.ret (.bool (blkI (aI xs 0))) []))
theorem blank18Told_ok : ∀ xs H k out, blank18Told xs H k = some out → ∃ o, CallOK Tryd.prog 13 xs H o ∧ k o = some out := mkFS_ok fun ys xs e h => by
  obtain ⟨n, rfl⟩ : ∃ n, xs = [.int .u8 n] := ⟨_, e⟩
  refine ⟨_, fun k => rfl, Lay.nil_ok.callF (G := []) rfl (fun k => ?_)⟩
  rw [blank18_fun, blkI_or]
  rfl
noncomputable def layM1 : Lay := layQ2.addF 13 blank18Told
theorem layM1_ok : layM1.OK Tryd.prog := layQ2_ok.addF blank18Told_ok
def decIt (v : AVal) : List ItemD := decL decItem v
theorem decIt_enc (f : Bool) (l : List ItemD) : decIt (encL f encItem ⟨0, [], 0⟩ l) = l := decL_encL (fun _ => rfl) l
abbrev itL (f : Bool) (l : List ItemD) : AVal := encL f encItem ⟨0, [], 0⟩ l
/-- texts, and | for an action -/
def catP : List ItemD → List UInt8
  | [] => []
  | i :: t => (bif i.kind == 2 then [124] else i.text) ++ catP t
def tmSpR : LSp := mkLS [.a, .i .i64, .s, .s] (fun vs => decide ((aS vs 2).length ≤ 1099511627776)) (fun vs k => k (.exit 0) [vs.getD 0 .undef, .int .i64 (aI vs 1), .str (trimR (aS vs 2)), .str (aS vs 3)])
def tmSpL : LSp := mkLS [.a, .i .i64, .s, .s] (fun vs => decide ((aS vs 3).length ≤ 1099511627776)) (fun vs k => k (.exit 2) [vs.getD 0 .undef, .int .i64 (aI vs 1), .str (aS vs 2), .str (trimL (aS vs 3))])
structure TmA where
  full : Bool
  l : List ItemD
  e : Int
  x : List UInt8
  y : List UInt8
  t : List UInt8
  i : Nat
  H : Heap
def tmDec (vs : List AVal) (bs : List (List AVal)) (H : Heap) : TmA := ⟨fullOf (vs.getD 0 .undef), decIt (vs.getD 0 .undef), aI vs 1, aS vs 2, aS vs 3, aS vs 4, (aI vs 5).toNat, H⟩
def TmOk (a : TmA) : Prop := a.i ≤ a.l.length ∧ a.l.length ≤ 1048576 ∧ (∀ x ∈ a.l, x.text.length ≤ 1048576) ∧ a.t.length ≤ a.i * 1048576
noncomputable def tmSpC : LSp := mkL tmDec TmOk (fun a => [itL a.full a.l, .int .i64 a.e, .str a.x, .str a.y, .str a.t, .int .i64 a.i]) (fun _ => []) (fun a => a.H) (fun a k => k (.exit 4) [.int .i64 a.e, .str a.x, .str a.y, .str (a.t ++ catP (a.l.drop a.i))] [] a.H)
noncomputable def tmFH : FH := .of [(7, loopSpec 98 [5,7,8,9] [] [5,7,8,9] [] tmSpR), (9, loopSpec 98 [5,7,8,9] [] [5,7,8,9] [] tmSpL), (13, loopSpec 98 [5,7,8,9,10,11] [] [7,8,9,10] [] tmSpC)]
theorem tmR_step (l : AVal) (e : Int) (x y : List UInt8) (H : Heap) (D : List (FuncId × List AVal)) (k : Kont) : lturn Tryd.prog layM1 tmFH 4 7 [5,7,8,9] [] [5,7,8,9] [] (stL 98 [5,7,8,9] [l, .int .i64 e, .str x, .str y] [] [] H D) k = (
  let n0 : Int := (↑x.length : Int);
  let n1 : Int := IntKind.i64.wrap (n0 - 1);
  let c2 : Bool := decide (0 ≤ n1);
  let c3 : Bool := decide (n0 > 0);
  let m4 : Nat := n1.toNat;
  bif c2 && decide (n1 < n0) || !c3 then
    bif bif c3 then blkI (↑(x.getD m4 0).toNat : Int) else false then
      bif c2 && decide (n1 ≤ n0) then
        k AExit.normal
          (stL 98 [5, 7, 8, 9]
            [l, AVal.int IntKind.i64 e, AVal.str (List.drop (Int.toNat 0) (List.take m4 x)), AVal.str y] [] [] H D)
      else none
    else k (AExit.exit 0) (stL 98 [5, 7, 8, 9] [l, AVal.int IntKind.i64 e, AVal.str x, AVal.str y] [] [] H D)
  else none) := by kernel_rfl
theorem tmL_step (l : AVal) (e : Int) (x y : List UInt8) (H : Heap) (D : List (FuncId × List AVal)) (k : Kont) : lturn Tryd.prog layM1 tmFH 4 9 [5,7,8,9] [] [5,7,8,9] [] (stL 98 [5,7,8,9] [l, .int .i64 e, .str x, .str y] [] [] H D) k = (
  let n0 : Int := (↑y.length : Int);
  let c1 : Bool := decide (n0 > 0);
  bif decide (0 < n0) || !c1 then
    bif bif c1 then blkI (↑(y.getD 0 0).toNat : Int) else false then
      bif decide (1 ≤ n0) && decide (n0 ≤ n0) then
        k AExit.normal
          (stL 98 [5, 7, 8, 9]
            [l, AVal.int IntKind.i64 e, AVal.str x, AVal.str (List.drop (Int.toNat 1) (List.take n0.toNat y))] [] [] H D)
      else none
    else k (AExit.exit 2) (stL 98 [5, 7, 8, 9] [l, AVal.int IntKind.i64 e, AVal.str x, AVal.str y] [] [] H D)
  else none) := by kernel_rfl
theorem tmC_step (f : Bool) (l : List ItemD) (e : Int) (x y t : List UInt8) (i : Int) (H : Heap) (D : List (FuncId × List AVal)) (k : Kont) : lturn Tryd.prog layM1 tmFH 4 13 [5,7,8,9,10,11] [] [7,8,9,10] [] (stL 98 [5,7,8,9,10,11] [itL f l, .int .i64 e, .str x, .str y, .str t, .int .i64 i] [] [] H D) k = (
  let c0 : Bool := decide (i < (↑l.length : Int));
  let c1 : Bool := decide (0 ≤ i) && c0;
  let l2 : List UInt8 := (l.getD i.toNat (ItemD.mk 0 [] 0)).text;
  bif c0 then
    bif c1 then
      bif (l.getD i.toNat (ItemD.mk 0 [] 0)).kind == 2 then
        bif decide (t.length + 1 ≤ 4611686018427387904) then
          k AExit.normal
            (stL 98 [5, 7, 8, 9, 10, 11]
              [AVal.list f l.length fun (i : Nat) => encItem (l.getD i (ItemD.mk 0 [] 0)), AVal.int IntKind.i64 e,
                AVal.str x, AVal.str y, AVal.str (t.append [124]), AVal.int IntKind.i64 (IntKind.i64.wrap (i + 1))]
              [] [] H D)
        else none
      else
        bif c1 then
          bif decide (t.length + l2.length ≤ 4611686018427387904) then
            k AExit.normal
              (stL 98 [5, 7, 8, 9, 10, 11]
                [AVal.list f l.length fun (i : Nat) => encItem (l.getD i (ItemD.mk 0 [] 0)), AVal.int IntKind.i64 e,
                  AVal.str x, AVal.str y, AVal.str (t.append l2), AVal.int IntKind.i64 (IntKind.i64.wrap (i + 1))]
                [] [] H D)
          else none
        else none
    else none
  else k (AExit.exit 4) (stL 98 [7, 8, 9, 10] [AVal.int IntKind.i64 e, AVal.str x, AVal.str y, AVal.str t] [] [] H D)) := by kernel_rfl
theorem tmR_ok : SpOK (lturn Tryd.prog layM1 tmFH 4 7 [5,7,8,9] [] [5,7,8,9] []) 98 [5,7,8,9] [] [5,7,8,9] [] tmSpR := mkLS_ok fun ys vs H e h => by
  obtain ⟨l, n, s, y, rfl⟩ : ∃ l n s y, vs = [l, .int .i64 n, .str s, .str y] := ⟨_, _, _, _, e⟩
  clear e
  replace h : s.length ≤ 1099511627776 := of_decide_eq_true h
  refine ⟨_, _, fun k => rfl, ?_⟩
  show LoopRuns _ _ _ _ _ _ [l, .int .i64 n, .str s, .str y] _ _ _ [l, .int .i64 n, .str (trimR s), .str y] _ _
  generalize hn : s.length = m at h
  induction m generalizing s with
  | zero =>
    have : s = [] := List.eq_nil_of_length_eq_zero hn
    subst this
    exact .stop (by simp) (fun D k => by rw [tmR_step]; rfl)
  | succ m ih =>
    obtain ⟨t, c, rfl⟩ : ∃ t c, s = t ++ [c] := ⟨s.dropLast, s.getLast (by intro e; subst e; simp at hn), (List.dropLast_concat_getLast _).symm⟩
    have ht : t.length = m := by simpa using hn
    have ew : IntKind.i64.wrap (((m + 1 : Nat) : Int) - 1) = (m : Int) := by rw [wrap_of (by omega) (by omega)]; omega
    have el : (t ++ [c]).getD m 0 = c := by simp [List.getD_eq_getElem?_getD, ← ht]
    have e2 : (t ++ [c]).take m = t := by rw [← ht]; simp
    rw [trimR_snoc]
    have key := fun D k => tmR_step l n (t ++ [c]) y H D k
    simp only [hn, ew, Int.toNat_natCast, el, e2, blkI_eq, Int.toNat_zero, List.drop_zero] at key
    simp (disch := omega) only [dT, cond_true, Bool.and_self, Bool.not_true, Bool.or_false] at key
    cases hb : blk c with
    | true => simp only [hb, cond_true] at key; exact .step key (ih t (by omega) (by omega))
    | false => simp only [hb, cond_false] at key; exact .stop (by simp) key
theorem tmL_ok : SpOK (lturn Tryd.prog layM1 tmFH 4 9 [5,7,8,9] [] [5,7,8,9] []) 98 [5,7,8,9] [] [5,7,8,9] [] tmSpL := mkLS_ok fun ys vs H e h => by
  obtain ⟨l, n, x, s, rfl⟩ : ∃ l n x s, vs = [l, .int .i64 n, .str x, .str s] := ⟨_, _, _, _, e⟩
  clear e
  replace h : s.length ≤ 1099511627776 := of_decide_eq_true h
  refine ⟨_, _, fun k => rfl, ?_⟩
  show LoopRuns _ _ _ _ _ _ [l, .int .i64 n, .str x, .str s] _ _ _ [l, .int .i64 n, .str x, .str (trimL s)] _ _
  induction s with
  | nil => exact .stop (by simp) (fun D k => by rw [tmL_step]; rfl)
  | cons c t ih =>
    have key := fun D k => tmL_step l n x (c :: t) H D k
    simp only [List.length_cons] at h
    simp only [List.getD_cons_zero, blkI_eq, Int.toNat_natCast, List.take_length, Int.toNat_one, List.drop_succ_cons, List.drop_zero] at key
    simp (disch := first | omega | (simp only [List.length_cons]; omega)) only [dT, cond_true, Bool.and_self, Bool.not_true, Bool.or_false] at key
    cases hb : blk c with
    | true =>
      have e : trimL (c :: t) = trimL t := by simp [trimL, hb]
      simp only [hb, cond_true] at key
      rw [e]
      exact .step key (ih (by omega))
    | false =>
      have e : trimL (c :: t) = c :: t := by simp [trimL, hb]
      simp only [hb, cond_false] at key
      rw [e]
      exact .stop (by simp) key
theorem tmC_ok : SpOK (lturn Tryd.prog layM1 tmFH 4 13 [5,7,8,9,10,11] [] [7,8,9,10] []) 98 [5,7,8,9,10,11] [] [7,8,9,10] [] tmSpC := mkL_ok fun a h => by
  refine ⟨_, _, _, _, fun k => rfl, ?_⟩
  obtain ⟨f, l, e, x, y, t, i, H⟩ := a
  obtain ⟨h1, h2, h3, h4⟩ := h
  simp only at h1 h2 h3 h4 ⊢
  generalize hm : l.length - i = m
  induction m generalizing i t with
  | zero =>
    have e : l.drop i = [] := List.drop_eq_nil_of_le (by omega)
    rw [e, catP, List.append_nil]
    exact .stop (by simp) (fun D k => by rw [tmC_step]; simp (disch := omega) only [dF, cond_false])
  | succ m ih =>
    have key := fun D k => tmC_step f l e x y t i H D k
    have hi : i < l.length := by omega
    have e2 : (i : Int) + 1 = ((i + 1 : Nat) : Int) := by omega
    simp (disch := omega) only [Int.toNat_natCast, dT, cond_true, Bool.and_self, wrap_of, e2] at key
    have ed := drop_cons_of l i ⟨0, [], 0⟩ hi
    have h5 : (l.getD i ⟨0, [], 0⟩).text.length ≤ 1048576 := by
      rw [List.getD_eq_getElem?_getD, List.getElem?_eq_getElem hi]
      exact h3 _ (List.getElem_mem _)
    rw [ed, catP]
    obtain ⟨r, hr⟩ : ∃ r, r = l.getD i ⟨0, [], 0⟩ := ⟨_, rfl⟩
    simp only [← hr] at key h5 ⊢
    have hb : t.length + r.text.length ≤ (i + 1) * 1048576 := by rw [Nat.add_mul]; omega
    have hi2 : i * 1048576 ≤ 1048576 * 1048576 := Nat.mul_le_mul_right _ (by omega)
    cases hk : r.kind == 2 with
    | true =>
      simp (disch := omega) only [hk, cond_true, dT] at key
      have := ih (t := t ++ [124]) (i := i + 1) (by omega) (by rw [List.length_append, Nat.add_mul]; show t.length + 1 ≤ _; omega) (by omega)
      rw [List.append_assoc] at this
      exact .step key this
    | false =>
      simp (disch := omega) only [hk, cond_false, dT] at key
      have := ih (t := t ++ r.text) (i := i + 1) (by omega) (by rw [List.length_append]; exact hb) (by omega)
      rw [List.append_assoc] at this
      exact .step key this
theorem tm_loops : LOk Tryd.prog tmFH (codeOf Tryd.prog 4) := by
  have f7 : tmFH.loops (firstRegion (loopAt 7 (codeOf Tryd.prog 4))) = some (loopSpec 98 [5,7,8,9] [] [5,7,8,9] [] tmSpR) := by kernel_rfl
  have f9 : tmFH.loops (firstRegion (loopAt 9 (codeOf Tryd.prog 4))) = some (loopSpec 98 [5,7,8,9] [] [5,7,8,9] [] tmSpL) := by kernel_rfl
  have f13 : tmFH.loops (firstRegion (loopAt 13 (codeOf Tryd.prog 4))) = some (loopSpec 98 [5,7,8,9,10,11] [] [7,8,9,10] [] tmSpC) := by kernel_rfl
  have e : loopsIn (codeOf Tryd.prog 4) = [loopAt 7 (codeOf Tryd.prog 4), loopAt 9 (codeOf Tryd.prog 4), loopAt 13 (codeOf Tryd.prog 4)] := by kernel_rfl
  have e7 : loopsIn (loopAt 7 (codeOf Tryd.prog 4)) = [] := by kernel_rfl
  have e9 : loopsIn (loopAt 9 (codeOf Tryd.prog 4)) = [] := by kernel_rfl
  have e13 : loopsIn (loopAt 13 (codeOf Tryd.prog 4)) = [] := by kernel_rfl
  refine LOk.of _ (fun d hd sp hsp => ?_)
  rw [e, List.mem_cons, List.mem_cons, List.mem_singleton] at hd
  rcases hd with rfl | rfl | rfl
  · rw [f7, Option.some.injEq] at hsp
    subst hsp; exact layM1_ok.told (LOk.of _ (fun d hd => by rw [e7] at hd; cases hd)) tmR_ok
  · rw [f9, Option.some.injEq] at hsp
    subst hsp; exact layM1_ok.told (LOk.of _ (fun d hd => by rw [e9] at hd; cases hd)) tmL_ok
  · rw [f13, Option.some.injEq] at hsp
    subst hsp; exact layM1_ok.told (LOk.of _ (fun d hd => by rw [e13] at hd; cases hd)) tmC_ok
noncomputable def layM : Lay := layM1.addL 4 tmFH
theorem layM_ok : layM.OK Tryd.prog := layM1_ok.addL tm_loops
theorem trm_fun (a b : List UInt8) (k : Out → Ans) : iFun Tryd.prog (layM.hd Tryd.prog) layM.fhs 0 4 [.str a, .str b] [] k = (
  let l0 : List UInt8 := a.append [123];
  let c1 : Bool := decide (b.length ≤ 1099511627776);
  let l2 : List UInt8 := a.append [123, 123, 45, 32, 46, 120, 32, 45, 125, 125];
  let l3 : List UInt8 := l2.append b;
  let c4 : Bool := decide (a.length ≤ 1099511627776);
  let c5 : Bool := decide ((trimR a).length + 1 ≤ 4611686018427387904);
  let l6 : List UInt8 := (trimR a).append [124];
  let c7 : Bool := decide (l6.length + (trimL b).length ≤ 4611686018427387904);
  bif decide (a.length + 1 ≤ 4611686018427387904) then
    bif decide (l0.length ≤ 1099511627776) then
      bif c1 then
        bif
            bif bif opF l0 then true else opF b then true
            else decide (IntKind.i64.wrap ((↑a.length : Int) + (↑b.length : Int)) > 8192) then
          k (Out.ret (AVal.bool true) [])
        else
          bif decide (a.length + 10 ≤ 4611686018427387904) then
            bif decide (l2.length + b.length ≤ 4611686018427387904) then
              bif decide (16384 < l3.length) then
                bif c4 then
                  bif c1 then
                    bif
                        tst
                          (TmOk
                              (TmA.mk true (decIt (AVal.list true 0 fun (x : Nat) => [])) 5 (trimR a) (trimL b) []
                                (Int.toNat 0) []) ∧
                            SubTL
                                [AVal.list true 0 fun (x : Nat) => [], AVal.int IntKind.i64 5, AVal.str (trimR a),
                                  AVal.str (trimL b), AVal.str [], AVal.int IntKind.i64 0]
                                [itL true (decIt (AVal.list true 0 fun (x : Nat) => [])), AVal.int IntKind.i64 5,
                                  AVal.str (trimR a), AVal.str (trimL b), AVal.str [],
                                  AVal.int IntKind.i64 (↑(Int.toNat 0) : Int)] ∧
                              ([] : List (List AVal)) = [] ∧ ([] : Heap) = []) then
                      bif c5 || true then bif c7 || true then k (Out.ret (AVal.bool false) []) else none else none
                    else none
                  else none
                else none
              else
                bif itBad l3 then
                  bif c4 then
                    bif c1 then
                      bif
                          tst
                            (TmOk
                                (TmA.mk true (decIt (AVal.list true 0 fun (x : Nat) => [])) 8 (trimR a) (trimL b) []
                                  (Int.toNat 0) []) ∧
                              SubTL
                                  [AVal.list true 0 fun (x : Nat) => [], AVal.int IntKind.i64 8, AVal.str (trimR a),
                                    AVal.str (trimL b), AVal.str [], AVal.int IntKind.i64 0]
                                  [itL true (decIt (AVal.list true 0 fun (x : Nat) => [])), AVal.int IntKind.i64 8,
                                    AVal.str (trimR a), AVal.str (trimL b), AVal.str [],
                                    AVal.int IntKind.i64 (↑(Int.toNat 0) : Int)] ∧
                                ([] : List (List AVal)) = [] ∧ ([] : Heap) = []) then
                        bif c5 || true then bif c7 || true then k (Out.ret (AVal.bool false) []) else none else none
                      else none
                    else none
                  else none
                else
                  bif c4 then
                    bif c1 then
                      bif
                          tst
                            (TmOk
                                (TmA.mk false
                                  (decIt
                                    (AVal.list false (itemsOf l3).length fun (i : Nat) =>
                                      encItem
                                        ((itemsOf
                                              ((a.append [123, 123, 45, 32, 46, 120, 32, 45, 125, 125]).append b)).getD
                                          i (ItemD.mk 0 [] 0))))
                                  0 (trimR a) (trimL b) [] (Int.toNat 0) []) ∧
                              SubTL
                                  [AVal.list false (itemsOf l3).length fun (i : Nat) =>
                                      encItem
                                        ((itemsOf
                                              ((a.append [123, 123, 45, 32, 46, 120, 32, 45, 125, 125]).append b)).getD
                                          i (ItemD.mk 0 [] 0)),
                                    AVal.int IntKind.i64 0, AVal.str (trimR a), AVal.str (trimL b), AVal.str [],
                                    AVal.int IntKind.i64 0]
                                  [itL false
                                      (decIt
                                        (AVal.list false (itemsOf l3).length fun (i : Nat) =>
                                          encItem
                                            ((itemsOf
                                                  ((a.append [123, 123, 45, 32, 46, 120, 32, 45, 125, 125]).append
                                                    b)).getD
                                              i (ItemD.mk 0 [] 0)))),
                                    AVal.int IntKind.i64 0, AVal.str (trimR a), AVal.str (trimL b), AVal.str [],
                                    AVal.int IntKind.i64 (↑(Int.toNat 0) : Int)] ∧
                                ([] : List (List AVal)) = [] ∧ ([] : Heap) = []) then
                        bif c5 || false then
                          bif c7 || false then
                            k
                              (Out.ret
                                (AVal.bool
                                  (catP
                                      (List.drop (Int.toNat 0)
                                        (decIt
                                          (AVal.list false (itemsOf l3).length fun (i : Nat) =>
                                            encItem
                                              ((itemsOf
                                                    ((a.append [123, 123, 45, 32, 46, 120, 32, 45, 125, 125]).append
                                                      b)).getD
                                                i (ItemD.mk 0 [] 0))))) ==
                                    l6.append (trimL b)))
                                [])
                          else none
                        else none
                      else none
                    else none
                  else none
            else none
          else none
      else none
    else none
  else none) := by kernel_rfl
def catK : List (Int × List UInt8) → List UInt8
  | [] => []
  | i :: t => (bif i.1 == 2 then [124] else i.2) ++ catK t
theorem catP_kt : ∀ l : List ItemD, catP l = catK (l.map kt)
  | [] => rfl
  | i :: t => by rw [catP, List.map_cons, catK, catP_kt t]
theorem catK_trim (u v : List UInt8) : catK (finP (finP [] u ++ [(2, [46, 120])]) v) = (u ++ [124]) ++ v := by
  unfold finP
  cases u with
  | nil =>
    cases v with
    | nil => rfl
    | cons c t => simp [catK]
  | cons d w =>
    cases v with
    | nil => simp [catK]
    | cons c t => simp [catK]
theorem finP_ok {u v : List UInt8} {n : Nat} (hu : u.length ≤ n) (hv : v.length ≤ n) (h2 : 2 ≤ n) : (finP (finP [] u ++ [(2, [46, 120])]) v).length ≤ 3 ∧ ∀ p ∈ finP (finP [] u ++ [(2, [46, 120])]) v, p.2.length ≤ n := by
  unfold finP
  cases u == [] <;> cases v == [] <;> simp [hu, hv, h2]
theorem trm_call (a b : List UInt8) (ha : a.length ≤ 1073741824) (hb : b.length ≤ 1073741824) (k : Out → Ans) : iFun Tryd.prog (layM.hd Tryd.prog) layM.fhs 0 4 [.str a, .str b] [] k = k (.ret (.bool true) []) := by
  have la : (a.append [123]).length = a.length + 1 := by simp
  have l2 : (a.append [123, 123, 45, 32, 46, 120, 32, 45, 125, 125]).length = a.length + 10 := by simp
  have l3 : ((a.append [123, 123, 45, 32, 46, 120, 32, 45, 125, 125]).append b).length = a.length + 10 + b.length := by simp; omega
  have l6 : ((trimR a).append [124]).length = (trimR a).length + 1 := by simp
  have t1 := trimR_len a
  have t2 := trimL_len b
  rw [trm_fun]
  dsimp only
  rw [la, l2, l3, l6, wrap_of (n := (a.length : Int) + b.length) (by omega) (by omega)]
  rw [dT (show a.length + 1 ≤ 4611686018427387904 by omega), dT (show a.length + 1 ≤ 1099511627776 by omega), dT (show b.length ≤ 1099511627776 by omega),
    dT (show a.length + 10 ≤ 4611686018427387904 by omega), dT (show a.length + 10 + b.length ≤ 4611686018427387904 by omega)]
  simp only [cond_true]
  cases h1 : opF (a.append [123]) with
  | true => rfl
  | false =>
    cases h2 : opF b with
    | true => rfl
    | false =>
      by_cases h3 : (a.length : Int) + b.length > 8192
      · rw [dT h3]; rfl
      · rw [dF h3, dF (show ¬ 16384 < a.length + 10 + b.length by omega)]
        simp only [cond_false]
        obtain ⟨k1, k2⟩ := items_trim a b h1 h2 (by omega) (s := (a.append [123, 123, 45, 32, 46, 120, 32, 45, 125, 125]).append b) (by simp)
        rw [k1, dT (show a.length ≤ 1099511627776 by omega)]
        simp only [cond_false, cond_true]
        have ed : decIt (.list false (itemsOf ((a.append [123, 123, 45, 32, 46, 120, 32, 45, 125, 125]).append b)).length fun i => encItem ((itemsOf ((a.append [123, 123, 45, 32, 46, 120, 32, 45, 125, 125]).append b)).getD i ⟨0, [], 0⟩)) = itemsOf ((a.append [123, 123, 45, 32, 46, 120, 32, 45, 125, 125]).append b) := decIt_enc false _
        rw [ed]
        obtain ⟨f1, f2⟩ := finP_ok (u := trimR a) (v := trimL b) (n := 8192) (by omega) (by omega) (by omega)
        rw [← k2] at f1 f2
        refine (congrArg (fun c => cond c _ none) (tst_true ⟨⟨Nat.zero_le _, by simp only [List.length_map] at f1; exact Nat.le_trans f1 (by decide), fun x hx => Nat.le_trans (f2 (kt x) (List.mem_map_of_mem hx)) (by decide), Nat.zero_le _⟩, .refl _, trivial, trivial⟩)).trans ?_
        simp only [cond_true]
        rw [dT (show (trimR a).length + 1 ≤ 4611686018427387904 by omega), dT (show (trimR a).length + 1 + (trimL b).length ≤ 4611686018427387904 by omega)]
        simp only [cond_true, Bool.true_or]
        rw [Int.toNat_zero, List.drop_zero, catP_kt, k2, catK_trim]
        have e : (trimR a ++ [124] ++ trimL b == ((trimR a).append [124]).append (trimL b)) = true := by simp
        rw [e]
theorem trm_ok (a b : List UInt8) (ha : a.length ≤ 1073741824) (hb : b.length ≤ 1073741824) : CallOK Tryd.prog 4 [.str a, .str b] [] (.ret (.bool true) []) := layM_ok.call (trm_call a b ha hb)
end Go.Mu
