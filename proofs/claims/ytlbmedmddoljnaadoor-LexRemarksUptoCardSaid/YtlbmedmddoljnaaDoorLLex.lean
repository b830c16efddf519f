/-
  lex: what within, trims and remark tell.
-/
import Derived.Test.YtlbmedmddoljnaaDoorLTrim
import Derived.Test.YtlbmedmddoljnaaDoorLIdx
set_option linter.unusedVariables false
set_option linter.unusedSimpArgs false
set_option maxRecDepth 100000
namespace Go.Mu
open Go Go.Proofs
/- small ones -/
def blkI (n : Int) : Bool := n == 32 || (decide (n ≥ 9) && decide (n ≤ 13) && n != 11)
theorem blkI_eq (c : UInt8) : blkI (c.toNat : Int) = blk c := by
  have h : ∀ n : Fin 256, blkI ((UInt8.ofNat n).toNat : Int) = blk (UInt8.ofNat n) := by decide +kernel
  have := h ⟨c.toNat, c.toNat_lt⟩
  simpa using this
theorem blank_fun (n : Int) (k : Out → Ans) : iFun Tryd.prog (Lay.nil.hd Tryd.prog) Lay.nil.fhs 0 45 [.int .u8 n] [] k = k (.ret (.bool (bif n == 32 then true else bif bif decide (n ≥ 9) then decide (n ≤ 13) else false then n != 11 else false)) []) := by kernel_rfl
theorem pre_fun (s t : List UInt8) (k : Out → Ans) : iFun Tryd.prog (Lay.nil.hd Tryd.prog) Lay.nil.fhs 0 79 [.str s, .str t] [] k =
  cond (decide ((t.length : Int) ≥ 0) && decide ((t.length : Int) ≤ s.length) || !decide ((s.length : Int) ≥ t.length)) (k (.ret (.bool (cond (decide ((s.length : Int) ≥ t.length)) ((s.take (t.length : Int).toNat).drop (0 : Int).toNat == t) false)) [])) none := by kernel_rfl
def blankTold : FSp := mkFS [.i .u8] (fun _ => true) (fun xs k => k (.ret (.bool (blkI (aI xs 0))) []))
theorem blankTold_ok : ∀ xs H k out, blankTold xs H k = some out → ∃ o, CallOK Tryd.prog 45 xs H o ∧ k o = some out := mkFS_ok fun ys xs e h => by
  obtain ⟨n, rfl⟩ : ∃ n, xs = [.int .u8 n] := ⟨_, e⟩
  refine ⟨_, fun k => rfl, Lay.nil_ok.callF (G := []) rfl (fun k => ?_)⟩
  rw [blank_fun]
  simp only [blkI, bif_or, bif_and]
  rfl
theorem pre2_fun (s t : List UInt8) (k : Out → Ans) : iFun Tryd.prog (Lay.nil.hd Tryd.prog) Lay.nil.fhs 0 117 [.str s, .str t] [] k =
  cond (decide ((t.length : Int) ≥ 0) && decide ((t.length : Int) ≤ s.length) || !decide ((s.length : Int) ≥ t.length)) (k (.ret (.bool (cond (decide ((s.length : Int) ≥ t.length)) ((s.take (t.length : Int).toNat).drop (0 : Int).toNat == t) false)) [])) none := by kernel_rfl
def preTold : FSp := mkFS [.s, .s] (fun _ => true) (fun xs k => k (.ret (.bool ((aS xs 1).isPrefixOf (aS xs 0))) []))
theorem pre_take (s t : List UInt8) : t.isPrefixOf s = (decide (t.length ≤ s.length) && (s.take t.length == t)) := by
  rw [Bool.eq_iff_iff]
  simp only [List.isPrefixOf_iff_prefix, Bool.and_eq_true, decide_eq_true_eq, beq_iff_eq]
  rw [List.prefix_iff_eq_take]
  constructor
  · intro h
    refine ⟨?_, h.symm⟩
    have := congrArg List.length h
    simp at this; omega
  · intro h; exact h.2.symm
theorem preTold_ok : ∀ xs H k out, preTold xs H k = some out → ∃ o, CallOK Tryd.prog 79 xs H o ∧ k o = some out := mkFS_ok fun ys xs e h => by
  obtain ⟨s, t, rfl⟩ : ∃ s t, xs = [.str s, .str t] := ⟨_, _, e⟩
  refine ⟨_, fun k => rfl, Lay.nil_ok.callF (G := []) rfl (fun k => ?_)⟩
  rw [pre_fun]
  show _ = k (.ret (.bool (t.isPrefixOf s)) [])
  rw [pre_take]
  simp (disch := omega) only [g2, cond_true, Int.toNat_natCast, Int.toNat_zero, List.drop_zero, bif_and]
  have : decide ((s.length : Int) ≥ t.length) = decide (t.length ≤ s.length) := by
    rw [Bool.eq_iff_iff]; simp
  rw [this]
theorem pre2Told_ok : ∀ xs H k out, preTold xs H k = some out → ∃ o, CallOK Tryd.prog 117 xs H o ∧ k o = some out := mkFS_ok fun ys xs e h => by
  obtain ⟨s, t, rfl⟩ : ∃ s t, xs = [.str s, .str t] := ⟨_, _, e⟩
  refine ⟨_, fun k => rfl, Lay.nil_ok.callF (G := []) rfl (fun k => ?_)⟩
  rw [pre2_fun]
  show _ = k (.ret (.bool (t.isPrefixOf s)) [])
  rw [pre_take]
  simp (disch := omega) only [g2, cond_true, Int.toNat_natCast, Int.toNat_zero, List.drop_zero, bif_and]
  have : decide ((s.length : Int) ≥ t.length) = decide (t.length ≤ s.length) := by
    rw [Bool.eq_iff_iff]; simp
  rw [this]
noncomputable def layX1 : Lay := ((((((Lay.nil.addF 49 idxTold).addF 50 trimLTold).addF 93 trimRTold).addF 94 trimTold).addF 45 blankTold).addF 79 preTold).addF 117 preTold
theorem layX1_ok : layX1.OK Tryd.prog := ((((((Lay.nil_ok.addF idxTold_ok).addF trimLTold_ok).addF trimRTold_ok).addF trimTold_ok).addF blankTold_ok).addF preTold_ok).addF pre2Told_ok
/-- where }} stands -/
def win : List UInt8 → Bool → Bool → Nat → Int
  | [], _, _, _ => -1
  | c :: t, q, e, i => bif e then win t q false (i + 1) else bif q && c == 92 then win t q true (i + 1) else bif c == 34 then win t (!q) false (i + 1) else bif !q && [125, 125].isPrefixOf (c :: t) then i else win t q false (i + 1)
def winSp : LSp := mkLS [.s, .b, .i .i64] (fun vs => decide (0 ≤ aI vs 2 ∧ aI vs 2 ≤ 1099511627776 ∧ (aS vs 0).length ≤ 1099511627776))
  (fun vs k => cond (decide (win ((aS vs 0).drop (aI vs 2).toNat) (aB vs 1) false (aI vs 2).toNat ≥ 0)) (k .ret [.int .i64 (win ((aS vs 0).drop (aI vs 2).toNat) (aB vs 1) false (aI vs 2).toNat)]) (k (.exit 0) [.undef]))
def winFH : FH := .of [(3, loopSpec 41 [0,5,6] [] [4] [] winSp)]
theorem within_step (s : List UInt8) (q : Bool) (i : Int) (H : Heap) (D : List (FuncId × List AVal)) (k : Kont) : lturn Tryd.prog layX1 winFH 54 3 [0,5,6] [] [4] [] (stL 41 [0,5,6] [.str s, .bool q, .int .i64 i] [] [] H D) k = (
  let n0 : Int := (↑s.length : Int);
  let c1 : Bool := decide (i < n0);
  let c2 : Bool := decide (0 ≤ i);
  let c3 : Bool := c2 && c1;
  let n4 : Int := (↑(s.getD i.toNat 0).toNat : Int);
  let n5 : Int := IntKind.i64.wrap (i + 1);
  bif c1 then
    bif c3 || !q then
      bif bif q then n4 == 92 else false then
        k AExit.normal
          (stL 41 [0, 5, 6] [AVal.str s, AVal.bool q, AVal.int IntKind.i64 (IntKind.i64.wrap (n5 + 1))] [] [] H D)
      else
        bif c3 then
          bif n4 == 34 then
            k AExit.normal (stL 41 [0, 5, 6] [AVal.str s, AVal.bool !q, AVal.int IntKind.i64 n5] [] [] H D)
          else
            bif c2 && decide (i ≤ n0) && decide (n0 ≤ n0) || !!q then
              bif bif !q then [125, 125].isPrefixOf (List.drop i.toNat (List.take n0.toNat s)) else false then
                k AExit.ret (stL 41 [4] [AVal.int IntKind.i64 i] [] [] H D)
              else k AExit.normal (stL 41 [0, 5, 6] [AVal.str s, AVal.bool q, AVal.int IntKind.i64 n5] [] [] H D)
            else none
        else none
    else none
  else k (AExit.exit 0) (stL 41 [4] [AVal.undef] [] [] H D)) := by kernel_rfl
theorem win_runs (s : List UInt8) (hs : s.length ≤ 1099511627776) : ∀ (m : Nat) (q : Bool) (i : Nat) (H : Heap), s.length + 1 - i ≤ m → i ≤ s.length + 1 →
    (win (s.drop i) q false i ≥ 0 → LoopRuns (lturn Tryd.prog layX1 winFH 54 3 [0,5,6] [] [4] []) 41 [0,5,6] [] [4] [] [.str s, .bool q, .int .i64 i] [] H .ret [.int .i64 (win (s.drop i) q false i)] [] H) ∧
    (¬ win (s.drop i) q false i ≥ 0 → LoopRuns (lturn Tryd.prog layX1 winFH 54 3 [0,5,6] [] [4] []) 41 [0,5,6] [] [4] [] [.str s, .bool q, .int .i64 i] [] H (.exit 0) [.undef] [] H) := by
  intro m
  induction m with
  | zero => 
    intro q i H h1 h2
    have e : s.drop i = [] := List.drop_eq_nil_of_le (by omega)
    rw [e]
    refine ⟨fun h => by simp [win] at h, fun _ => .stop (by simp) (fun D k => ?_)⟩
    rw [within_step]
    simp (disch := omega) only [dF, cond_false]
  | succ m ih =>
    intro q i H h1 h2
    by_cases hi : i < s.length
    case neg =>
      have e : s.drop i = [] := List.drop_eq_nil_of_le (by omega)
      rw [e]
      refine ⟨fun h => by simp [win] at h, fun _ => .stop (by simp) (fun D k => ?_)⟩
      rw [within_step]
      simp (disch := omega) only [dF, cond_false]
    have key := fun D k => within_step s q i H D k
    simp (disch := first | omega | decide) only [dT, cond_true, Bool.true_or, Bool.and_true, Bool.and_self, eqc, Int.toNat_natCast, List.take_length, wrap_of, bif_and] at key
    have ed := drop_cons_of s i 0 hi
    generalize s.getD i 0 = c at key ed
    have e1 : (i : Int) + 1 = ((i + 1 : Nat) : Int) := by omega
    have e2 : (i : Int) + 1 + 1 = ((i + 2 : Nat) : Int) := by omega
    cases h92 : q && c == 92 with
    | true =>
      have ew : win (s.drop i) q false i = win (s.drop (i + 2)) q false (i + 2) := by
        rw [ed, win]
        simp only [cond_false, h92, cond_true]
        by_cases h3 : i + 1 < s.length
        · rw [drop_cons_of s (i + 1) 0 h3, win]; rfl
        · rw [List.drop_eq_nil_of_le (by omega), List.drop_eq_nil_of_le (by omega)]; rfl
      have hk := fun D k => (key D k)
      simp only [h92, cond_true, e2] at hk
      rw [ew]
      by_cases h4 : i + 2 ≤ s.length + 1
      · exact ⟨fun h => .step hk ((ih q (i + 2) H (by omega) h4).1 h), fun h => .step hk ((ih q (i + 2) H (by omega) h4).2 h)⟩
      · omega
    | false =>
      simp only [h92, cond_false] at key
      cases h34 : c == 34 with
      | true =>
        have ew : win (s.drop i) q false i = win (s.drop (i + 1)) (!q) false (i + 1) := by
          rw [ed, win]; simp only [cond_false, h92, h34, cond_true]
        simp only [h34, cond_true, e1] at key
        rw [ew]
        exact ⟨fun h => .step key ((ih (!q) (i + 1) H (by omega) (by omega)).1 h), fun h => .step key ((ih (!q) (i + 1) H (by omega) (by omega)).2 h)⟩
      | false =>
        simp only [h34, cond_false] at key
        cases hp : !q && [125, 125].isPrefixOf (s.drop i) with
        | true =>
          have ew : win (s.drop i) q false i = i := by
            rw [ed] at hp ⊢
            rw [win]; simp only [cond_false, h92, h34, hp, cond_true]
          simp only [hp, cond_true] at key
          rw [ew]
          exact ⟨fun h => .stop (by simp) key, fun h => absurd (by omega) h⟩
        | false =>
          have ew : win (s.drop i) q false i = win (s.drop (i + 1)) q false (i + 1) := by
            rw [ed] at hp ⊢
            rw [win]; simp only [cond_false, h92, h34, hp]
          simp only [hp, cond_false, e1] at key
          rw [ew]
          exact ⟨fun h => .step key ((ih q (i + 1) H (by omega) (by omega)).1 h), fun h => .step key ((ih q (i + 1) H (by omega) (by omega)).2 h)⟩
theorem trims_fun (s : List UInt8) (k : Out → Ans) : iFun Tryd.prog (layX1.hd Tryd.prog) layX1.fhs 0 56 [.str s] [] k = (
  let n0 : Int := (↑s.length : Int);
  let c1 : Bool := decide (n0 > 1);
  let c2 : Bool := !c1;
  let c3 : Bool := bif c1 then (↑(s.getD 0 0).toNat : Int) == 45 else false;
  let c4 : Bool := bif c3 then blkI (↑(s.getD 1 0).toNat : Int) else false;
  let l5 : List UInt8 := List.drop (Int.toNat 1) (List.take n0.toNat s);
  let n6 : Int := (↑l5.length : Int);
  let n7 : Int := IntKind.i64.wrap (n6 - 1);
  let c8 : Bool := decide (0 ≤ n7);
  let c9 : Bool := decide (n6 > 1);
  let n10 : Int := IntKind.i64.wrap (n6 - 2);
  let m11 : Nat := n7.toNat;
  let c12 : Bool := bif c9 then (↑(l5.getD m11 0).toNat : Int) == 45 else false;
  let c13 : Bool := bif c12 then blkI (↑(l5.getD n10.toNat 0).toNat : Int) else false;
  let n14 : Int := IntKind.i64.wrap (n0 - 1);
  let c15 : Bool := decide (0 ≤ n14);
  let n16 : Int := IntKind.i64.wrap (n0 - 2);
  let m17 : Nat := n14.toNat;
  let c18 : Bool := bif c1 then (↑(s.getD m17 0).toNat : Int) == 45 else false;
  let c19 : Bool := bif c18 then blkI (↑(s.getD n16.toNat 0).toNat : Int) else false;
  bif decide (0 < n0) || c2 then
    bif decide (1 < n0) || !c3 then
      bif c4 then
        bif decide (1 ≤ n0) && decide (n0 ≤ n0) then
          bif c8 && decide (n7 < n6) || !c9 then
            bif decide (0 ≤ n10) && decide (n10 < n6) || !c12 then
              bif c13 then
                bif c8 && decide (n7 ≤ n6) then
                  k
                    (Out.ret
                      (AVal.tuple [AVal.str (List.drop (Int.toNat 0) (List.take m11 l5)), AVal.bool c4, AVal.bool c13])
                      [])
                else none
              else k (Out.ret (AVal.tuple [AVal.str l5, AVal.bool c4, AVal.bool c13]) [])
            else none
          else none
        else none
      else
        bif c15 && decide (n14 < n0) || c2 then
          bif decide (0 ≤ n16) && decide (n16 < n0) || !c18 then
            bif c19 then
              bif c15 && decide (n14 ≤ n0) then
                k
                  (Out.ret
                    (AVal.tuple [AVal.str (List.drop (Int.toNat 0) (List.take m17 s)), AVal.bool c4, AVal.bool c19]) [])
              else none
            else k (Out.ret (AVal.tuple [AVal.str s, AVal.bool c4, AVal.bool c19]) [])
          else none
        else none
    else none
  else none) := by kernel_rfl
theorem remark_fun (s : List UInt8) (at_ : Int) (k : Out → Ans) : iFun Tryd.prog (layX1.hd Tryd.prog) layX1.fhs 0 53 [.str s, .int .i64 at_] [] k = (
  let n0 : Int := IntKind.i64.wrap (at_ + 2);
  let n1 : Int := (↑s.length : Int);
  let c2 : Bool := decide (n1 ≤ n1);
  let l3 : List UInt8 := List.take n1.toNat s;
  let l4 : List UInt8 := List.drop n0.toNat l3;
  let m5 : Nat := l4.length;
  let l6 : List UInt8 := trimL l4;
  let n7 : Int := IntKind.i64.wrap (IntKind.i64.wrap (n1 - (↑l6.length : Int)) + 2);
  let l8 : List UInt8 := List.drop n7.toNat l3;
  let n9 : Int := Lib.index l8 [42, 47];
  let n10 : Int := (↑m5 : Int);
  let l11 : List UInt8 := List.drop (Int.toNat 1) (List.take n10.toNat l4);
  let l12 : List UInt8 := trimL l11;
  let n13 : Int := IntKind.i64.wrap (IntKind.i64.wrap (n1 - (↑l12.length : Int)) + 2);
  let l14 : List UInt8 := List.drop n13.toNat l3;
  let n15 : Int := Lib.index l14 [42, 47];
  bif decide (0 ≤ n0) && decide (n0 ≤ n1) && c2 then
    bif ![45].isPrefixOf l4 then
      bif decide (m5 ≤ 1099511627776) then
        bif ![47, 42].isPrefixOf l6 then k (Out.ret (AVal.int IntKind.i64 (-1)) [])
        else
          bif decide (0 ≤ n7) && decide (n7 ≤ n1) && c2 then
            bif decide (l8.length < 4294967281) then
              bif !decide (n9 ≥ 0) then
                k (Out.panic (AVal.iface 56 (AVal.agg [AVal.int IntKind.i64 at_, AVal.int IntKind.i64 8])) [])
              else k (Out.ret (AVal.int IntKind.i64 (IntKind.i64.wrap (IntKind.i64.wrap (n7 + n9) + 2))) [])
            else none
          else none
      else none
    else
      bif decide (1 ≤ n10) && decide (n10 ≤ n10) then
        bif decide (l11.length ≤ 1099511627776) then
          bif ![47, 42].isPrefixOf l12 then k (Out.ret (AVal.int IntKind.i64 (-1)) [])
          else
            bif decide (0 ≤ n13) && decide (n13 ≤ n1) && c2 then
              bif decide (l14.length < 4294967281) then
                bif !decide (n15 ≥ 0) then
                  k (Out.panic (AVal.iface 56 (AVal.agg [AVal.int IntKind.i64 at_, AVal.int IntKind.i64 8])) [])
                else k (Out.ret (AVal.int IntKind.i64 (IntKind.i64.wrap (IntKind.i64.wrap (n13 + n15) + 2))) [])
              else none
            else none
        else none
      else none
  else none) := by kernel_rfl
theorem winSp_ok : SpOK (lturn Tryd.prog layX1 winFH 54 3 [0,5,6] [] [4] []) 41 [0,5,6] [] [4] [] winSp := mkLS_ok fun ys vs H e h => by
  obtain ⟨s, q, n, rfl⟩ : ∃ s q n, vs = [.str s, .bool q, .int .i64 n] := ⟨_, _, _, e⟩
  replace h : 0 ≤ n ∧ n ≤ 1099511627776 ∧ s.length ≤ 1099511627776 := of_decide_eq_true h
  obtain ⟨h0, h1, h2⟩ := h
  obtain ⟨i, rfl⟩ : ∃ i : Nat, n = i := ⟨n.toNat, by omega⟩
  by_cases hi : i ≤ s.length + 1
  · have key := win_runs s h2 _ q i H (Nat.le_refl _) hi
    by_cases hw : win (s.drop i) q false i ≥ 0
    · exact ⟨.ret, [.int .i64 (win (s.drop i) q false i)], fun k => by show cond (decide (win (s.drop i) q false i ≥ 0)) _ _ = _; rw [dT hw]; rfl, key.1 hw⟩
    · exact ⟨.exit 0, [.undef], fun k => by show cond (decide (win (s.drop i) q false i ≥ 0)) _ _ = _; rw [dF hw]; rfl, key.2 hw⟩
  · have e2 : s.drop i = [] := List.drop_eq_nil_of_le (by omega)
    refine ⟨.exit 0, [.undef], fun k => by show cond (decide (win (s.drop i) q false i ≥ 0)) _ _ = _; rw [e2]; rfl, .stop (by simp) (fun D k => ?_)⟩
    rw [within_step]
    simp (disch := omega) only [dF, cond_false]
noncomputable def layX2 : Lay := layX1.addL 54 winFH
theorem layX2_ok : layX2.OK Tryd.prog := layX1_ok.loop1 (id := 3) (by kernel_rfl) (by kernel_rfl) (by kernel_rfl) winSp_ok
theorem within_fun (s : List UInt8) (i : Int) (k : Out → Ans) : iFun Tryd.prog (layX2.hd Tryd.prog) layX2.fhs 0 54 [.str s, .int .i64 i] [] k = (
  let n0 : Int := win (List.drop i.toNat s) false false i.toNat;
  bif decide (0 ≤ i ∧ i ≤ 1099511627776 ∧ s.length ≤ 1099511627776) then
    bif decide (n0 ≥ 0) then k (Out.ret (AVal.int IntKind.i64 n0) []) else k (Out.ret (AVal.int IntKind.i64 (-1)) [])
  else none) := by kernel_rfl
/- trims -/
def trimsA (s : List UInt8) : Bool := decide (1 < s.length) && s.getD 0 0 == 45 && blk (s.getD 1 0)
def trimsZ (s : List UInt8) : Bool := decide (1 < s.length) && s.getD (s.length - 1) 0 == 45 && blk (s.getD (s.length - 2) 0)
def trimsT (s : List UInt8) : List UInt8 := bif trimsA s then s.drop 1 else s
def trimsU (t : List UInt8) : List UInt8 := bif trimsZ t then t.take (t.length - 1) else t
theorem hZ (u : List UInt8) : (decide ((u.length : Int) > 1) && u.getD ((u.length : Int) - 1).toNat 0 == 45 && blk (u.getD ((u.length : Int) - 2).toNat 0)) = trimsZ u := by
  unfold trimsZ
  rw [show ((u.length : Int) - 1).toNat = u.length - 1 by omega, show ((u.length : Int) - 2).toNat = u.length - 2 by omega, show decide ((u.length : Int) > 1) = decide (1 < u.length) from decide_eq_decide.2 (by omega)]
theorem hA (u : List UInt8) : (decide ((u.length : Int) > 1) && u.getD 0 0 == 45 && blk (u.getD 1 0)) = trimsA u := by
  unfold trimsA
  rw [show decide ((u.length : Int) > 1) = decide (1 < u.length) from decide_eq_decide.2 (by omega)]
theorem trims_call (s : List UInt8) (hs : s.length ≤ 1099511627776) (k : Out → Ans) : iFun Tryd.prog (layX1.hd Tryd.prog) layX1.fhs 0 56 [.str s] [] k = k (.ret (.tuple [.str (trimsU (trimsT s)), .bool (trimsA s), .bool (trimsZ (trimsT s))]) []) := by
  rw [trims_fun]
  have hu : (s.drop 1).length ≤ s.length := by simp
  have ha : trimsA s = true → 1 < s.length := fun h => by
    unfold trimsA at h
    simp only [Bool.and_eq_true, decide_eq_true_eq] at h
    exact h.1.1
  have hz : ∀ u, trimsZ u = true → 1 < u.length := fun u h => by
    unfold trimsZ at h
    simp only [Bool.and_eq_true, decide_eq_true_eq] at h
    exact h.1.1
  simp only [Int.toNat_natCast, List.take_length, Int.toNat_one, Int.toNat_zero, List.drop_zero]
  unfold trimsU trimsT
  generalize s.drop 1 = u at hu ⊢
  simp (disch := first | omega | decide) only [g1, g2, g3, g4, cond_true, eqc, wrap_of, bif_and, blkI_eq, hA, hZ]
  cases h1 : trimsA s with
  | true =>
    have := ha h1
    cases h2 : trimsZ u with
    | true =>
      have := hz u h2
      simp (disch := omega) only [dT, cond_true, Bool.and_true, h2, toNat_sub1]
    | false => simp (disch := omega) only [dT, cond_true, Bool.and_true, h2, cond_false]
  | false =>
    cases h2 : trimsZ s with
    | true =>
      have := hz s h2
      simp (disch := omega) only [dT, cond_true, cond_false, Bool.and_true, h2, toNat_sub1]
    | false => simp (disch := omega) only [dT, cond_true, cond_false, Bool.and_true, h2]
theorem win_ge : ∀ (t : List UInt8) (q e : Bool) (i : Nat), win t q e i = -1 ∨ (i : Int) ≤ win t q e i ∧ win t q e i < i + t.length
  | [], _, _, _ => .inl rfl
  | c :: t, q, e, i => by
    have ih := fun q e => win_ge t q e (i + 1)
    rw [win]
    simp only [List.length_cons]
    cases e with
    | true => simp only [cond_true]; have := ih q false; omega
    | false =>
      simp only [cond_false]
      cases q && c == 92 with
      | true => simp only [cond_true]; have := ih q true; omega
      | false =>
        simp only [cond_false]
        cases c == 34 with
        | true => simp only [cond_true]; have := ih (!q) false; omega
        | false =>
          simp only [cond_false]
          cases !q && [125, 125].isPrefixOf (c :: t) with
          | true => simp only [cond_true]; omega
          | false => simp only [cond_false]; have := ih q false; omega
theorem within_call (s : List UInt8) (i : Nat) (hs : s.length ≤ 1099511627776) (hi : i ≤ 1099511627776) (k : Out → Ans) : iFun Tryd.prog (layX2.hd Tryd.prog) layX2.fhs 0 54 [.str s, .int .i64 i] [] k = k (.ret (.int .i64 (win (s.drop i) false false i)) []) := by
  rw [within_fun]
  simp only [Int.toNat_natCast]
  rw [dT (show 0 ≤ (i : Int) ∧ (i : Int) ≤ 1099511627776 ∧ s.length ≤ 1099511627776 by omega)]
  have h := win_ge (s.drop i) false false i
  by_cases hr : win (s.drop i) false false i ≥ 0
  · rw [dT hr]; rfl
  · rw [dF hr, show win (s.drop i) false false i = -1 by omega]; rfl
/- remark -/
def rmT (s : List UInt8) (at_ : Nat) : List UInt8 := trimL (bif [45].isPrefixOf (s.drop (at_ + 2)) then (s.drop (at_ + 2)).drop 1 else s.drop (at_ + 2))
def rmF (s : List UInt8) (at_ : Nat) : Nat := s.length - (rmT s at_).length + 2
def rmN (s : List UInt8) (at_ : Nat) : Int := Lib.index (s.drop (rmF s at_)) [42, 47]
def rmIs (s : List UInt8) (at_ : Nat) : Bool := [47, 42].isPrefixOf (rmT s at_)
theorem rmT_len (s : List UInt8) (at_ : Nat) : (rmT s at_).length ≤ s.length - (at_ + 2) := by
  unfold rmT
  refine Nat.le_trans (trimL_len _) ?_
  cases [45].isPrefixOf (s.drop (at_ + 2)) <;> simp <;> omega
theorem pre_len {p s : List UInt8} (h : p.isPrefixOf s = true) : p.length ≤ s.length := (List.isPrefixOf_iff_prefix.1 h).length_le
theorem index_le (s p : List UInt8) : Lib.index s p ≤ s.length := by
  induction s with
  | nil => unfold Lib.index; split <;> simp
  | cons c t ih =>
    unfold Lib.index
    split
    · simp; omega
    · split
      · simp; omega
      · simp; omega
theorem remark_call (s : List UInt8) (at_ : Nat) (h1 : at_ + 2 ≤ s.length) (hs : s.length ≤ 1073741824) (k : Out → Ans) : iFun Tryd.prog (layX1.hd Tryd.prog) layX1.fhs 0 53 [.str s, .int .i64 at_] [] k =
    cond (rmIs s at_) (cond (decide (rmN s at_ ≥ 0)) (k (.ret (.int .i64 ((rmF s at_ : Int) + rmN s at_ + 2)) [])) (k (.panic (.iface 56 (.agg [.int .i64 at_, .int .i64 8])) []))) (k (.ret (.int .i64 (-1)) [])) := by
  rw [remark_fun]
  have hl := rmT_len s at_
  have e2 : ((at_ : Int) + 2).toNat = at_ + 2 := by omega
  have hd : (s.drop (at_ + 2)).length = s.length - (at_ + 2) := by simp
  simp (disch := omega) only [Int.toNat_natCast, List.take_length, Int.toNat_one, Int.toNat_zero, List.drop_zero, wrap_of, e2, dT, cond_true, Bool.and_true]
  unfold rmIs rmN
  have tail : ∀ u : List UInt8, rmT s at_ = u →
      (bif !([47, 42].isPrefixOf u) then k (.ret (.int .i64 (-1)) []) else bif decide (0 ≤ IntKind.i64.wrap (IntKind.i64.wrap ((s.length : Int) - u.length) + 2)) && decide (IntKind.i64.wrap (IntKind.i64.wrap ((s.length : Int) - u.length) + 2) ≤ (s.length : Int)) then
        bif decide ((s.drop (IntKind.i64.wrap (IntKind.i64.wrap ((s.length : Int) - u.length) + 2)).toNat).length < 4294967281) then bif !decide (Lib.index (s.drop (IntKind.i64.wrap (IntKind.i64.wrap ((s.length : Int) - u.length) + 2)).toNat) [42, 47] ≥ 0) then k (.panic (.iface 56 (.agg [.int .i64 at_, .int .i64 8])) [])
          else k (.ret (.int .i64 (IntKind.i64.wrap (IntKind.i64.wrap (IntKind.i64.wrap (IntKind.i64.wrap ((s.length : Int) - u.length) + 2) + Lib.index (s.drop (IntKind.i64.wrap (IntKind.i64.wrap ((s.length : Int) - u.length) + 2)).toNat) [42, 47]) + 2))) []) else none else none) =
      cond ([47, 42].isPrefixOf (rmT s at_)) (cond (decide (Lib.index (s.drop (rmF s at_)) [42, 47] ≥ 0)) (k (.ret (.int .i64 ((rmF s at_ : Int) + Lib.index (s.drop (rmF s at_)) [42, 47] + 2)) [])) (k (.panic (.iface 56 (.agg [.int .i64 at_, .int .i64 8])) []))) (k (.ret (.int .i64 (-1)) [])) := by
    intro u hu
    have eF : rmF s at_ = s.length - u.length + 2 := by unfold rmF; rw [hu]
    rw [hu, eF]
    rw [hu] at hl
    cases hq : [47, 42].isPrefixOf u with
    | false => rfl
    | true =>
      have h6 := pre_len hq
      simp only [List.length_cons, List.length_nil] at h6
      have e7 : IntKind.i64.wrap (IntKind.i64.wrap ((s.length : Int) - u.length) + 2) = ((s.length - u.length + 2 : Nat) : Int) := by
        rw [wrap_of (n := (s.length : Int) - u.length) (by omega) (by omega), wrap_of (by omega) (by omega)]; omega
      rw [e7]
      have h8 := index_le (s.drop (s.length - u.length + 2)) [42, 47]
      have h9 : (s.drop (s.length - u.length + 2)).length ≤ s.length := by simp
      rw [Int.toNat_natCast]
      have h10 := Lib.index_ge (s.drop (s.length - u.length + 2)) [42, 47]
      generalize Lib.index (s.drop (s.length - u.length + 2)) [42, 47] = r at *
      simp (disch := omega) only [dT, wrap_of, Bool.and_true, cond_true, Bool.not_true, cond_false]
      cases decide (r ≥ 0) <;> rfl
  cases hp : [45].isPrefixOf (s.drop (at_ + 2)) with
  | true =>
    have h4 := pre_len hp
    simp only [List.length_cons, List.length_nil] at h4
    have hd2 : ((s.drop (at_ + 2)).drop 1).length = s.length - (at_ + 2) - 1 := by simp; omega
    rw [← tail (trimL ((s.drop (at_ + 2)).drop 1)) (by unfold rmT; rw [hp]; rfl)]
    simp (disch := omega) only [Bool.not_true, cond_false, dT, cond_true, Bool.and_true]
  | false =>
    rw [← tail (trimL (s.drop (at_ + 2))) (by unfold rmT; rw [hp]; rfl)]
    simp (disch := omega) only [Bool.not_false, cond_true, dT, Bool.and_true]
def withinTold : FSp := mkFS [.s, .i .i64] (fun xs => decide (0 ≤ aI xs 1 ∧ aI xs 1 ≤ 1099511627776 ∧ (aS xs 0).length ≤ 1099511627776)) (fun xs k => k (.ret (.int .i64 (win ((aS xs 0).drop (aI xs 1).toNat) false false (aI xs 1).toNat)) []))
theorem withinTold_ok : ∀ xs H k out, withinTold xs H k = some out → ∃ o, CallOK Tryd.prog 54 xs H o ∧ k o = some out := mkFS_ok fun ys xs e h => by
  obtain ⟨s, n, rfl⟩ : ∃ s n, xs = [.str s, .int .i64 n] := ⟨_, _, e⟩
  replace h : 0 ≤ n ∧ n ≤ 1099511627776 ∧ s.length ≤ 1099511627776 := of_decide_eq_true h
  obtain ⟨i, rfl⟩ : ∃ i : Nat, n = i := ⟨n.toNat, by omega⟩
  exact ⟨_, fun k => rfl, layX2_ok.callF (G := []) rfl (fun k => within_call s i h.2.2 (by omega) k)⟩
def trimsTold : FSp := mkFS [.s] (fun xs => decide ((aS xs 0).length ≤ 1099511627776)) (fun xs k => k (.ret (.tuple [.str (trimsU (trimsT (aS xs 0))), .bool (trimsA (aS xs 0)), .bool (trimsZ (trimsT (aS xs 0)))]) []))
theorem trimsTold_ok : ∀ xs H k out, trimsTold xs H k = some out → ∃ o, CallOK Tryd.prog 56 xs H o ∧ k o = some out := mkFS_ok fun ys xs e h => by
  obtain ⟨s, rfl⟩ : ∃ s, xs = [.str s] := ⟨_, e⟩
  exact ⟨_, fun k => rfl, layX1_ok.callF (G := []) rfl (fun k => trims_call s (of_decide_eq_true h) k)⟩
def remarkTold : FSp := mkFS [.s, .i .i64] (fun xs => decide (0 ≤ aI xs 1 ∧ aI xs 1 + 2 ≤ (aS xs 0).length ∧ (aS xs 0).length ≤ 1073741824))
  (fun xs k => cond (rmIs (aS xs 0) (aI xs 1).toNat) (cond (decide (rmN (aS xs 0) (aI xs 1).toNat ≥ 0)) (k (.ret (.int .i64 ((rmF (aS xs 0) (aI xs 1).toNat : Int) + rmN (aS xs 0) (aI xs 1).toNat + 2)) [])) (k (.panic (.iface 56 (.agg [.int .i64 (aI xs 1), .int .i64 8])) []))) (k (.ret (.int .i64 (-1)) [])))
theorem remarkTold_ok : ∀ xs H k out, remarkTold xs H k = some out → ∃ o, CallOK Tryd.prog 53 xs H o ∧ k o = some out := mkFS_ok fun ys xs e h => by
  obtain ⟨s, n, rfl⟩ : ∃ s n, xs = [.str s, .int .i64 n] := ⟨_, _, e⟩
  replace h : 0 ≤ n ∧ n + 2 ≤ s.length ∧ s.length ≤ 1073741824 := of_decide_eq_true h
  obtain ⟨i, rfl⟩ : ∃ i : Nat, n = i := ⟨n.toNat, by omega⟩
  have key := fun k => remark_call s i (by omega) h.2.2 k
  show ∃ o, (∀ k : Out → Ans, cond (rmIs s i) (cond (decide (rmN s i ≥ 0)) (k (.ret (.int .i64 ((rmF s i : Int) + rmN s i + 2)) [])) (k (.panic (.iface 56 (.agg [.int .i64 i, .int .i64 8])) []))) (k (.ret (.int .i64 (-1)) [])) = k o) ∧ _
  cases h1 : rmIs s i with
  | false =>
    simp only [h1] at key
    exact ⟨_, fun k => rfl, layX1_ok.callF (G := []) rfl key⟩
  | true =>
    simp only [h1, cond_true] at key
    cases h2 : decide (rmN s i ≥ 0) with
    | false =>
      simp only [h2] at key
      exact ⟨_, fun k => rfl, layX1_ok.call key⟩
    | true =>
      simp only [h2] at key
      exact ⟨_, fun k => rfl, layX1_ok.callF (G := []) rfl key⟩
/-- lex's scalars -/
noncomputable def layX3 : Lay := ((layX1.addF 54 withinTold).addF 56 trimsTold).addF 53 remarkTold
theorem layX3_ok : layX3.OK Tryd.prog := ((layX1_ok.addF withinTold_ok).addF trimsTold_ok).addF remarkTold_ok
end Go.Mu
