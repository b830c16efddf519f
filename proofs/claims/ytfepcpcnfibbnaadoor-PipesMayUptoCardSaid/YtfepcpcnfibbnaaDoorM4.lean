/-
  Lemmas on the given program (part 4).
-/
import Derived.Test.YtfepcpcnfibbnaaDoorM3
import Derived.Test.YtfepcpcnfibbnaaDoorProg
import Derived.KernelRfl
import Derived.WalkKit
import Derived.ProofKit
import Derived.Lib.UnsafeStr
import Derived.Shelf.RegionOpenPlain
set_option linter.unusedVariables false
set_option linter.unusedSimpArgs false
set_option maxRecDepth 100000
namespace Go.Mu
open Go Go.Proofs
/- small ones -/
def blkI (n : Int) : Bool := n == 32 || (decide (n ≥ 9) && decide (n ≤ 13) && n != 11)
theorem blkI_eq (c : UInt8) : blkI (c.toNat : Int) = blk c := by
  have h : ∀ n : Fin 256, blkI ((UInt8.ofNat n).toNat : Int) = blk (UInt8.ofNat n) := by decide +kernel
  have := h ⟨c.toNat, c.toNat_lt⟩
  simpa using this
theorem blank_fun (n : Int) (k : Out → Ans) : iFun Tryd.prog (Lay.nil.hd Tryd.prog) Lay.nil.fhs 0 42 [.int .u8 n] [] k = k (.ret (.bool (bif n == 32 then true else bif bif decide (n ≥ 9) then decide (n ≤ 13) else false then n != 11 else false)) []) := by kernel_rfl
theorem pre_fun (s t : List UInt8) (k : Out → Ans) : iFun Tryd.prog (Lay.nil.hd Tryd.prog) Lay.nil.fhs 0 88 [.str s, .str t] [] k =
  cond (decide ((t.length : Int) ≥ 0) && decide ((t.length : Int) ≤ s.length) || !decide ((s.length : Int) ≥ t.length)) (k (.ret (.bool (cond (decide ((s.length : Int) ≥ t.length)) ((s.take (t.length : Int).toNat).drop (0 : Int).toNat == t) false)) [])) none := by kernel_rfl
def blankTold : FSp := mkFS [.i .u8] (fun _ => true) (fun xs k => k (.ret (.bool (blkI (aI xs 0))) []))
theorem blankTold_ok : ∀ xs H k out, blankTold xs H k = some out → ∃ o, CallOK Tryd.prog 42 xs H o ∧ k o = some out := mkFS_ok fun ys xs e h => by
  obtain ⟨n, rfl⟩ : ∃ n, xs = [.int .u8 n] := ⟨_, e⟩
  refine ⟨_, fun k => rfl, Lay.nil_ok.callF (G := []) rfl (fun k => ?_)⟩
  rw [blank_fun]
  simp only [blkI, bif_or, bif_and]
  rfl
theorem pre2_fun (s t : List UInt8) (k : Out → Ans) : iFun Tryd.prog (Lay.nil.hd Tryd.prog) Lay.nil.fhs 0 146 [.str s, .str t] [] k =
  cond (decide ((t.length : Int) ≥ 0) && decide ((t.length : Int) ≤ s.length) || !decide ((s.length : Int) ≥ t.length)) (k (.ret (.bool (cond (decide ((s.length : Int) ≥ t.length)) ((s.take (t.length : Int).toNat).drop (0 : Int).toNat == t) false)) [])) none := by kernel_rfl
def preTold : FSp := mkFS [.s, .s] (fun _ => true) (fun xs k => k (.ret (.bool ((aS xs 1).isPrefixOf (aS xs 0))) []))
theorem pre_take (s t : List UInt8) : t.isPrefixOf s = (decide (t.length ≤ s.length) && (s.take t.length == t)) := by
  rw [Bool.eq_iff_iff]
  simp only [List.isPrefixOf_iff_prefix, Bool.and_eq_true, decide_eq_true_eq, beq_iff_eq]
  rw [List.prefix_iff_eq_take]
  constructor
  · intro h
    refine ⟨?_, h.symm⟩
    have := congrArg List.length h
    simp at this; omega
  · intro h; exact h.2.symm
theorem preTold_ok : ∀ xs H k out, preTold xs H k = some out → ∃ o, CallOK Tryd.prog 88 xs H o ∧ k o = some out := mkFS_ok fun ys xs e h => by
  obtain ⟨s, t, rfl⟩ : ∃ s t, xs = [.str s, .str t] := ⟨_, _, e⟩
  refine ⟨_, fun k => rfl, Lay.nil_ok.callF (G := []) rfl (fun k => ?_)⟩
  rw [pre_fun]
  show _ = k (.ret (.bool (t.isPrefixOf s)) [])
  rw [pre_take]
  simp (disch := omega) only [g2, cond_true, Int.toNat_natCast, Int.toNat_zero, List.drop_zero, bif_and]
  have : decide ((s.length : Int) ≥ t.length) = decide (t.length ≤ s.length) := by
    rw [Bool.eq_iff_iff]; simp
  rw [this]
theorem pre2Told_ok : ∀ xs H k out, preTold xs H k = some out → ∃ o, CallOK Tryd.prog 146 xs H o ∧ k o = some out := mkFS_ok fun ys xs e h => by
  obtain ⟨s, t, rfl⟩ : ∃ s t, xs = [.str s, .str t] := ⟨_, _, e⟩
  refine ⟨_, fun k => rfl, Lay.nil_ok.callF (G := []) rfl (fun k => ?_)⟩
  rw [pre2_fun]
  show _ = k (.ret (.bool (t.isPrefixOf s)) [])
  rw [pre_take]
  simp (disch := omega) only [g2, cond_true, Int.toNat_natCast, Int.toNat_zero, List.drop_zero, bif_and]
  have : decide ((s.length : Int) ≥ t.length) = decide (t.length ≤ s.length) := by
    rw [Bool.eq_iff_iff]; simp
  rw [this]
noncomputable def layX1 : Lay := ((((((Lay.nil.addF 111 idxTold).addF 112 trimLTold).addF 180 trimRTold).addF 181 trimTold).addF 42 blankTold).addF 88 preTold).addF 146 preTold
theorem layX1_ok : layX1.OK Tryd.prog := ((((((Lay.nil_ok.addF idxTold_ok).addF trimLTold_ok).addF trimRTold_ok).addF trimTold_ok).addF blankTold_ok).addF preTold_ok).addF pre2Told_ok
def win : List UInt8 → Bool → Bool → Nat → Int
  | [], _, _, _ => -1
  | c :: t, q, e, i => bif e then win t q false (i + 1) else bif q && c == 92 then win t q true (i + 1) else bif c == 34 then win t (!q) false (i + 1) else bif !q && [125, 125].isPrefixOf (c :: t) then i else win t q false (i + 1)
def winSp : LSp := mkLS [.s, .b, .i .i64] (fun vs => decide (0 ≤ aI vs 2 ∧ aI vs 2 ≤ 1099511627776 ∧ (aS vs 0).length ≤ 1099511627776))
  (fun vs k => cond (decide (win ((aS vs 0).drop (aI vs 2).toNat) (aB vs 1) false (aI vs 2).toNat ≥ 0)) (k .ret [.int .i64 (win ((aS vs 0).drop (aI vs 2).toNat) (aB vs 1) false (aI vs 2).toNat)]) (k (.exit 0) [.undef]))
def winFH : FH := .of [(3, loopSpec 41 [0,5,6] [] [4] [] winSp)]
theorem within_step (s : List UInt8) (q : Bool) (i : Int) (H : Heap) (D : List (FuncId × List AVal)) (k : Kont) : lturn Tryd.prog layX1 winFH 115 3 [0,5,6] [] [4] [] (stL 41 [0,5,6] [.str s, .bool q, .int .i64 i] [] [] H D) k = (
 let n0 : Int := (↑s.length : Int);
 let c1 : Bool := decide (i < n0);
 let c2 : Bool := decide (0 ≤ i);
 let c3 : Bool := c2 && c1;
 let n4 : Int := (↑(s.getD i.toNat 0).toNat : Int);
 let n5 : Int := IntKind.i64.wrap (i + 1);
  bif c1 then
  bif c3 || !q then
  bif bif q then n4 == 92 else false then
  k AExit.normal
  (stL 41 [0, 5, 6] [AVal.str s, AVal.bool q, AVal.int IntKind.i64 (IntKind.i64.wrap (n5 + 1))] [] [] H D)
  else
  bif c3 then
  bif n4 == 34 then
  k AExit.normal (stL 41 [0, 5, 6] [AVal.str s, AVal.bool !q, AVal.int IntKind.i64 n5] [] [] H D)
  else
  bif c2 && decide (i ≤ n0) && decide (n0 ≤ n0) || !!q then
  bif bif !q then [125, 125].isPrefixOf (List.drop i.toNat (List.take n0.toNat s)) else false then
  k AExit.ret (stL 41 [4] [AVal.int IntKind.i64 i] [] [] H D)
  else k AExit.normal (stL 41 [0, 5, 6] [AVal.str s, AVal.bool q, AVal.int IntKind.i64 n5] [] [] H D)
  else none
  else none
  else none
  else k (AExit.exit 0) (stL 41 [4] [AVal.undef] [] [] H D)) := by kernel_rfl
theorem win_runs (s : List UInt8) (hs : s.length ≤ 1099511627776) : ∀ (m : Nat) (q : Bool) (i : Nat) (H : Heap), s.length + 1 - i ≤ m → i ≤ s.length + 1 →
    (win (s.drop i) q false i ≥ 0 → LoopRuns (lturn Tryd.prog layX1 winFH 115 3 [0,5,6] [] [4] []) 41 [0,5,6] [] [4] [] [.str s, .bool q, .int .i64 i] [] H .ret [.int .i64 (win (s.drop i) q false i)] [] H) ∧
    (¬ win (s.drop i) q false i ≥ 0 → LoopRuns (lturn Tryd.prog layX1 winFH 115 3 [0,5,6] [] [4] []) 41 [0,5,6] [] [4] [] [.str s, .bool q, .int .i64 i] [] H (.exit 0) [.undef] [] H) := by
  intro m
  induction m with
  | zero => 
    intro q i H h1 h2
    have e : s.drop i = [] := List.drop_eq_nil_of_le (by omega)
    rw [e]
    refine ⟨fun h => by simp [win] at h, fun _ => .stop (by simp) (fun D k => ?_)⟩
    rw [within_step]
    simp (disch := omega) only [dF, cond_false]
  | succ m ih =>
    intro q i H h1 h2
    by_cases hi : i < s.length
    case neg =>
      have e : s.drop i = [] := List.drop_eq_nil_of_le (by omega)
      rw [e]
      refine ⟨fun h => by simp [win] at h, fun _ => .stop (by simp) (fun D k => ?_)⟩
      rw [within_step]
      simp (disch := omega) only [dF, cond_false]
    have key := fun D k => within_step s q i H D k
    simp (disch := first | omega | decide) only [dT, cond_true, Bool.true_or, Bool.and_true, Bool.and_self, eqc, Int.toNat_natCast, List.take_length, wrap_of, bif_and] at key
    have ed := drop_cons_of s i 0 hi
    generalize s.getD i 0 = c at key ed
    have e1 : (i : Int) + 1 = ((i + 1 : Nat) : Int) := by omega
    have e2 : (i : Int) + 1 + 1 = ((i + 2 : Nat) : Int) := by omega
    cases h92 : q && c == 92 with
    | true =>
      have ew : win (s.drop i) q false i = win (s.drop (i + 2)) q false (i + 2) := by
        rw [ed, win]
        simp only [cond_false, h92, cond_true]
        by_cases h3 : i + 1 < s.length
        · rw [drop_cons_of s (i + 1) 0 h3, win]; rfl
        · rw [List.drop_eq_nil_of_le (by omega), List.drop_eq_nil_of_le (by omega)]; rfl
      have hk := fun D k => (key D k)
      simp only [h92, cond_true, e2] at hk
      rw [ew]
      by_cases h4 : i + 2 ≤ s.length + 1
      · exact ⟨fun h => .step hk ((ih q (i + 2) H (by omega) h4).1 h), fun h => .step hk ((ih q (i + 2) H (by omega) h4).2 h)⟩
      · omega
    | false =>
      simp only [h92, cond_false] at key
      cases h34 : c == 34 with
      | true =>
        have ew : win (s.drop i) q false i = win (s.drop (i + 1)) (!q) false (i + 1) := by
          rw [ed, win]; simp only [cond_false, h92, h34, cond_true]
        simp only [h34, cond_true, e1] at key
        rw [ew]
        exact ⟨fun h => .step key ((ih (!q) (i + 1) H (by omega) (by omega)).1 h), fun h => .step key ((ih (!q) (i + 1) H (by omega) (by omega)).2 h)⟩
      | false =>
        simp only [h34, cond_false] at key
        cases hp : !q && [125, 125].isPrefixOf (s.drop i) with
        | true =>
          have ew : win (s.drop i) q false i = i := by
            rw [ed] at hp ⊢
            rw [win]; simp only [cond_false, h92, h34, hp, cond_true]
          simp only [hp, cond_true] at key
          rw [ew]
          exact ⟨fun h => .stop (by simp) key, fun h => absurd (by omega) h⟩
        | false =>
          have ew : win (s.drop i) q false i = win (s.drop (i + 1)) q false (i + 1) := by
            rw [ed] at hp ⊢
            rw [win]; simp only [cond_false, h92, h34, hp]
          simp only [hp, cond_false, e1] at key
          rw [ew]
          exact ⟨fun h => .step key ((ih q (i + 1) H (by omega) (by omega)).1 h), fun h => .step key ((ih q (i + 1) H (by omega) (by omega)).2 h)⟩
theorem trims_fun (s : List UInt8) (k : Out → Ans) : iFun Tryd.prog (layX1.hd Tryd.prog) layX1.fhs 0 116 [.str s] [] k = (
 let n0 : Int := (↑s.length : Int);
 let c1 : Bool := decide (n0 > 1);
 let c2 : Bool := !c1;
 let c3 : Bool := bif c1 then (↑(s.getD 0 0).toNat : Int) == 45 else false;
 let c4 : Bool := bif c3 then blkI (↑(s.getD 1 0).toNat : Int) else false;
 let l5 : List UInt8 := List.drop (Int.toNat 1) (List.take n0.toNat s);
 let n6 : Int := (↑l5.length : Int);
 let n7 : Int := IntKind.i64.wrap (n6 - 1);
 let c8 : Bool := decide (0 ≤ n7);
 let c9 : Bool := decide (n6 > 1);
 let n10 : Int := IntKind.i64.wrap (n6 - 2);
 let m11 : Nat := n7.toNat;
 let c12 : Bool := bif c9 then (↑(l5.getD m11 0).toNat : Int) == 45 else false;
 let c13 : Bool := bif c12 then blkI (↑(l5.getD n10.toNat 0).toNat : Int) else false;
 let n14 : Int := IntKind.i64.wrap (n0 - 1);
 let c15 : Bool := decide (0 ≤ n14);
 let n16 : Int := IntKind.i64.wrap (n0 - 2);
 let m17 : Nat := n14.toNat;
 let c18 : Bool := bif c1 then (↑(s.getD m17 0).toNat : Int) == 45 else false;
 let c19 : Bool := bif c18 then blkI (↑(s.getD n16.toNat 0).toNat : Int) else false;
  bif decide (0 < n0) || c2 then
  bif decide (1 < n0) || !c3 then
  bif c4 then
  bif decide (1 ≤ n0) && decide (n0 ≤ n0) then
  bif c8 && decide (n7 < n6) || !c9 then
  bif decide (0 ≤ n10) && decide (n10 < n6) || !c12 then
  bif c13 then
  bif c8 && decide (n7 ≤ n6) then
  k
  (Out.ret
  (AVal.tuple [AVal.str (List.drop (Int.toNat 0) (List.take m11 l5)), AVal.bool c4, AVal.bool c13])
  [])
  else none
  else k (Out.ret (AVal.tuple [AVal.str l5, AVal.bool c4, AVal.bool c13]) [])
  else none
  else none
  else none
  else
  bif c15 && decide (n14 < n0) || c2 then
  bif decide (0 ≤ n16) && decide (n16 < n0) || !c18 then
  bif c19 then
  bif c15 && decide (n14 ≤ n0) then
  k
  (Out.ret
  (AVal.tuple [AVal.str (List.drop (Int.toNat 0) (List.take m17 s)), AVal.bool c4, AVal.bool c19]) [])
  else none
  else k (Out.ret (AVal.tuple [AVal.str s, AVal.bool c4, AVal.bool c19]) [])
  else none
  else none
  else none
  else none) := by kernel_rfl
theorem remark_fun (s : List UInt8) (at_ : Int) (k : Out → Ans) : iFun Tryd.prog (layX1.hd Tryd.prog) layX1.fhs 0 114 [.str s, .int .i64 at_] [] k = (
 let n0 : Int := IntKind.i64.wrap (at_ + 2);
 let n1 : Int := (↑s.length : Int);
 let c2 : Bool := decide (n1 ≤ n1);
 let l3 : List UInt8 := List.take n1.toNat s;
 let l4 : List UInt8 := List.drop n0.toNat l3;
 let m5 : Nat := l4.length;
 let l6 : List UInt8 := trimL l4;
 let n7 : Int := IntKind.i64.wrap (IntKind.i64.wrap (n1 - (↑l6.length : Int)) + 2);
 let l8 : List UInt8 := List.drop n7.toNat l3;
 let n9 : Int := Lib.index l8 [42, 47];
 let n10 : Int := (↑m5 : Int);
 let l11 : List UInt8 := List.drop (Int.toNat 1) (List.take n10.toNat l4);
 let l12 : List UInt8 := trimL l11;
 let n13 : Int := IntKind.i64.wrap (IntKind.i64.wrap (n1 - (↑l12.length : Int)) + 2);
 let l14 : List UInt8 := List.drop n13.toNat l3;
 let n15 : Int := Lib.index l14 [42, 47];
  bif decide (0 ≤ n0) && decide (n0 ≤ n1) && c2 then
  bif ![45].isPrefixOf l4 then
  bif decide (m5 ≤ 1099511627776) then
  bif ![47, 42].isPrefixOf l6 then k (Out.ret (AVal.int IntKind.i64 (-1)) [])
  else
  bif decide (0 ≤ n7) && decide (n7 ≤ n1) && c2 then
  bif decide (l8.length < 4294967281) then
  bif !decide (n9 ≥ 0) then
  k (Out.panic (AVal.iface 79 (AVal.agg [AVal.int IntKind.i64 at_, AVal.int IntKind.i64 8])) [])
  else k (Out.ret (AVal.int IntKind.i64 (IntKind.i64.wrap (IntKind.i64.wrap (n7 + n9) + 2))) [])
  else none
  else none
  else none
  else
  bif decide (1 ≤ n10) && decide (n10 ≤ n10) then
  bif decide (l11.length ≤ 1099511627776) then
  bif ![47, 42].isPrefixOf l12 then k (Out.ret (AVal.int IntKind.i64 (-1)) [])
  else
  bif decide (0 ≤ n13) && decide (n13 ≤ n1) && c2 then
  bif decide (l14.length < 4294967281) then
  bif !decide (n15 ≥ 0) then
  k (Out.panic (AVal.iface 79 (AVal.agg [AVal.int IntKind.i64 at_, AVal.int IntKind.i64 8])) [])
  else k (Out.ret (AVal.int IntKind.i64 (IntKind.i64.wrap (IntKind.i64.wrap (n13 + n15) + 2))) [])
  else none
  else none
  else none
  else none
  else none) := by kernel_rfl
theorem winSp_ok : SpOK (lturn Tryd.prog layX1 winFH 115 3 [0,5,6] [] [4] []) 41 [0,5,6] [] [4] [] winSp := mkLS_ok fun ys vs H e h => by
  obtain ⟨s, q, n, rfl⟩ : ∃ s q n, vs = [.str s, .bool q, .int .i64 n] := ⟨_, _, _, e⟩
  replace h : 0 ≤ n ∧ n ≤ 1099511627776 ∧ s.length ≤ 1099511627776 := of_decide_eq_true h
  obtain ⟨h0, h1, h2⟩ := h
  obtain ⟨i, rfl⟩ : ∃ i : Nat, n = i := ⟨n.toNat, by omega⟩
  by_cases hi : i ≤ s.length + 1
  · have key := win_runs s h2 _ q i H (Nat.le_refl _) hi
    by_cases hw : win (s.drop i) q false i ≥ 0
    · exact ⟨.ret, [.int .i64 (win (s.drop i) q false i)], fun k => by show cond (decide (win (s.drop i) q false i ≥ 0)) _ _ = _; rw [dT hw]; rfl, key.1 hw⟩
    · exact ⟨.exit 0, [.undef], fun k => by show cond (decide (win (s.drop i) q false i ≥ 0)) _ _ = _; rw [dF hw]; rfl, key.2 hw⟩
  · have e2 : s.drop i = [] := List.drop_eq_nil_of_le (by omega)
    refine ⟨.exit 0, [.undef], fun k => by show cond (decide (win (s.drop i) q false i ≥ 0)) _ _ = _; rw [e2]; rfl, .stop (by simp) (fun D k => ?_)⟩
    rw [within_step]
    simp (disch := omega) only [dF, cond_false]
noncomputable def layX2 : Lay := layX1.addL 115 winFH
theorem layX2_ok : layX2.OK Tryd.prog := layX1_ok.loop1 (id := 3) (by kernel_rfl) (by kernel_rfl) (by kernel_rfl) winSp_ok
theorem within_fun (s : List UInt8) (i : Int) (k : Out → Ans) : iFun Tryd.prog (layX2.hd Tryd.prog) layX2.fhs 0 115 [.str s, .int .i64 i] [] k = (
 let n0 : Int := win (List.drop i.toNat s) false false i.toNat;
  bif decide (0 ≤ i ∧ i ≤ 1099511627776 ∧ s.length ≤ 1099511627776) then
  bif decide (n0 ≥ 0) then k (Out.ret (AVal.int IntKind.i64 n0) []) else k (Out.ret (AVal.int IntKind.i64 (-1)) [])
  else none) := by kernel_rfl
/- trims -/
def trimsA (s : List UInt8) : Bool := decide (1 < s.length) && s.getD 0 0 == 45 && blk (s.getD 1 0)
def trimsZ (s : List UInt8) : Bool := decide (1 < s.length) && s.getD (s.length - 1) 0 == 45 && blk (s.getD (s.length - 2) 0)
def trimsT (s : List UInt8) : List UInt8 := bif trimsA s then s.drop 1 else s
def trimsU (t : List UInt8) : List UInt8 := bif trimsZ t then t.take (t.length - 1) else t
theorem hZ (u : List UInt8) : (decide ((u.length : Int) > 1) && u.getD ((u.length : Int) - 1).toNat 0 == 45 && blk (u.getD ((u.length : Int) - 2).toNat 0)) = trimsZ u := by
  unfold trimsZ
  rw [show ((u.length : Int) - 1).toNat = u.length - 1 by omega, show ((u.length : Int) - 2).toNat = u.length - 2 by omega, show decide ((u.length : Int) > 1) = decide (1 < u.length) from decide_eq_decide.2 (by omega)]
theorem hA (u : List UInt8) : (decide ((u.length : Int) > 1) && u.getD 0 0 == 45 && blk (u.getD 1 0)) = trimsA u := by
  unfold trimsA
  rw [show decide ((u.length : Int) > 1) = decide (1 < u.length) from decide_eq_decide.2 (by omega)]
theorem trims_call (s : List UInt8) (hs : s.length ≤ 1099511627776) (k : Out → Ans) : iFun Tryd.prog (layX1.hd Tryd.prog) layX1.fhs 0 116 [.str s] [] k = k (.ret (.tuple [.str (trimsU (trimsT s)), .bool (trimsA s), .bool (trimsZ (trimsT s))]) []) := by
  rw [trims_fun]
  have hu : (s.drop 1).length ≤ s.length := by simp
  have ha : trimsA s = true → 1 < s.length := fun h => by
    unfold trimsA at h
    simp only [Bool.and_eq_true, decide_eq_true_eq] at h
    exact h.1.1
  have hz : ∀ u, trimsZ u = true → 1 < u.length := fun u h => by
    unfold trimsZ at h
    simp only [Bool.and_eq_true, decide_eq_true_eq] at h
    exact h.1.1
  simp only [Int.toNat_natCast, List.take_length, Int.toNat_one, Int.toNat_zero, List.drop_zero]
  unfold trimsU trimsT
  generalize s.drop 1 = u at hu ⊢
  simp (disch := first | omega | decide) only [g1, g2, g3, g4, cond_true, eqc, wrap_of, bif_and, blkI_eq, hA, hZ]
  cases h1 : trimsA s with
  | true =>
    have := ha h1
    cases h2 : trimsZ u with
    | true =>
      have := hz u h2
      simp (disch := omega) only [dT, cond_true, Bool.and_true, h2, toNat_sub1]
    | false => simp (disch := omega) only [dT, cond_true, Bool.and_true, h2, cond_false]
  | false =>
    cases h2 : trimsZ s with
    | true =>
      have := hz s h2
      simp (disch := omega) only [dT, cond_true, cond_false, Bool.and_true, h2, toNat_sub1]
    | false => simp (disch := omega) only [dT, cond_true, cond_false, Bool.and_true, h2]
theorem win_ge : ∀ (t : List UInt8) (q e : Bool) (i : Nat), win t q e i = -1 ∨ (i : Int) ≤ win t q e i ∧ win t q e i < i + t.length
  | [], _, _, _ => .inl rfl
  | c :: t, q, e, i => by
    have ih := fun q e => win_ge t q e (i + 1)
    rw [win]
    simp only [List.length_cons]
    cases e with
    | true => simp only [cond_true]; have := ih q false; omega
    | false =>
      simp only [cond_false]
      cases q && c == 92 with
      | true => simp only [cond_true]; have := ih q true; omega
      | false =>
        simp only [cond_false]
        cases c == 34 with
        | true => simp only [cond_true]; have := ih (!q) false; omega
        | false =>
          simp only [cond_false]
          cases !q && [125, 125].isPrefixOf (c :: t) with
          | true => simp only [cond_true]; omega
          | false => simp only [cond_false]; have := ih q false; omega
theorem within_call (s : List UInt8) (i : Nat) (hs : s.length ≤ 1099511627776) (hi : i ≤ 1099511627776) (k : Out → Ans) : iFun Tryd.prog (layX2.hd Tryd.prog) layX2.fhs 0 115 [.str s, .int .i64 i] [] k = k (.ret (.int .i64 (win (s.drop i) false false i)) []) := by
  rw [within_fun]
  simp only [Int.toNat_natCast]
  rw [dT (show 0 ≤ (i : Int) ∧ (i : Int) ≤ 1099511627776 ∧ s.length ≤ 1099511627776 by omega)]
  have h := win_ge (s.drop i) false false i
  by_cases hr : win (s.drop i) false false i ≥ 0
  · rw [dT hr]; rfl
  · rw [dF hr, show win (s.drop i) false false i = -1 by omega]; rfl
/- remark -/
def rmT (s : List UInt8) (at_ : Nat) : List UInt8 := trimL (bif [45].isPrefixOf (s.drop (at_ + 2)) then (s.drop (at_ + 2)).drop 1 else s.drop (at_ + 2))
def rmF (s : List UInt8) (at_ : Nat) : Nat := s.length - (rmT s at_).length + 2
def rmN (s : List UInt8) (at_ : Nat) : Int := Lib.index (s.drop (rmF s at_)) [42, 47]
def rmIs (s : List UInt8) (at_ : Nat) : Bool := [47, 42].isPrefixOf (rmT s at_)
theorem rmT_len (s : List UInt8) (at_ : Nat) : (rmT s at_).length ≤ s.length - (at_ + 2) := by
  unfold rmT
  refine Nat.le_trans (trimL_len _) ?_
  cases [45].isPrefixOf (s.drop (at_ + 2)) <;> simp <;> omega
theorem pre_len {p s : List UInt8} (h : p.isPrefixOf s = true) : p.length ≤ s.length := (List.isPrefixOf_iff_prefix.1 h).length_le
theorem index_le (s p : List UInt8) : Lib.index s p ≤ s.length := by
  induction s with
  | nil => unfold Lib.index; split <;> simp
  | cons c t ih =>
    unfold Lib.index
    split
    · simp; omega
    · split
      · simp; omega
      · simp; omega
theorem remark_call (s : List UInt8) (at_ : Nat) (h1 : at_ + 2 ≤ s.length) (hs : s.length ≤ 1073741824) (k : Out → Ans) : iFun Tryd.prog (layX1.hd Tryd.prog) layX1.fhs 0 114 [.str s, .int .i64 at_] [] k =
    cond (rmIs s at_) (cond (decide (rmN s at_ ≥ 0)) (k (.ret (.int .i64 ((rmF s at_ : Int) + rmN s at_ + 2)) [])) (k (.panic (.iface 79 (.agg [.int .i64 at_, .int .i64 8])) []))) (k (.ret (.int .i64 (-1)) [])) := by
  rw [remark_fun]
  have hl := rmT_len s at_
  have e2 : ((at_ : Int) + 2).toNat = at_ + 2 := by omega
  have hd : (s.drop (at_ + 2)).length = s.length - (at_ + 2) := by simp
  simp (disch := omega) only [Int.toNat_natCast, List.take_length, Int.toNat_one, Int.toNat_zero, List.drop_zero, wrap_of, e2, dT, cond_true, Bool.and_true]
  unfold rmIs rmN
  have tail : ∀ u : List UInt8, rmT s at_ = u →
      (bif !([47, 42].isPrefixOf u) then k (.ret (.int .i64 (-1)) []) else bif decide (0 ≤ IntKind.i64.wrap (IntKind.i64.wrap ((s.length : Int) - u.length) + 2)) && decide (IntKind.i64.wrap (IntKind.i64.wrap ((s.length : Int) - u.length) + 2) ≤ (s.length : Int)) then
        bif decide ((s.drop (IntKind.i64.wrap (IntKind.i64.wrap ((s.length : Int) - u.length) + 2)).toNat).length < 4294967281) then bif !decide (Lib.index (s.drop (IntKind.i64.wrap (IntKind.i64.wrap ((s.length : Int) - u.length) + 2)).toNat) [42, 47] ≥ 0) then k (.panic (.iface 79 (.agg [.int .i64 at_, .int .i64 8])) [])
          else k (.ret (.int .i64 (IntKind.i64.wrap (IntKind.i64.wrap (IntKind.i64.wrap (IntKind.i64.wrap ((s.length : Int) - u.length) + 2) + Lib.index (s.drop (IntKind.i64.wrap (IntKind.i64.wrap ((s.length : Int) - u.length) + 2)).toNat) [42, 47]) + 2))) []) else none else none) =
      cond ([47, 42].isPrefixOf (rmT s at_)) (cond (decide (Lib.index (s.drop (rmF s at_)) [42, 47] ≥ 0)) (k (.ret (.int .i64 ((rmF s at_ : Int) + Lib.index (s.drop (rmF s at_)) [42, 47] + 2)) [])) (k (.panic (.iface 79 (.agg [.int .i64 at_, .int .i64 8])) []))) (k (.ret (.int .i64 (-1)) [])) := by
    intro u hu
    have eF : rmF s at_ = s.length - u.length + 2 := by unfold rmF; rw [hu]
    rw [hu, eF]
    rw [hu] at hl
    cases hq : [47, 42].isPrefixOf u with
    | false => rfl
    | true =>
      have h6 := pre_len hq
      simp only [List.length_cons, List.length_nil] at h6
      have e7 : IntKind.i64.wrap (IntKind.i64.wrap ((s.length : Int) - u.length) + 2) = ((s.length - u.length + 2 : Nat) : Int) := by
        rw [wrap_of (n := (s.length : Int) - u.length) (by omega) (by omega), wrap_of (by omega) (by omega)]; omega
      rw [e7]
      have h8 := index_le (s.drop (s.length - u.length + 2)) [42, 47]
      have h9 : (s.drop (s.length - u.length + 2)).length ≤ s.length := by simp
      rw [Int.toNat_natCast]
      have h10 := Lib.index_ge (s.drop (s.length - u.length + 2)) [42, 47]
      generalize Lib.index (s.drop (s.length - u.length + 2)) [42, 47] = r at *
      simp (disch := omega) only [dT, wrap_of, Bool.and_true, cond_true, Bool.not_true, cond_false]
      cases decide (r ≥ 0) <;> rfl
  cases hp : [45].isPrefixOf (s.drop (at_ + 2)) with
  | true =>
    have h4 := pre_len hp
    simp only [List.length_cons, List.length_nil] at h4
    have hd2 : ((s.drop (at_ + 2)).drop 1).length = s.length - (at_ + 2) - 1 := by simp; omega
    rw [← tail (trimL ((s.drop (at_ + 2)).drop 1)) (by unfold rmT; rw [hp]; rfl)]
    simp (disch := omega) only [Bool.not_true, cond_false, dT, cond_true, Bool.and_true]
  | false =>
    rw [← tail (trimL (s.drop (at_ + 2))) (by unfold rmT; rw [hp]; rfl)]
    simp (disch := omega) only [Bool.not_false, cond_true, dT, Bool.and_true]
def withinTold : FSp := mkFS [.s, .i .i64] (fun xs => decide (0 ≤ aI xs 1 ∧ aI xs 1 ≤ 1099511627776 ∧ (aS xs 0).length ≤ 1099511627776)) (fun xs k => k (.ret (.int .i64 (win ((aS xs 0).drop (aI xs 1).toNat) false false (aI xs 1).toNat)) []))
theorem withinTold_ok : ∀ xs H k out, withinTold xs H k = some out → ∃ o, CallOK Tryd.prog 115 xs H o ∧ k o = some out := mkFS_ok fun ys xs e h => by
  obtain ⟨s, n, rfl⟩ : ∃ s n, xs = [.str s, .int .i64 n] := ⟨_, _, e⟩
  replace h : 0 ≤ n ∧ n ≤ 1099511627776 ∧ s.length ≤ 1099511627776 := of_decide_eq_true h
  obtain ⟨i, rfl⟩ : ∃ i : Nat, n = i := ⟨n.toNat, by omega⟩
  exact ⟨_, fun k => rfl, layX2_ok.callF (G := []) rfl (fun k => within_call s i h.2.2 (by omega) k)⟩
def trimsTold : FSp := mkFS [.s] (fun xs => decide ((aS xs 0).length ≤ 1099511627776)) (fun xs k => k (.ret (.tuple [.str (trimsU (trimsT (aS xs 0))), .bool (trimsA (aS xs 0)), .bool (trimsZ (trimsT (aS xs 0)))]) []))
theorem trimsTold_ok : ∀ xs H k out, trimsTold xs H k = some out → ∃ o, CallOK Tryd.prog 116 xs H o ∧ k o = some out := mkFS_ok fun ys xs e h => by
  obtain ⟨s, rfl⟩ : ∃ s, xs = [.str s] := ⟨_, e⟩
  exact ⟨_, fun k => rfl, layX1_ok.callF (G := []) rfl (fun k => trims_call s (of_decide_eq_true h) k)⟩
def remarkTold : FSp := mkFS [.s, .i .i64] (fun xs => decide (0 ≤ aI xs 1 ∧ aI xs 1 + 2 ≤ (aS xs 0).length ∧ (aS xs 0).length ≤ 1073741824))
  (fun xs k => cond (rmIs (aS xs 0) (aI xs 1).toNat) (cond (decide (rmN (aS xs 0) (aI xs 1).toNat ≥ 0)) (k (.ret (.int .i64 ((rmF (aS xs 0) (aI xs 1).toNat : Int) + rmN (aS xs 0) (aI xs 1).toNat + 2)) [])) (k (.panic (.iface 79 (.agg [.int .i64 (aI xs 1), .int .i64 8])) []))) (k (.ret (.int .i64 (-1)) [])))
theorem remarkTold_ok : ∀ xs H k out, remarkTold xs H k = some out → ∃ o, CallOK Tryd.prog 114 xs H o ∧ k o = some out := mkFS_ok fun ys xs e h => by
  obtain ⟨s, n, rfl⟩ : ∃ s n, xs = [.str s, .int .i64 n] := ⟨_, _, e⟩
  replace h : 0 ≤ n ∧ n + 2 ≤ s.length ∧ s.length ≤ 1073741824 := of_decide_eq_true h
  obtain ⟨i, rfl⟩ : ∃ i : Nat, n = i := ⟨n.toNat, by omega⟩
  have key := fun k => remark_call s i (by omega) h.2.2 k
  show ∃ o, (∀ k : Out → Ans, cond (rmIs s i) (cond (decide (rmN s i ≥ 0)) (k (.ret (.int .i64 ((rmF s i : Int) + rmN s i + 2)) [])) (k (.panic (.iface 79 (.agg [.int .i64 i, .int .i64 8])) []))) (k (.ret (.int .i64 (-1)) [])) = k o) ∧ _
  cases h1 : rmIs s i with
  | false =>
    simp only [h1] at key
    exact ⟨_, fun k => rfl, layX1_ok.callF (G := []) rfl key⟩
  | true =>
    simp only [h1, cond_true] at key
    cases h2 : decide (rmN s i ≥ 0) with
    | false =>
      simp only [h2] at key
      exact ⟨_, fun k => rfl, layX1_ok.call key⟩
    | true =>
      simp only [h2] at key
      exact ⟨_, fun k => rfl, layX1_ok.callF (G := []) rfl key⟩
noncomputable def layX3 : Lay := ((layX1.addF 115 withinTold).addF 116 trimsTold).addF 114 remarkTold
theorem layX3_ok : layX3.OK Tryd.prog := ((layX1_ok.addF withinTold_ok).addF trimsTold_ok).addF remarkTold_ok
end Go.Mu
set_option linter.unusedVariables false
set_option linter.unusedSimpArgs false
namespace Go.Mu
open Go
variable {P : Program} {w w' : World} {E E' : Env} {H H' G : Heap} {β : Nat → Option Nat} {a : Act}
def fzV (k : Nat) (rows : List (List AVal)) (u : Nat) : Nat → AVal → AVal
  | 0, _ => .undef
  | d + 1, v => match v with
    | .own k' off len ver clip => if k' = k then (if ver = u ∧ off + len ≤ rows.length then .list false len (fun i => rows.getD (off + i) []) else .undef) else .own k' off len ver clip
    | .ptr (.hp k') o => if k' = k then .undef else .ptr (.hp k') o
    | .eptr k' v i o => if k' = k then .undef else .eptr k' v i o
    | .func f cs => .func f (cs.map (fzV k rows u d))
    | .iface t x => .iface t (fzV k rows u d x)
    | .agg cs => .agg (cs.map (fzV k rows u d))
    | .tuple cs => .tuple (cs.map (fzV k rows u d))
    | v => v
def fzO (k : Nat) (rows : List (List AVal)) (u : Nat) : Obj → Obj
  | .var cs => .var (cs.map (fzV k rows u 6))
  | .arr sz rs v => .arr sz (rs.map (fun r => r.map (fzV k rows u 6))) v
  | .note t n => .note t n
def fzE (k : Nat) (E : Env) : Env := { imm := fun b => E.imm b ∨ (E.cap k ≠ 0 ∧ b = E.φ k), φ := E.φ, cap := E.cap }
theorem getD_map_fz {f : AVal → AVal} {cs : List AVal} {j : Nat} (h : j < cs.length) : (cs.map f).getD j .undef = f (cs.getD j .undef) := by
  simp [List.getD_eq_getElem?_getD, List.getElem?_eq_getElem h]
theorem isVar_fz {k : Nat} {rows : List (List AVal)} {u l : Nat} : isVar (H.map (fzO k rows u)) l = isVar H l := by
  unfold isVar
  rw [List.getElem?_map]
  cases H[l]? with
  | none => rfl
  | some x => cases x <;> rfl
theorem arrInfo_fz {k : Nat} {rows : List (List AVal)} {u l : Nat} : arrInfo (H.map (fzO k rows u)) l = arrInfo H l := by
  unfold arrInfo
  rw [List.getElem?_map]
  cases H[l]? with
  | none => rfl
  | some x => cases x <;> rfl
def HOwn (w : World) (E : Env) (H : Heap) (X : Obj) (rows : List (List AVal)) (u : Nat) : Prop := ∀ off len clip c, off + len ≤ rows.length → Rep w E (H ++ [X]) (.own H.length off len u clip) c → RepP w (fzE H.length E).imm (.list false len (fun i => rows.getD (off + i) [])) c
theorem hown_drop {sz u : Nat} {rows : List (List AVal)} : HOwn w E H (.arr sz rows u) [] (u + 1) := fun off len clip c hle r => by
  obtain ⟨ao, cap, sz', u', rfl, g1, g2, g3⟩ := rep_own r
  have : arrInfo (H ++ [Obj.arr sz rows u]) H.length = some (sz, u) := by simp [arrInfo]
  rw [this] at g1
  simp only [Option.some.injEq, Prod.mk.injEq] at g1
  omega
theorem fz_rep {X : Obj} {u : Nat} {rows : List (List AVal)} (hown : HOwn w E H X rows u) : ∀ (d : Nat) (v : AVal) (c : Value), Rep w E (H ++ [X]) v c → Rep w (fzE H.length E) H (fzV H.length rows u d v) c := by
  intro d
  induction d with
  | zero => intro v c h; exact .undef _
  | succ d ih =>
    intro v c h
    have base : (∀ {w : World} {E : Env} {H : Heap}, Rep w E H v c → RepP w E.imm v c) → Rep w (fzE H.length E) H v c := fun hp => .pure _ _ ((hp h).imm (fun b hb => .inl hb))
    cases v <;> simp only [fzV]
    case own k off len ver clip =>
      split
      · rename_i hk
        subst hk
        split
        · rename_i hc
          obtain ⟨rfl, hle⟩ := hc
          exact .pure _ _ (hown off len clip c hle h)
        · exact .undef _
      · rename_i hk
        obtain ⟨ao, cap, sz', u', rfl, g1, g2, g3⟩ := rep_own h
        have hlt : k < H.length := by
          have := arrInfo_lt g1
          simp only [List.length_append, List.length_singleton] at this
          omega
        rw [arrInfo_app hlt] at g1
        exact .own k off len ver clip ao cap sz' u' g1 g2 g3
    case ptr o off =>
      cases o with
      | tmp t => cases h with | pure _ _ h => cases h
      | hp k =>
        simp only
        split
        · exact .undef _
        · rename_i hk
          obtain ⟨rfl, hv⟩ := rep_ptrH h
          have hlt : k < H.length := by
            have := isVar_lt hv
            simp only [List.length_append, List.length_singleton] at this
            omega
          rw [isVar_app hlt] at hv
          exact .ptrH k off hv
    case eptr k ver i off =>
      split
      · exact .undef _
      · rename_i hk
        obtain ⟨p, sz', u', rfl, g1, g2, g3⟩ := rep_eptr h
        have hlt : k < H.length := by
          have := arrInfo_lt g1
          simp only [List.length_append, List.length_singleton] at this
          omega
        rw [arrInfo_app hlt] at g1
        exact .eptr k ver i off p sz' u' g1 g2 g3
    case func f cs =>
      obtain ⟨ds, rfl, hl, hr⟩ := rep_func h
      exact .func f _ ds (by simpa using hl) (fun j hj => by
        have hj' : j < cs.length := by simpa using hj
        rw [getD_map_fz hj']; exact ih _ _ (hr j hj'))
    case agg cs =>
      obtain ⟨ds, rfl, hl, hr⟩ := rep_agg h
      exact .agg _ ds (by simpa using hl) (fun j hj => (hr j (by simpa using hj)).1) (fun j hj => by
        have hj' : j < cs.length := by simpa using hj
        rw [getD_map_fz hj']; exact ih _ _ (hr j hj').2)
    case tuple cs =>
      obtain ⟨ds, rfl, hl, hr⟩ := rep_tuple h
      exact .tuple _ ds (by simpa using hl) (fun j hj => by
        have hj' : j < cs.length := by simpa using hj
        rw [getD_map_fz hj']; exact ih _ _ (hr j hj'))
    case iface t x =>
      obtain ⟨dd, rfl, hr⟩ := rep_iface h
      exact .iface t _ dd (ih _ _ hr)
    all_goals exact base (fun h => by cases h with | pure _ _ h => exact h)

section
variable {sz u u0 : Nat} {rows rows0 : List (List AVal)}
theorem fz_sees : Sees w (fzE H.length E) H w (fzE H.length E) (H.map (fzO H.length rows u)) := by
  refine ⟨fun b hb => ⟨hb, rfl⟩, fun k hk => ⟨by rw [isVar_fz]; exact hk, rfl⟩, fun k sz u hk => ⟨u, by rw [arrInfo_fz]; exact hk, Nat.le_refl _, fun _ => ⟨rfl, fun _ => rfl⟩⟩⟩
theorem fz_block {b n : Nat} {cells cells' : Nat → Option AVal} (hown : HOwn w E H (.arr sz rows0 u0) rows u) (hc : ∀ j v, cells' j = some v → ∃ x, cells j = some x ∧ v = fzV H.length rows u 6 x)
    (r : Mu.BlockRep w E (H ++ [.arr sz rows0 u0]) b n cells) : Mu.BlockRep w (fzE H.length E) (H.map (fzO H.length rows u)) b n cells' := by
  obtain ⟨ds, ty, fr, h1, h2, h3, h4⟩ := r
  refine ⟨ds, ty, fr, h1, h2, h3, fun j v hv => ?_⟩
  obtain ⟨x, hx, rfl⟩ := hc j v hv
  obtain ⟨c, g1, g2, g3⟩ := h4 j x hx
  exact ⟨c, g1, g2, (fz_rep hown 6 x c g3).mono fz_sees⟩
theorem fz_live {k : Nat} (h : live (fzE H.length E) (H.map (fzO H.length rows u)) k) : live E (H ++ G) k := by
  have hk := live_lt h
  rw [List.length_map] at hk
  unfold live at h ⊢
  rw [isVar_fz, arrInfo_fz] at h
  rw [isVar_app hk, arrInfo_app hk]
  exact h
theorem fz_imm {k : Nat} (hs : Sim w E (H ++ [.arr sz rows0 u0])) (hk : live (fzE H.length E) (H.map (fzO H.length rows u)) k) : ¬ (fzE H.length E).imm (E.φ k) := by
  have hlt := live_lt hk
  rw [List.length_map] at hlt
  have hlv : live E (H ++ [.arr sz rows0 u0]) k := fz_live hk
  rintro (h | ⟨h1, h2⟩)
  · exact (hs.apart k hlv).1 h
  · have hl2 : live E (H ++ [.arr sz rows0 u0]) H.length := .inr ⟨⟨sz, u0, by simp [arrInfo]⟩, h1⟩
    have := hs.inj k H.length hlv hl2 h2
    omega
theorem Sim.melt (hs : Sim w E (H ++ [.arr sz rows0 u0])) (hown : HOwn w E H (.arr sz rows0 u0) rows u) : Sim w (fzE H.length E) (H.map (fzO H.length rows u)) := by
  have get : ∀ {k : Nat} {x : Obj}, (H.map (fzO H.length rows u))[k]? = some x → ∃ y, (H ++ [Obj.arr sz rows0 u0])[k]? = some y ∧ x = fzO H.length rows u y := fun {k x} h => by
    rw [List.getElem?_map, Option.map_eq_some_iff] at h
    obtain ⟨y, hy, rfl⟩ := h
    exact ⟨y, by rw [List.getElem?_append_left (List.getElem?_eq_some_iff.1 hy).1, hy], rfl⟩
  refine ⟨fun b hb => ?_, fun k cs h => ?_, fun k sz' rs v h => ?_, fun k h => ⟨fz_imm hs h, (hs.apart k (fz_live h)).2⟩, fun k l h g e => hs.inj k l (fz_live h) (fz_live g) e, fun j t n hj hl => ?_, hs.glob.mono (fun b hb => ⟨.inl hb, rfl⟩)⟩
  rotate_left 3
  · obtain ⟨y, hy, e⟩ := get hj
    cases y with
    | arr _ _ _ => cases e
    | var _ => cases e
    | note t' n' =>
      simp only [fzO, Obj.note.injEq] at e
      obtain ⟨rfl, rfl⟩ := e
      exact hs.note j _ _ hy (fz_live hl)
  · rcases hb with hb | ⟨h1, rfl⟩
    · exact hs.immLt b hb
    · exact (hs.apart H.length (.inr ⟨⟨sz, u0, by simp [arrInfo]⟩, h1⟩)).2
  · obtain ⟨y, hy, e⟩ := get h
    cases y with
    | arr _ _ _ => cases e
    | note _ _ => cases e
    | var cs0 =>
      simp only [fzO, Obj.var.injEq] at e
      subst e
      rw [List.length_map]
      refine fz_block hown (fun j v hv => ?_) (hs.var k cs0 hy)
      rw [List.getElem?_map, Option.map_eq_some_iff] at hv
      obtain ⟨x, hx, rfl⟩ := hv
      exact ⟨x, hx, rfl⟩
  · obtain ⟨y, hy, e⟩ := get h
    cases y with
    | var _ => cases e
    | note _ _ => cases e
    | arr sz0 rs1 v0 =>
      simp only [fzO, Obj.arr.injEq] at e
      obtain ⟨rfl, rfl, rfl⟩ := e
      obtain ⟨h1, h2, h3, h4⟩ := hs.arr k _ rs1 _ hy
      refine ⟨h1, by simpa [fzE] using h2, fun r hr => ?_, fun hc => fz_block hown (fun j x hx => ?_) (h4 hc)⟩
      · obtain ⟨r0, hr0, rfl⟩ := List.mem_map.1 hr
        rw [List.length_map]; exact h3 r0 hr0
      · unfold Mu.cellAt at hx ⊢
        rw [List.getElem?_map] at hx
        cases hq : rs1[j / sz']? with
        | none => rw [hq] at hx; simp at hx
        | some r0 =>
          rw [hq] at hx
          simp only [Option.map_some, Option.bind_some, List.getElem?_map, Option.map_eq_some_iff] at hx ⊢
          obtain ⟨z, hz, rfl⟩ := hx
          exact ⟨z, hz, rfl⟩
theorem Evo.melt {X : Nat → Prop} {w0 : World} {E0 : Env} {H0 : Heap} (hl : H0.length ≤ H.length) (ev : Evo X w0 E0 H0 w E (H ++ [.arr sz rows0 u0])) : Evo X w0 E0 H0 w (fzE H.length E) (H.map (fzO H.length rows u)) := by
  refine ⟨ev.size, ev.kept, fun b hb => ⟨.inl (ev.immKept b hb).1, (ev.immKept b hb).2⟩, fun b hb => ?_, fun k hk => ?_, fun k sz' u' hk => ?_, fun k hk => ev.phi k (fz_live hk), by simpa using hl, ev.tape, ev.os, ev.output⟩
  · rcases hb with hb | ⟨h1, rfl⟩
    · exact ev.immNew b hb
    · rcases ev.phi H.length (.inr ⟨⟨sz, u0, by simp [arrInfo]⟩, h1⟩) with g | ⟨g, _⟩
      · exact .inr g
      · have := live_lt g; omega
  · have hlt := isVar_lt hk
    have := ev.var k hk
    rw [isVar_app (by omega)] at this
    exact ⟨by rw [isVar_fz]; exact this.1, this.2⟩
  · have hlt := arrInfo_lt hk
    have := ev.arr k sz' u' hk
    rw [arrInfo_app (by omega)] at this
    rw [arrInfo_fz]
    exact this
def meltSt (k : Nat) (rows : List (List AVal)) (u : Nat) (H1 : Heap) (st : St) : St := { T := st.T.map (fzV k rows u 6), B := st.B.map (fun b => b.map (fzV k rows u 6)), H := H1.map (fzO k rows u), D := [] }
theorem CI.melt {st : St} (hH : st.H = H ++ [.arr sz rows0 u0]) (hown : Sim w E (H ++ [.arr sz rows0 u0]) → HOwn w E H (.arr sz rows0 u0) rows u) (hD : st.D = []) (ci : CI w a E β st) : CI w a (fzE H.length E) β (meltSt H.length rows u H st) := by
  have fs := ci.fs
  have hs : Sim w E (H ++ [.arr sz rows0 u0]) := by have := fs.sim; rwa [show (toRS st).H = _ from hH] at this
  have hown := hown hs
  refine ⟨⟨hs.melt hown, ?_, ?_, by simp [toRS], fun t ht => ?_, fun t b hb => ?_, fs.binj⟩, fun t ht => ?_, fun t d q g ht => ?_, ?_⟩
  · rw [fs.tsize]; simp [toRS, meltSt]
  · have := fs.bsize
    simpa [toRS, meltSt] using this
  · have hv := fs.vals t (valid_none _ _)
    rw [show (toRS st).H = _ from hH] at hv
    show RepT w (fzE H.length E) (H.map (fzO H.length rows u)) β ((st.T.map (fzV H.length rows u 6)).getD t .undef) _
    rcases Nat.lt_or_ge t st.T.length with g | g
    · rw [getD_map_fz g]
      have e : (toRS st).T.getD t .undef = st.T.getD t .undef := rfl
      rw [e] at hv
      generalize st.T.getD t .undef = v at hv
      generalize a.tmps.getD t undef = c at hv
      cases hv with
      | box q off b hb => exact .box q off b hb
      | val _ _ r => exact .val _ _ ((fz_rep hown 6 v _ r).mono fz_sees)
    · rw [List.getD_eq_getElem?_getD, List.getElem?_eq_none (by simpa using g)]
      exact .undef _
  · obtain ⟨h1, h2, h3, h4⟩ := fs.box t b hb
    rw [show (toRS st).H = _ from hH] at h3 h4
    refine ⟨?_, h2, fun k hk => h3 k (fz_live hk), ?_⟩
    · rintro (g | ⟨g1, g2⟩)
      · exact h1 g
      · exact h3 H.length (.inr ⟨⟨sz, u0, by simp [arrInfo]⟩, g1⟩) g2.symm
    · show Mu.BlockRep w (fzE H.length E) (H.map (fzO H.length rows u)) b ((st.B.map (fun b => b.map (fzV H.length rows u 6))).getD t []).length (fun j => ((st.B.map (fun b => b.map (fzV H.length rows u 6))).getD t [])[j]?)
      have e : (st.B.map (fun b => b.map (fzV H.length rows u 6))).getD t [] = (st.B.getD t []).map (fzV H.length rows u 6) := by
        simp only [List.getD_eq_getElem?_getD, List.getElem?_map]
        cases st.B[t]? <;> rfl
      rw [e, List.length_map]
      refine fz_block hown (fun j v hv => ?_) h4
      rw [List.getElem?_map, Option.map_eq_some_iff] at hv
      obtain ⟨x, hx, rfl⟩ := hv
      exact ⟨x, hx, rfl⟩
  · have : valid (toRS (meltSt H.length rows u H st)).G t = true := valid_none _ _
    rw [this] at ht; cases ht
  · have : (toRS (meltSt H.length rows u H st)).G.getD t none = none := getD_map_none _ _
    rw [this] at ht; cases ht
  · have := ci.defs
    rw [show (toRS st).D = [] from hD] at this
    show DefRep w (fzE H.length E) (H.map (fzO H.length rows u)) [] a.defers
    generalize a.defers = ds at this
    cases this
    exact .nil
end
theorem code_melt {c : Code} {st st' : St} {H1 : Heap} {sz u u0 : Nat} {rows rows0 : List (List AVal)} (h : CodeOK P c st .normal st') (hH : st'.H = H1 ++ [.arr sz rows0 u0]) (hown : ∀ w E, Sim w E (H1 ++ [.arr sz rows0 u0]) → HOwn w E H1 (.arr sz rows0 u0) rows u) (hl : st.H.length ≤ H1.length) (hD : st'.D = []) : CodeOK P c st .normal (meltSt H1.length rows u H1 st') := by
  intro w a E β ci
  refine wp_mono (h w a E β ci) (fun x a' w' hx => ?_)
  obtain ⟨E', β', g1, g2, g3, g4⟩ := hx
  rw [hH] at g3
  refine ⟨fzE H1.length E', β', ?_, g2.melt hH (hown _ _) hD, g3.melt hl, g4⟩
  cases x <;> first | trivial | exact g1
theorem last_split {H : Heap} {X : Obj} (h : H.getLast? = some X) : H = H.dropLast ++ [X] ∧ H.dropLast.length = H.length - 1 := by
  obtain ⟨ys, hy⟩ := List.getLast?_eq_some_iff.1 h
  refine ⟨?_, by simp⟩
  rw [hy]; simp
def loopSpecM (n : Nat) (l m lx mx : List Nat) (sp : LSp) (st : St) (k : Kont) : Ans :=
  cond (st.T.length == n && st.B.length == n && st.D.isEmpty) (sp (l.map (fun t => st.T.getD t .undef)) (m.map (fun t => st.B.getD t [])) st.H (fun e vs bs H => k e (stL n lx vs mx bs H []))) none
def SpOKM (turn : St → Kont → Ans) (n : Nat) (l m lx mx : List Nat) (sp : LSp) : Prop := ∀ vs bs H k out, sp vs bs H k = some out → ∃ ws e vs' bs' H' ws', SubTL vs ws ∧ (∃ q, ∀ k, rounds turn q (stL n l ws m bs H []) k = k e (stL n lx vs' mx bs' H' [])) ∧ SubTL vs' ws' ∧ k e ws' bs' H' = some out
def dropTo (n0 : Nat) : Nat → St → (St → Ans) → Ans
  | 0, st, k => k st
  | g + 1, st, k => if st.H.length ≤ n0 then k st else match st.H.getLast? with
    | some (.arr sz rows u) => cond st.D.isEmpty (dropTo n0 g (meltSt (st.H.length - 1) [] (u + 1) st.H.dropLast st) k) none
    | _ => none
theorem dropTo_ok {P : Program} {c : Code} {st : St} {F : St → Ans} {out : Out} : ∀ (g : Nat) (st' : St), CodeOK P c st .normal st' → dropTo st.H.length g st' F = some out → ∃ st2, CodeOK P c st .normal st2 ∧ F st2 = some out
  | 0, st', h, hm => ⟨st', h, hm⟩
  | g + 1, st', h, hm => by
    unfold dropTo at hm
    split at hm
    · exact ⟨st', h, hm⟩
    rename_i hn
    split at hm
    case h_2 => simp at hm
    rename_i sz rows u hlast
    rw [Bool.cond_eq_ite] at hm
    split at hm
    case isFalse => simp at hm
    rename_i hD
    rw [List.isEmpty_iff] at hD
    obtain ⟨hH, hlen⟩ := last_split hlast
    rw [← hlen] at hm
    exact dropTo_ok g _ (code_melt h hH (fun w E _ => hown_drop) (by omega) hD) hm
def roundD (g : Nat) (body : St → Kont → Ans) (fg fx : St → St) (st : St) (k : Kont) : Ans :=
  body st fun e st' => match e with
    | .normal => dropTo st.H.length g (fg st') (k .normal)
    | e => k e (fx st')
theorem loop_runD {P : Program} {g : Nat} {h : Hd} {fh : FH} {st st' : St} {e : AExit} (hr : RegionsOK P h fh) {F : Nat} {c : Code} (hl : LOk P fh c) {l m lx mx : List Nat} {n : Nat} (hrun : ∀ k, rounds (roundD g (iCode P h fh F c) (fg2 l m) (fg2 lx mx)) n st k = k e st') : CodeOK P (.loop c) st e st' := by
  have hb : ∀ st k out, roundD g (iCode P h fh F c) (Mu.fg2 l m) (Mu.fg2 lx mx) st k = some out → ∃ e st', CodeOK P c st e st' ∧ k e st' = some out := by
    intro st k out hi
    obtain ⟨e, st', h1, h2⟩ := iCode_sound hr c hl _ _ _ hi
    cases e with
    | normal =>
      obtain ⟨st2, g1, g2⟩ := dropTo_ok g _ (h1.fg2 (l := l) (m := m)) h2
      exact ⟨_, _, g1, g2⟩
    | exit id => exact ⟨_, _, h1.fg2, h2⟩
    | ret => exact ⟨_, _, h1.fg2, h2⟩
    | panic p => exact ⟨_, _, h1.fg2, h2⟩
  classical
  obtain ⟨e2, st2, q, h1, h2⟩ := iLoop_sound hb _ _ _ (.ret .undef []) ((hrun (fun e' s' => if e' = e ∧ s' = st' then some (.ret .undef []) else none)).trans (by simp))
  split at h2
  case isFalse => simp at h2
  rename_i hc
  obtain ⟨rfl, rfl⟩ := hc
  exact fun w a E β ci => wp_loop_rounds q (h1 w a E β ci)
noncomputable abbrev lturnD (g : Nat) (P : Program) (L : Lay) (fh : FH) (f id : Nat) (l m lx mx : List Nat) : St → Kont → Ans := roundD g (iCode P (L.hd P) fh 0 (loopAt id (codeOf P f))) (fg2 l m) (fg2 lx mx)
theorem Lay.OK.toldD {P : Program} {g : Nat} {L : Lay} (h : L.OK P) {fh : FH} {f id n : Nat} {l m lx mx : List Nat} {sp : LSp} (hl : LOk P fh (loopAt id (codeOf P f))) (hs : SpOKM (lturnD g P L fh f id l m lx mx) n l m lx mx sp) : LoopTold P (loopAt id (codeOf P f)) (loopSpecM n l m lx mx sp) := by
  intro st k out hi
  unfold loopSpecM at hi
  rw [Bool.cond_eq_ite] at hi
  split at hi
  case isFalse => simp at hi
  rename_i hc
  simp only [Bool.and_eq_true, beq_iff_eq, List.isEmpty_iff] at hc
  obtain ⟨⟨hc1, hc2⟩, hD⟩ := hc
  obtain ⟨ws, e, vs', bs', H', ws', s1, ⟨q, h1⟩, s2, h2⟩ := hs _ _ _ _ _ hi
  refine ⟨e, _, ?_, h2⟩
  have key : CodeOK P (.loop (loopAt id (codeOf P f))) (stL n l ws m (m.map (fun t => st.B.getD t [])) st.H []) e (stL n lx vs' mx bs' H' []) := loop_runD (regions_ok h.hok _) hl h1
  intro w a E β ci
  have c1 := ci.fg2 (l := l) (m := m)
  rw [fg2_eq hc1 hc2, hD] at c1
  refine wp_mono (key w a E β (c1.stL s1)) (fun x a' w' hx => ?_)
  obtain ⟨E', β', g1, g2, g3, g4⟩ := hx
  exact ⟨E', β', g1, g2.stL s2, g3, g4⟩
end Go.Mu
set_option linter.unusedVariables false
set_option linter.unusedSimpArgs false
set_option maxRecDepth 100000
namespace Go.Mu
open Go Go.Proofs
section
variable {P : Program} {w w' : World} {E E' : Env} {H H' : Heap}
theorem Post.pre {E1 : Env} {H1 : Heap} {o : Out} (ev : Evo No w E H w E1 H1) {e : Ending} {w' : World} (h : Post w E1 H1 o e w') : Post w E H o e w' := by
  cases o with
  | ret v H' =>
    cases e with
    | returned c => obtain ⟨E', g1, g2, g3⟩ := h; exact ⟨E', ev.trans g1 (fun x hx => hx.elim), g2, g3⟩
    | panicked _ => exact h.elim
    | outgrown => exact h.elim
  | panic p H' =>
    cases e with
    | returned _ => exact h.elim
    | panicked ch => obtain ⟨E', c, g0, g1, g2, g3⟩ := h; exact ⟨E', c, g0, ev.trans g1 (fun x hx => hx.elim), g2, g3⟩
    | outgrown => exact h.elim
theorem kill (hs : Sim w E H) {j sz u : Nat} {rows : List (List AVal)} (hj : H[j]? = some (.arr sz rows u)) (hsz : w'.heap.size = w.heap.size) (hb : ∀ b, b ≠ E.φ j ∨ E.cap j = 0 → w'.heap[b]? = w.heap[b]?) (h1 : w'.tape = w.tape) (h2 : w'.os = w.os) (h3 : w'.output = w.output) :
    Evo No w E H w' { E with cap := upd E.cap j 0 } (H.set j (.arr sz [] (u + 1))) ∧ Sim w' { E with cap := upd E.cap j 0 } (H.set j (.arr sz [] (u + 1))) := by
  have hlt := get_lt hj
  have hi := fun l => isVar_setArr (new := []) (u' := u + 1) hj l
  have ha := fun l => arrInfo_setArr (new := []) (u' := u + 1) hj l
  have ce : ∀ l, l ≠ j → upd E.cap j 0 l = E.cap l := fun l hl => upd_other _ _ hl
  have hnv : isVar H j = false := by simp [isVar, hj]
  have hlive : ∀ l, live { E with cap := upd E.cap j 0 } (H.set j (.arr sz [] (u + 1))) l → live E H l ∧ l ≠ j := fun l hl => by
    by_cases e : l = j
    · subst e
      rcases hl with hl | ⟨_, hl⟩
      · rw [hi, hnv] at hl; cases hl
      · simp at hl
    · refine ⟨?_, e⟩
      simp only [live, hi, ha, if_neg e, ce l e] at hl
      exact hl
  have same : ∀ l, live E H l → l ≠ j → w'.heap[E.φ l]? = w.heap[E.φ l]? := fun l hl hne => by
    by_cases hc : E.cap j = 0
    · exact hb _ (.inr hc)
    · exact hb _ (.inl (fun e => hne (hs.inj l j hl (.inr ⟨⟨sz, u, arr_of_get hj⟩, hc⟩) e)))
  have imm : ∀ b, E.imm b → w'.heap[b]? = w.heap[b]? := fun b hbi => by
    by_cases hc : E.cap j = 0
    · exact hb _ (.inr hc)
    · exact hb _ (.inl (fun e => (hs.apart j (.inr ⟨⟨sz, u, arr_of_get hj⟩, hc⟩)).1 (e ▸ hbi)))
  have ev : Evo No w E H w' { E with cap := upd E.cap j 0 } (H.set j (.arr sz [] (u + 1))) := by
    refine ⟨by omega, fun b _ _ hk => ?_, fun b hbi => ⟨hbi, imm b hbi⟩, fun b hbi => .inl hbi, fun l hl => ⟨by rw [hi]; exact hl, rfl⟩, fun l sz' u' hl => ?_, fun l hl => .inr ⟨(hlive l hl).1, rfl⟩, by simp, h1, h2, h3⟩
    · by_cases hc : E.cap j = 0
      · exact hb _ (.inr hc)
      · exact hb _ (.inl (fun e => hk j (.inr ⟨⟨sz, u, arr_of_get hj⟩, hc⟩) e.symm))
    · by_cases e : l = j
      · subst e
        rw [arr_of_get hj] at hl
        simp only [Option.some.injEq, Prod.mk.injEq] at hl
        obtain ⟨rfl, rfl⟩ := hl
        exact ⟨u + 1, by rw [ha, if_pos rfl], by omega, fun h => by omega⟩
      · exact ⟨u', by rw [ha, if_neg e]; exact hl, Nat.le_refl _, fun _ => ⟨ce l e, fun _ => rfl⟩⟩
  have hse := ev.sees
  refine ⟨ev, fun b hbi => by rw [hsz]; exact hs.immLt b hbi, fun l cs hc => ?_, fun l sz' rw' u' hc => ?_, fun l hl => ⟨(hs.apart l (hlive l hl).1).1, by rw [hsz]; exact (hs.apart l (hlive l hl).1).2⟩, fun x y hx hy he => hs.inj x y (hlive x hx).1 (hlive y hy).1 he, fun m t n hm hl => ?_, hs.glob.mono hse.imm⟩
  · by_cases e : l = j
    · subst e; rw [List.getElem?_set_self hlt] at hc; simp at hc
    · rw [List.getElem?_set_ne (Ne.symm e)] at hc
      exact (hs.var l cs hc).mono hse (same l (.inl (var_of_get hc)) e)
  · by_cases e : l = j
    · subst e
      rw [List.getElem?_set_self hlt] at hc
      simp only [Option.some.injEq, Obj.arr.injEq] at hc
      obtain ⟨rfl, rfl, rfl⟩ := hc
      exact ⟨(hs.arr l sz rows u hj).1, Nat.zero_le _, fun r hr => by simp at hr, fun hcap => by simp at hcap⟩
    · rw [List.getElem?_set_ne (Ne.symm e)] at hc
      obtain ⟨g1, g2, g3, g4⟩ := hs.arr l sz' rw' u' hc
      refine ⟨g1, by simp only [ce l e]; exact g2, g3, fun hcap => ?_⟩
      simp only [ce l e] at hcap ⊢
      exact (g4 hcap).mono hse (same l (.inr ⟨⟨sz', u', arr_of_get hc⟩, hcap⟩) e)
  · obtain ⟨g1, g2⟩ := hlive _ hl
    exact (hs.note m t n (get_set_note (fun t n e => by cases e) hm) g1).same (same _ g1 g2)
def isNilL : AVal → Bool
  | .nilX => true
  | .list true 0 _ => true
  | _ => false
theorem isNilL_rep {v : AVal} {c : Value} (h : isNilL v = true) (r : Rep w E H v c) : ∃ a, c = .slice a 0 0 := by
  unfold isNilL at h
  split at h
  · exact ⟨none, rep_nilX r⟩
  · obtain ⟨ad, cap, rfl, hle, hfull, _⟩ := rep_list r
    have := hfull rfl
    subst this
    exact ⟨ad, rfl⟩
  · cases h
theorem relink (hs : Sim w E H) {i c j sz u : Nat} {cs : List AVal} {nx : AVal} {rows : List (List AVal)} (hi : H[i]? = some (.var cs)) (hc : cs[c]? = some nx) (hnx : isNilL nx = true) (hj : H[j]? = some (.arr sz rows u)) :
    Evo No w E H w { E with cap := upd E.cap j 0 } ((H.set j (.arr sz [] (u + 1))).set i (.var (cs.set c (.own j 0 0 (u + 1) false)))) ∧ Sim w { E with cap := upd E.cap j 0 } ((H.set j (.arr sz [] (u + 1))).set i (.var (cs.set c (.own j 0 0 (u + 1) false)))) := by
  obtain ⟨ev, sim⟩ := kill (w' := w) hs hj rfl (fun _ _ => rfl) rfl rfl rfl
  have hij : i ≠ j := fun e => by subst e; rw [hi] at hj; cases hj
  have hi1 : (H.set j (.arr sz [] (u + 1)))[i]? = some (.var cs) := by rw [List.getElem?_set_ne (Ne.symm hij)]; exact hi
  obtain ⟨k1, k2⟩ := set_same_var (new := cs.set c (.own j 0 0 (u + 1) false)) hi1
  have hinfo : arrInfo ((H.set j (.arr sz [] (u + 1))).set i (.var (cs.set c (.own j 0 0 (u + 1) false)))) j = some (sz, u + 1) := by
    rw [k2, arrInfo_setArr hj, if_pos rfl]
  have hse : Sees w { E with cap := upd E.cap j 0 } (H.set j (.arr sz [] (u + 1))) w { E with cap := upd E.cap j 0 } ((H.set j (.arr sz [] (u + 1))).set i (.var (cs.set c (.own j 0 0 (u + 1) false)))) :=
    ⟨fun b hb => ⟨hb, rfl⟩, fun k hk => ⟨by rw [k1]; exact hk, rfl⟩, fun k sz' u' hk => ⟨u', by rw [k2]; exact hk, Nat.le_refl _, fun _ => ⟨rfl, fun _ => rfl⟩⟩⟩
  have sim2 := sim.set (w' := w) (k := i) (obj := .var (cs.set c (.own j 0 0 (u + 1) false))) k1 k2 hse (Nat.le_refl _) (fun _ _ _ => rfl) (fun cs' e => by
    cases e
    obtain ⟨ds, ty, fr, b1, b2, b3, b4⟩ := sim.var i cs hi1
    refine ⟨ds, ty, fr, b1, by simpa using b2, by simpa using b3, fun m v hm => ?_⟩
    replace hm : (cs.set c (.own j 0 0 (u + 1) false))[m]? = some v := hm
    rw [List.getElem?_set] at hm
    by_cases e : c = m
    · subst e
      have hlt : c < cs.length := (List.getElem?_eq_some_iff.1 hc).1
      simp only [if_true, if_pos hlt, Option.some.injEq] at hm
      subst hm
      obtain ⟨x, x1, x2, x3⟩ := b4 c _ hc
      obtain ⟨ad, rfl⟩ := isNilL_rep hnx x3
      exact ⟨_, x1, x2, .own j 0 0 (u + 1) false ad 0 sz (u + 1) hinfo (Nat.le_refl _) (fun _ => ⟨Nat.le_refl _, fun _ => rfl, fun _ _ => by simp, by simp, fun h => by simp at h⟩)⟩
    · rw [if_neg e] at hm
      obtain ⟨x, x1, x2, x3⟩ := b4 m v hm
      exact ⟨x, x1, x2, x3.mono hse⟩) (fun _ _ _ e => by cases e) (fun _ _ e => by cases e) (fun _ _ h => h)
  refine ⟨ev.trans (Y := No) ⟨Nat.le_refl _, fun _ _ _ _ => rfl, fun b hb => ⟨hb, rfl⟩, fun b hb => .inl hb, fun k hk => ⟨by rw [k1]; exact hk, rfl⟩, fun k sz' u' hk => ⟨u', by rw [k2]; exact hk, Nat.le_refl _, fun _ => ⟨rfl, fun _ => rfl⟩⟩, fun k hk => .inr ⟨(live_congr k1 k2 k).1 hk, rfl⟩, by simp, rfl, rfl, rfl⟩ (fun x hx => hx.elim), sim2⟩
def relAt (i c j : Nat) (H : Heap) : Heap := match H[i]?, H[j]? with
  | some (.var cs), some (.arr sz rows u) => match cs[c]? with
    | some x => cond (isNilL x) ((H.set j (.arr sz [] (u + 1))).set i (.var (cs.set c (.own j 0 0 (u + 1) false)))) H
    | _ => H
  | _, _ => H
theorem CallOK.relink {f : FuncId} {xs : List AVal} {o : Out} {i c j sz u : Nat} {cs : List AVal} {nx : AVal} {rows : List (List AVal)} (hi : H[i]? = some (.var cs)) (hc : cs[c]? = some nx) (hnx : isNilL nx = true) (hj : H[j]? = some (.arr sz rows u))
    (h : CallOK P f xs ((H.set j (.arr sz [] (u + 1))).set i (.var (cs.set c (.own j 0 0 (u + 1) false)))) o) : CallOK P f xs H o := by
  intro w E ys sim hlen hr
  obtain ⟨ev, sim2⟩ := Mu.relink sim hi hc hnx hj
  exact Calls.mono (h w _ ys sim2 hlen (fun m hm => (hr m hm).mono ev.sees)) (fun e w' hp => hp.pre ev)
end
theorem relAt_ok {P : Program} {f : FuncId} {xs : List AVal} {H : Heap} {o : Out} {i c j : Nat} (h : CallOK P f xs (relAt i c j H) o) : CallOK P f xs H o := by
  unfold relAt at h
  split at h
  · rename_i h1 h2
    split at h
    · rename_i x h3
      rw [Bool.cond_eq_ite] at h
      split at h
      · rename_i h4
        exact CallOK.relink h1 h3 h4 h2 h
      · exact h
    · exact h
  · exact h
/- String -/
theorem freeze_other {w : World} {g n b : Nat} (h : b ≠ g) : (w.freeze ⟨g, 0, none⟩ n).heap[b]? = w.heap[b]? := by
  unfold World.freeze
  split
  · rfl
  · simp [Array.getElem?_modify, Ne.symm h]
theorem freeze_size {w : World} {g n : Nat} : (w.freeze ⟨g, 0, none⟩ n).heap.size = w.heap.size := by
  unfold World.freeze
  split
  · rfl
  · simp
theorem freeze_rest {w : World} {g n : Nat} : (w.freeze ⟨g, 0, none⟩ n).tape = w.tape ∧ (w.freeze ⟨g, 0, none⟩ n).os = w.os ∧ (w.freeze ⟨g, 0, none⟩ n).output = w.output := by
  unfold World.freeze
  split <;> exact ⟨rfl, rfl, rfl⟩
theorem str_walk {w w1 : World} {b off n cap : Nat} {ad : Option Addr} {pv : Option Addr} {s : ByteArray} (hc : w.cell? ⟨b, off + 1, none⟩ = some (.slice ad n cap))
    (hSD : (Builtin.unsafeSliceData_ #[94] 133 #[.slice ad n cap]).run Tryd.prog w.drew = .ok (.pointer pv) w.drew)
    (hUS : (Builtin.unsafeString_ #[133, 3] 9 #[.pointer pv, .int .i64 n]).run Tryd.prog w.drew = .ok (.string s) w1) :
    Calls Tryd.prog 58 #[.pointer (some ⟨b, off, none⟩)] w fun e w' => e = .returned (.string s) ∧ w' = w1 := by
  have c1 : w.drew.cell? ⟨b, off + 1, none⟩ = some (.slice ad n cap) := hc
  have mixed : Tryd.prog.follows Departure.mixedOrders = true := by kernel_rfl
  go_enter Tryd.func58, Tryd.ntmps58
  go_wp2
  go_region_o
  all_goals (go_wp2; go_ret; exact ⟨rfl, rfl⟩)
end Go.Mu
set_option linter.unusedVariables false
set_option linter.unusedSimpArgs false
set_option maxRecDepth 100000
namespace Go.Mu
open Go Go.Proofs
abbrev bT : Nat := 5
theorem str_ok {H : Heap} {i off j u : Nat} {cs : List AVal} {l : List UInt8} (hi : H[i]? = some (.var cs)) (hc : cs[off + 1]? = some (.own j 0 l.length u false)) (hj : H[j]? = some (.arr 1 (l.map byteRow) u)) (hn : H[j + 1]? = some (.note bT 0)) (h0 : l ≠ []) (hb : l.length ≤ 1099511627776) :
    CallOK Tryd.prog 58 [.ptr (.hp i) off] H (.ret (.str l) (H.set j (.arr 1 [] (u + 1)))) := by
  intro w E ys sim hlen hr
  obtain ⟨y, rfl⟩ : ∃ y, ys = [y] := by
    match ys, hlen with
    | [y], _ => exact ⟨y, rfl⟩
  obtain ⟨e0, hv⟩ := rep_ptrH (hr 0 (by simp))
  replace e0 : y = .pointer (some ⟨E.φ i, off, none⟩) := e0
  subst e0
  obtain ⟨ds, ty, fr, b1, b2, b3, b4⟩ := sim.var i cs hi
  obtain ⟨c, c1, c2, c3⟩ := b4 (off + 1) _ hc
  obtain ⟨ad, cap, sz', u', rfl, ha, hle, hsh⟩ := rep_own c3
  rw [arr_of_get hj] at ha
  simp only [Option.some.injEq, Prod.mk.injEq] at ha
  obtain ⟨rfl, rfl⟩ := ha
  obtain ⟨s1, s2, s3, s4, s5⟩ := hsh rfl
  have hl0 : l.length ≠ 0 := by simpa using h0
  have hcap : E.cap j ≠ 0 := by omega
  have had := s5 hcap (.inl hl0)
  simp only [Nat.zero_mul] at had
  subst had
  obtain ⟨a1, a2, a3, a4⟩ := sim.arr j 1 _ u hj
  obtain ⟨es, ety, efr, g1, g2, g3, g4⟩ := a4 hcap
  have hlv : live E H j := .inr ⟨⟨1, u, arr_of_get hj⟩, hcap⟩
  obtain ⟨ns, nfr, n1, n2⟩ := sim.note (j + 1) bT 0 hn hlv
  simp only [Nat.add_sub_cancel] at n1
  rw [g1] at n1
  simp only [Option.some.injEq, Obj.cells.injEq] at n1
  obtain ⟨rfl, rfl, rfl⟩ := n1
  have hcell : w.cell? ⟨E.φ i, off + 1, none⟩ = some (.slice (some ⟨E.φ j, 0, none⟩) l.length cap) := by
    simp only [World.cell?, b1]; exact c1
  have hbytes : ∀ (k : Nat) (x : UInt8), l[k]? = some x → w.drew.cell? ((⟨E.φ j, 0, none⟩ : Addr).add k) = some (.int .u8 x.toNat) := fun k x hx => by
    obtain ⟨d, d1, d2, d3⟩ := g4 k (.int .u8 x.toNat) (by
      unfold cellAt
      simp only [Nat.div_one, Nat.mod_one, List.getElem?_map, hx, Option.map_some, Option.bind_some]
      rfl)
    have hd : d = .int .u8 x.toNat := by
      cases d3 with
      | pure _ _ h => cases h; rfl
    subst hd
    have : w.drew.heap[E.φ j]? = some (.cells es bT efr) := g1
    simp only [World.cell?, addr_add, Nat.zero_add, this]
    exact d1
  have hkl : l.length ≤ es.size := by simp at a2; omega
  have walk := str_walk (w := w) (b := E.φ i) (off := off) (pv := some ⟨E.φ j, 0, none⟩) (s := ⟨l.toArray⟩) (w1 := w.drew.freeze ⟨E.φ j, 0, none⟩ l.length) hcell
    (Lib.run_unsafeSliceData_row _ _ _ _ _ _ (show cap ≠ 0 by omega))
    (Lib.run_unsafeString_row (w := w.drew) 133 3 9 bT (by kernel_rfl) (by kernel_rfl) (E.φ j) es.size (by
      have : w.drew.heap[E.φ j]? = some (.cells es bT efr) := g1
      simp [World.shape?, this]) l h0 hkl (by omega) hbytes)
  refine Calls.mono walk (fun e w' hp => ?_)
  obtain ⟨rfl, rfl⟩ := hp
  obtain ⟨f1, f2, f3⟩ := freeze_rest (w := w.drew) (g := E.φ j) (n := l.length)
  obtain ⟨ev, sim'⟩ := kill (w' := w.drew.freeze ⟨E.φ j, 0, none⟩ l.length) sim hj freeze_size (fun b hb => by
    rcases hb with hb | hb
    · exact freeze_other (w := w.drew) hb
    · exact absurd hb hcap) f1 f2 f3
  exact ⟨_, ev, sim', .pure _ _ (by have := RepP.str (w := w.drew.freeze ⟨E.φ j, 0, none⟩ l.length) (imm := E.imm) ⟨l.toArray⟩; simpa using this)⟩
def bytesOf (rows : List (List AVal)) : List UInt8 := rows.map byteOf
theorem byteOf_row (c : UInt8) : byteOf (byteRow c) = c := by
  simp [byteOf, byteRow, intOf]
theorem bytesOf_map (l : List UInt8) : bytesOf (l.map byteRow) = l := by
  unfold bytesOf
  rw [List.map_map]
  conv => rhs; rw [← List.map_id l]
  exact List.map_congr_left (fun a _ => byteOf_row a)
theorem str_ok0 {H : Heap} {i off : Nat} {cs : List AVal} (hi : H[i]? = some (.var cs)) (hc : cs[off + 1]? = some .nilX) :
    CallOK Tryd.prog 58 [.ptr (.hp i) off] H (.ret (.str []) H) := by
  intro w E ys sim hlen hr
  obtain ⟨y, rfl⟩ : ∃ y, ys = [y] := by
    match ys, hlen with
    | [y], _ => exact ⟨y, rfl⟩
  obtain ⟨e0, hv⟩ := rep_ptrH (hr 0 (by simp))
  replace e0 : y = .pointer (some ⟨E.φ i, off, none⟩) := e0
  subst e0
  obtain ⟨ds, ty, fr, b1, b2, b3, b4⟩ := sim.var i cs hi
  obtain ⟨c, c1, c2, c3⟩ := b4 (off + 1) _ hc
  obtain rfl := rep_nilX c3
  have hcell : w.cell? ⟨E.φ i, off + 1, none⟩ = some (.slice none 0 0) := by
    simp only [World.cell?, b1]; exact c1
  have walk := str_walk (w := w) (b := E.φ i) (off := off) (pv := none) (s := .empty) (w1 := w.drew) hcell
    (Lib.run_unsafeSliceData_nil _ _ _ _ _) (Lib.run_unsafeString_none _ _ _ _ _)
  refine Calls.mono walk (fun e w' hp => ?_)
  obtain ⟨rfl, rfl⟩ := hp
  have ev : Evo No w E H w.drew E H := ⟨Nat.le_refl _, fun _ _ _ _ => rfl, fun b hb => ⟨hb, rfl⟩, fun b hb => .inl hb, fun k hk => ⟨hk, rfl⟩, fun k sz u hk => ⟨u, hk, Nat.le_refl _, fun _ => ⟨rfl, fun _ => rfl⟩⟩, fun k hk => .inr ⟨hk, rfl⟩, Nat.le_refl _, rfl, rfl, rfl⟩
  exact ⟨E, ev, sim.keep ev.sees (fun _ _ => rfl) (Nat.le_refl _), .pure _ _ (by have := RepP.str (w := w.drew) (imm := E.imm) .empty; simpa using this)⟩
end Go.Mu
set_option linter.unusedVariables false
set_option linter.unusedSimpArgs false
set_option maxRecDepth 100000
set_option maxHeartbeats 2000000
namespace Go.Mu
open Go Go.Proofs
structure ItemD where
  kind : Int
  text : List UInt8
  at_ : Int
def bfB (j : Nat) (text : List UInt8) (v : Nat) : AVal := match text with
  | [] => .nilX
  | c :: t => .own j 0 (c :: t).length v false
/- WriteString -/
noncomputable def layW0 : Lay := Lay.nil.addL 92 { nils := [14] }
structure SpH where
  U0 : Obj
  U1 : Obj
  U2 : Obj
  s : List UInt8
  o : AVal
  ad : AVal
  b : AVal
  a : Int
  tr : Bool
  O : Obj
  rows : List (List AVal)
  v : Nat
abbrev cs3 (H : Heap) : List AVal := cellsO (H.getD 3 (.var []))
def wsV (text l : List UInt8) (v : Nat) : Nat := bif text == [] then (bif l == [] then v else v + 2) else v + 1
theorem layW0_ok : layW0.OK Tryd.prog := Lay.nil_ok.addN (by kernel_rfl)
theorem e_map (l : List UInt8) : List.map (fun c : UInt8 => [AVal.int IntKind.u8 (c.toNat : Int)]) l = l.map byteRow := rfl
end Go.Mu
set_option linter.unusedVariables false
set_option linter.unusedSimpArgs false
set_option maxRecDepth 100000
namespace Go.Mu
open Go Go.Proofs
/- octets -/
def orI (n : Int) : Int := IntKind.u8.wrap (BitVec.ofInt 8 n ||| BitVec.ofInt 8 32).toNat
def ltrI (n : Int) : Bool := decide (orI n ≥ 97) && decide (orI n ≤ 122)
def ltr (c : UInt8) : Bool := (decide (97 ≤ c.toNat) && decide (c.toNat ≤ 122)) || (decide (65 ≤ c.toNat) && decide (c.toNat ≤ 90))
theorem ltrI_eq (c : UInt8) : ltrI (c.toNat : Int) = ltr c := by
  have h : ∀ n : Fin 256, ltrI ((UInt8.ofNat n).toNat : Int) = ltr (UInt8.ofNat n) := by decide +kernel
  have := h ⟨c.toNat, c.toNat_lt⟩
  simpa using this
def dig (c : UInt8) : Bool := decide (48 ≤ c.toNat) && decide (c.toNat ≤ 57)
def nmC (c : UInt8) : Bool := ltr c || c == 95 || dig c
theorem letter_fun (n : Int) (k : Out → Ans) : iFun Tryd.prog (Lay.nil.hd Tryd.prog) Lay.nil.fhs 0 82 [.int .u8 n] [] k = (
 let n0 : Int := IntKind.u8.wrap (↑(BitVec.ofInt 8 n ||| BitVec.ofInt 8 32).toNat : Int);
  k (Out.ret (AVal.bool (bif decide (n0 ≥ 97) then decide (n0 ≤ 122) else false)) [])) := by kernel_rfl
def letTold : FSp := mkFS [.i .u8] (fun _ => true) (fun xs k => k (.ret (.bool (ltrI (aI xs 0))) []))
theorem letTold_ok : ∀ xs H k out, letTold xs H k = some out → ∃ o, CallOK Tryd.prog 82 xs H o ∧ k o = some out := mkFS_ok fun ys xs e h => by
  obtain ⟨n, rfl⟩ : ∃ n, xs = [.int .u8 n] := ⟨_, e⟩
  refine ⟨_, fun k => rfl, Lay.nil_ok.callF (G := []) rfl (fun k => ?_)⟩
  rw [letter_fun]
  simp only [ltrI, bif_and]
  rfl
theorem gec {c : UInt8} {n : Nat} : decide ((c.toNat : Int) ≥ no_index (@OfNat.ofNat Int n _)) = decide (n ≤ c.toNat) := by
  have e : (@OfNat.ofNat Int n _) = ((n : Nat) : Int) := rfl
  rw [e]; exact decide_eq_decide.2 (by omega)
theorem lec {c : UInt8} {n : Nat} : decide ((c.toNat : Int) ≤ no_index (@OfNat.ofNat Int n _)) = decide (c.toNat ≤ n) := by
  have e : (@OfNat.ofNat Int n _) = ((n : Nat) : Int) := rfl
  rw [e]; exact decide_eq_decide.2 (by omega)
theorem ltc {c : UInt8} {n : Nat} : decide ((c.toNat : Int) < no_index (@OfNat.ofNat Int n _)) = !decide (n ≤ c.toNat) := by
  have e : (@OfNat.ofNat Int n _) = ((n : Nat) : Int) := rfl
  rw [e, ← decide_not]; exact decide_eq_decide.2 (by omega)
theorem gtc {c : UInt8} {n : Nat} : decide ((c.toNat : Int) > no_index (@OfNat.ofNat Int n _)) = !decide (c.toNat ≤ n) := by
  have e : (@OfNat.ofNat Int n _) = ((n : Nat) : Int) := rfl
  rw [e, ← decide_not]; exact decide_eq_decide.2 (by omega)
theorem nmC_eq (c : UInt8) : (ltr c || c == 95 || (decide (48 ≤ c.toNat) && decide (c.toNat ≤ 57))) = nmC c := rfl
/- the words' heap -/
abbrev wsT : Nat := 83
abbrev wdT : Nat := 62
abbrev HwP (U0 U1 U2 : Obj) (s : List UInt8) (base a : Int) (o : AVal) (O : Obj) : Heap := [U0, U1, U2, .var [.str s, .int .i64 base, .int .i64 a, o], .note wsT 4, O, .note wdT 0]
structure WdH where
  U0 : Obj
  U1 : Obj
  U2 : Obj
  s : List UInt8
  base : Int
  a : Int
  o : AVal
  O : Obj
abbrev WdH.heap (x : WdH) : Heap := HwP x.U0 x.U1 x.U2 x.s x.base x.a x.o x.O
def WdH.dec (H : Heap) : WdH := ⟨H.getD 0 (.var []), H.getD 1 (.var []), H.getD 2 (.var []), strOf ((cs3 H).getD 0 .undef), intOf ((cs3 H).getD 1 .undef), intOf ((cs3 H).getD 2 .undef), (cs3 H).getD 3 .undef, H.getD 5 (.var [])⟩
def WdOk (x : WdH) : Prop := x.s.length ≤ 1073741824 ∧ 0 ≤ x.base ∧ x.base ≤ 1099511627776
abbrev flt (at_ e : Int) : AVal := .iface 79 (.agg [.int .i64 at_, .int .i64 e])
/- run -/
def runN (t : List UInt8) : Nat := (t.takeWhile nmC).length
noncomputable def runSp : LSp := mkL (fun vs _ H => (WdH.dec H, (aI vs 1).toNat)) (fun x => WdOk x.1 ∧ x.2 ≤ x.1.s.length) (fun x => [.ptr (.hp 3) 0, .int .i64 x.2]) (fun _ => []) (fun x => x.1.heap) (fun x k => k (.exit 0) [.int .i64 ((x.2 + runN (x.1.s.drop x.2) : Nat) : Int)] [] x.1.heap)
noncomputable def runFH : FH := .of [(1, loopSpec 51 [0,1] [] [1] [] runSp)]
noncomputable def layD1 : Lay := layX3.addF 82 letTold
theorem layD1_ok : layD1.OK Tryd.prog := layX3_ok.addF letTold_ok
theorem run_step (U0 U1 U2 : Obj) (s : List UInt8) (base a : Int) (o : AVal) (O : Obj) (i : Int) (D : List (FuncId × List AVal)) (k : Kont) : lturn Tryd.prog layD1 runFH 144 1 [0,1] [] [1] [] (stL 51 [0,1] [.ptr (.hp 3) 0, .int .i64 i] [] [] (HwP U0 U1 U2 s base a o O) D) k = (
 let c0 : Bool := decide (i < (↑s.length : Int));
 let c1 : Bool := decide (0 ≤ i) && c0;
 let n2 : Int := (↑(s.getD i.toNat 0).toNat : Int);
 let c3 : Bool := ltrI n2;
 let c4 : Bool := bif c3 then true else n2 == 95;
 let c5 : Bool := c0 && !c4;
 let c6 : Bool := decide (n2 ≥ 48);
  bif c1 || !c0 then
  bif c1 || !(c0 && !c3) then
  bif c1 || !c5 then
  bif c1 || !(c5 && c6) then
  bif bif c0 then bif c4 then true else bif c6 then decide (n2 ≤ 57) else false else false then
  k AExit.normal
  (stL 51 [0, 1] [AVal.ptr (Oid.hp 3) 0, AVal.int IntKind.i64 (IntKind.i64.wrap (i + 1))] [] []
  (HwP U0 U1 U2 s base a o O) D)
  else k (AExit.exit 0) (stL 51 [1] [AVal.int IntKind.i64 i] [] [] (HwP U0 U1 U2 s base a o O) D)
  else none
  else none
  else none
  else none) := by kernel_rfl
theorem runN_cons (c : UInt8) (t : List UInt8) : runN (c :: t) = bif nmC c then runN t + 1 else 0 := by
  unfold runN
  rw [List.takeWhile_cons]
  cases nmC c <;> simp
theorem runN_le (t : List UInt8) : runN t ≤ t.length := by
  unfold runN
  exact (List.takeWhile_prefix nmC).length_le
theorem run_runs (x : WdH) (hx : WdOk x) : ∀ (m i : Nat), x.s.length - i ≤ m → i ≤ x.s.length → LoopRuns (lturn Tryd.prog layD1 runFH 144 1 [0,1] [] [1] []) 51 [0,1] [] [1] [] [.ptr (.hp 3) 0, .int .i64 i] [] x.heap (.exit 0) [.int .i64 ((i + runN (x.s.drop i) : Nat) : Int)] [] x.heap := by
  obtain ⟨U0, U1, U2, s, base, a, o, O⟩ := x
  obtain ⟨h1, h2, h3⟩ := hx
  simp only at h1 h2 h3 ⊢
  intro m
  induction m with
  | zero =>
    intro i hm hi
    have e : s.drop i = [] := List.drop_eq_nil_of_le (by omega)
    rw [e]
    refine .stop (by simp) (fun D k => ?_)
    rw [run_step]
    simp (disch := omega) only [dF, cond_false, Bool.and_false, Bool.false_and, Bool.not_false, Bool.or_true, cond_true]
    rfl
  | succ m ih =>
    intro i hm hi
    by_cases hlt : i < s.length
    · have key := fun D k => run_step U0 U1 U2 s base a o O i D k
      have e2 : (i : Int) + 1 = ((i + 1 : Nat) : Int) := by omega
      simp (disch := first | omega | decide) only [Int.toNat_natCast, dT, cond_true, Bool.true_and, Bool.true_or, Bool.and_true, Bool.and_self, eqc, gec, lec, ltrI_eq, bif_or, bif_and, nmC_eq, wrap_of, e2] at key
      have ih2 := ih (i + 1) (by omega) (by omega)
      rw [drop_cons_of s i 0 hlt, runN_cons]
      cases hc : nmC (s.getD i 0) with
      | true =>
        simp only [hc, cond_true] at key
        rw [show i + 1 + runN (s.drop (i + 1)) = i + (runN (s.drop (i + 1)) + 1) by omega] at ih2
        exact .step key ih2
      | false =>
        simp only [hc, cond_false] at key
        exact .stop (by simp) key
    · have e : s.drop i = [] := List.drop_eq_nil_of_le (by omega)
      rw [e]
      refine .stop (by simp) (fun D k => ?_)
      rw [run_step]
      simp (disch := omega) only [dF, cond_false, Bool.and_false, Bool.false_and, Bool.not_false, Bool.or_true, cond_true]
      rfl
theorem runSp_ok : SpOK (lturn Tryd.prog layD1 runFH 144 1 [0,1] [] [1] []) 51 [0,1] [] [1] [] runSp := mkL_ok fun a h => ⟨_, _, _, _, fun k => rfl, run_runs a.1 h.1 _ a.2 (Nat.le_refl _) h.2⟩
noncomputable def layD2 : Lay := layD1.addL 144 runFH
theorem layD2_ok : layD2.OK Tryd.prog := layD1_ok.loop1 (id := 1) (by kernel_rfl) (by kernel_rfl) (by kernel_rfl) runSp_ok
theorem run_fun (U0 U1 U2 : Obj) (s : List UInt8) (base a : Int) (o : AVal) (O : Obj) (i : Int) (k : Out → Ans) : iFun Tryd.prog (layD2.hd Tryd.prog) layD2.fhs 0 144 [.ptr (.hp 3) 0, .int .i64 i] (HwP U0 U1 U2 s base a o O) k = (
  bif
  tst
  ((WdOk (WdH.mk U0 U1 U2 s base a o O) ∧ i.toNat ≤ s.length) ∧
  SubTL [AVal.ptr (Oid.hp 3) 0, AVal.int IntKind.i64 i]
  [AVal.ptr (Oid.hp 3) 0, AVal.int IntKind.i64 (↑i.toNat : Int)] ∧
  ([] : List (List AVal)) = [] ∧ HwP U0 U1 U2 s base a o O = (WdH.mk U0 U1 U2 s base a o O).heap) then
  k (Out.ret (AVal.int IntKind.i64 (↑(i.toNat + runN (List.drop i.toNat s)) : Int)) (WdH.mk U0 U1 U2 s base a o O).heap)
  else none) := by kernel_rfl
noncomputable def runTold : FSp := mkF (fun xs H => (WdH.dec H, (aI xs 1).toNat)) (fun x => WdOk x.1 ∧ x.2 ≤ x.1.s.length) (fun x => [.ptr (.hp 3) 0, .int .i64 x.2]) (fun x => x.1.heap) (fun x k => k (.ret (.int .i64 ((x.2 + runN (x.1.s.drop x.2) : Nat) : Int)) x.1.heap))
theorem runTold_ok : ∀ xs H k out, runTold xs H k = some out → ∃ o, CallOK Tryd.prog 144 xs H o ∧ k o = some out := mkF_ok fun x h => ⟨_, fun k => rfl, layD2_ok.call (fun k => by
  obtain ⟨⟨U0, U1, U2, s, base, a, o, O⟩, i⟩ := x
  show iFun _ _ _ 0 _ _ (HwP U0 U1 U2 s base a o O) k = _
  rw [run_fun]
  simp only [Int.toNat_natCast]
  refine (congrArg (fun c => cond c _ none) (tst_true ⟨h, .refl _, by trivial, by trivial⟩)).trans ?_
  rfl)⟩
noncomputable def layD3 : Lay := layD1.addF 144 runTold
theorem layD3_ok : layD3.OK Tryd.prog := layD1_ok.addF runTold_ok
theorem id_fun (U0 U1 U2 : Obj) (s : List UInt8) (base a : Int) (o : AVal) (O : Obj) (f at_ : Int) (k : Out → Ans) : iFun Tryd.prog (layD3.hd Tryd.prog) layD3.fhs 0 83 [.ptr (.hp 3) 0, .int .i64 f, .int .i64 at_] (HwP U0 U1 U2 s base a o O) k = (
 let c0 : Bool := decide (0 ≤ f) && decide (f < (↑s.length : Int));
 let n1 : Int := (↑(f.toNat + runN (List.drop f.toNat s)) : Int);
 let c2 : Bool := decide (n1 > f);
 let n3 : Int := (↑(s.getD f.toNat 0).toNat : Int);
 let c4 : Bool := decide (n3 < 48);
  bif
  tst
  ((WdOk (WdH.mk U0 U1 U2 s base a o O) ∧ f.toNat ≤ s.length) ∧
  SubL [AVal.ptr (Oid.hp 3) 0, AVal.int IntKind.i64 f]
  [AVal.ptr (Oid.hp 3) 0, AVal.int IntKind.i64 (↑f.toNat : Int)] ∧
  HwP U0 U1 U2 s base a o O = (WdH.mk U0 U1 U2 s base a o O).heap) then
  bif c0 || !c2 then
  bif c0 || !(c2 && !c4) then
  bif !bif c2 then bif c4 then true else decide (n3 > 57) else false then
  k
  (Out.panic
  (AVal.iface 79 (AVal.agg [AVal.int IntKind.i64 (IntKind.i64.wrap (base + at_)), AVal.int IntKind.i64 33]))
  (WdH.mk U0 U1 U2 s base a o O).heap)
  else
  bif !decide (IntKind.i64.wrap (n1 - f) ≤ 32) then
  k
  (Out.panic
  (AVal.iface 79 (AVal.agg [AVal.int IntKind.i64 (IntKind.i64.wrap (base + at_)), AVal.int IntKind.i64 5]))
  (WdH.mk U0 U1 U2 s base a o O).heap)
  else k (Out.ret (AVal.int IntKind.i64 n1) (WdH.mk U0 U1 U2 s base a o O).heap)
  else none
  else none
  else none) := by kernel_rfl
def idE (t : List UInt8) : Int := bif !(decide (0 < runN t) && !dig (t.getD 0 0)) then 33 else bif !decide (runN t ≤ 32) then 5 else 0
noncomputable def idTold : FSp := mkF (fun xs H => (WdH.dec H, (aI xs 1).toNat, (aI xs 2).toNat)) (fun x => WdOk x.1 ∧ x.2.1 ≤ x.1.s.length ∧ x.2.2 ≤ x.1.s.length) (fun x => [.ptr (.hp 3) 0, .int .i64 x.2.1, .int .i64 x.2.2]) (fun x => x.1.heap)
  (fun x k => cond (idE (x.1.s.drop x.2.1) == 0) (k (.ret (.int .i64 ((x.2.1 + runN (x.1.s.drop x.2.1) : Nat) : Int)) x.1.heap)) (k (.panic (flt (x.1.base + x.2.2) (idE (x.1.s.drop x.2.1))) x.1.heap)))
theorem id_call (x : WdH) (f at_ : Nat) (hx : WdOk x) (hf : f ≤ x.s.length) (ha : at_ ≤ x.s.length) (k : Out → Ans) : iFun Tryd.prog (layD3.hd Tryd.prog) layD3.fhs 0 83 [.ptr (.hp 3) 0, .int .i64 f, .int .i64 at_] x.heap k =
    cond (idE (x.s.drop f) == 0) (k (.ret (.int .i64 ((f + runN (x.s.drop f) : Nat) : Int)) x.heap)) (k (.panic (flt (x.base + at_) (idE (x.s.drop f))) x.heap)) := by
  obtain ⟨U0, U1, U2, s, base, a, o, O⟩ := x
  have hx' := hx
  obtain ⟨h1, h2, h3⟩ := hx'
  simp only at h1 h2 h3 hf ha ⊢
  have hr := runN_le (s.drop f)
  rw [List.length_drop] at hr
  have key := id_fun U0 U1 U2 s base a o O f at_ k
  rw [key]
  clear key
  simp only [Int.toNat_natCast]
  refine (congrArg (fun c => cond c _ none) (tst_true ⟨⟨hx, hf⟩, .refl _, by trivial⟩)).trans ?_
  simp (disch := omega) only [cond_true, eqc, gtc, ltc, wrap_of]
  have hg : (s.drop f).getD 0 0 = s.getD f 0 := by rw [List.getD_drop]; rfl
  unfold idE
  rw [hg]
  generalize s.getD f 0 = c
  by_cases h0 : 0 < runN (s.drop f)
  · rw [dT (show ((f + runN (s.drop f) : Nat) : Int) > f by omega), dT h0]
    simp (disch := omega) only [dT, Bool.and_self, Bool.true_or, cond_true, Bool.true_and]
    have e : (bif !decide (48 ≤ c.toNat) then true else !decide (c.toNat ≤ 57)) = !dig c := by
      unfold dig
      cases decide (48 ≤ c.toNat) <;> cases decide (c.toNat ≤ 57) <;> rfl
    rw [e]
    cases dig c with
    | true => rfl
    | false =>
      simp only [Bool.not_false, Bool.not_true, cond_false]
      have e5 : decide (((f + runN (s.drop f) : Nat) : Int) - f ≤ 32) = decide (runN (s.drop f) ≤ 32) := decide_eq_decide.2 (by omega)
      rw [e5]
      cases decide (runN (s.drop f) ≤ 32) <;> rfl
  · rw [dF (show ¬ ((f + runN (s.drop f) : Nat) : Int) > f by omega), dF h0]
    simp only [Bool.not_false, Bool.or_true, cond_true, cond_false, Bool.false_and]
    rfl
theorem idTold_ok : ∀ xs H k out, idTold xs H k = some out → ∃ o, CallOK Tryd.prog 83 xs H o ∧ k o = some out := mkF_ok fun x h => by
  have key := fun k => id_call x.1 x.2.1 x.2.2 h.1 h.2.1 h.2.2 k
  show ∃ o, (∀ k : Out → Ans, cond (idE (x.1.s.drop x.2.1) == 0) _ _ = k o) ∧ _
  cases hb : idE (x.1.s.drop x.2.1) == 0 with
  | true => simp only [hb, cond_true] at key; exact ⟨_, fun k => rfl, layD3_ok.call key⟩
  | false => simp only [hb, cond_false] at key; exact ⟨_, fun k => rfl, layD3_ok.call key⟩
noncomputable def layD4 : Lay := (layX3.addF 82 letTold).addF 83 idTold
theorem layD4_ok : layD4.OK Tryd.prog := (layX3_ok.addF letTold_ok).addF idTold_ok
def dotsM : Nat → List UInt8 → Int × Nat
  | 0, _ => (0, 0)
  | m + 1, t => bif decide (1 < t.length) && t.getD 0 0 == 46 then
      (bif idE (t.drop 1) == 0 then ((dotsM m (t.drop (1 + runN (t.drop 1)))).1, 1 + runN (t.drop 1) + (dotsM m (t.drop (1 + runN (t.drop 1)))).2) else (idE (t.drop 1), 0))
      else (0, 0)
noncomputable def dotsSp : LSp := mkL (fun vs _ H => (WdH.dec H, (aI vs 1).toNat, (aI vs 2).toNat)) (fun x => WdOk x.1 ∧ x.2.1 ≤ x.1.s.length ∧ x.2.2 ≤ x.1.s.length) (fun x => [.ptr (.hp 3) 0, .int .i64 x.2.1, .int .i64 x.2.2]) (fun _ => []) (fun x => x.1.heap)
  (fun x k => cond ((dotsM x.1.s.length (x.1.s.drop x.2.1)).1 == 0) (k (.exit 0) [.int .i64 ((x.2.1 + (dotsM x.1.s.length (x.1.s.drop x.2.1)).2 : Nat) : Int)] [] x.1.heap) (k (.panic (flt (x.1.base + x.2.2) (dotsM x.1.s.length (x.1.s.drop x.2.1)).1)) [.undef] [] x.1.heap))
noncomputable def dotsFH : FH := .of [(1, loopSpec 30 [0,1,2] [] [1] [] dotsSp)]
theorem dots_step (U0 U1 U2 : Obj) (s : List UInt8) (base a : Int) (o : AVal) (O : Obj) (i at_ : Int) (D : List (FuncId × List AVal)) (k : Kont) : lturn Tryd.prog layD4 dotsFH 145 1 [0,1,2] [] [1] [] (stL 30 [0,1,2] [.ptr (.hp 3) 0, .int .i64 i, .int .i64 at_] [] [] (HwP U0 U1 U2 s base a o O) D) k = (
 let n0 : Int := (↑s.length : Int);
 let n1 : Int := IntKind.i64.wrap (i + 1);
 let c2 : Bool := decide (n1 < n0);
 let m3 : Nat := n1.toNat;
 let n4 : Int := (↑at_.toNat : Int);
 let l5 : List UInt8 := List.drop m3 s;
 let n6 : Int := idE l5;
  bif decide (0 ≤ i) && decide (i < n0) || !c2 then
  bif bif c2 then (↑(s.getD i.toNat 0).toNat : Int) == 46 else false then
  bif
  tst
  ((WdOk (WdH.mk U0 U1 U2 s base a o O) ∧ m3 ≤ s.length ∧ at_.toNat ≤ s.length) ∧
  SubL [AVal.ptr (Oid.hp 3) 0, AVal.int IntKind.i64 n1, AVal.int IntKind.i64 at_]
  [AVal.ptr (Oid.hp 3) 0, AVal.int IntKind.i64 (↑m3 : Int), AVal.int IntKind.i64 n4] ∧
  HwP U0 U1 U2 s base a o O = (WdH.mk U0 U1 U2 s base a o O).heap) then
  bif n6 == 0 then
  k AExit.normal
  (stL 30 [0, 1, 2]
  [AVal.ptr (Oid.hp 3) 0, AVal.int IntKind.i64 (↑(m3 + runN l5) : Int), AVal.int IntKind.i64 at_] [] []
  (WdH.mk U0 U1 U2 s base a o O).heap D)
  else k (AExit.panic (flt (base + n4) n6)) (stL 30 [1] [AVal.undef] [] [] (WdH.mk U0 U1 U2 s base a o O).heap D)
  else none
  else k (AExit.exit 0) (stL 30 [1] [AVal.int IntKind.i64 i] [] [] (HwP U0 U1 U2 s base a o O) D)
  else none) := by kernel_rfl
theorem dotsM_fuel : ∀ (m n : Nat) (t : List UInt8), t.length ≤ m → t.length ≤ n → dotsM m t = dotsM n t
  | 0, 0, _, _, _ => rfl
  | 0, n + 1, t, h, _ => by
    have : t = [] := List.eq_nil_of_length_eq_zero (by omega)
    subst this; rfl
  | m + 1, 0, t, _, h => by
    have : t = [] := List.eq_nil_of_length_eq_zero (by omega)
    subst this; rfl
  | m + 1, n + 1, t, h1, h2 => by
    have hd : (t.drop (1 + runN (t.drop 1))).length = t.length - (1 + runN (t.drop 1)) := by simp
    by_cases h0 : t.length = 0
    · have : t = [] := List.eq_nil_of_length_eq_zero h0
      subst this; rfl
    · rw [dotsM, dotsM, dotsM_fuel m n _ (by omega) (by omega)]
theorem dotsM_le : ∀ (m : Nat) (t : List UInt8), (dotsM m t).2 ≤ t.length
  | 0, t => Nat.zero_le _
  | m + 1, t => by
    rw [dotsM]
    have := dotsM_le m (t.drop (1 + runN (t.drop 1)))
    have hr := runN_le (t.drop 1)
    rw [List.length_drop] at this hr
    cases hc : decide (1 < t.length) && t.getD 0 0 == 46 with
    | false => exact Nat.zero_le _
    | true =>
      rw [Bool.and_eq_true, decide_eq_true_eq] at hc
      cases idE (t.drop 1) == 0 with
      | false => exact Nat.zero_le _
      | true => simp only [cond_true]; omega
theorem dots_runs (x : WdH) (hx : WdOk x) (at_ : Nat) (ha : at_ ≤ x.s.length) : ∀ (m i : Nat), x.s.length - i ≤ m → i ≤ x.s.length →
    ((dotsM m (x.s.drop i)).1 = 0 → LoopRuns (lturn Tryd.prog layD4 dotsFH 145 1 [0,1,2] [] [1] []) 30 [0,1,2] [] [1] [] [.ptr (.hp 3) 0, .int .i64 i, .int .i64 at_] [] x.heap (.exit 0) [.int .i64 ((i + (dotsM m (x.s.drop i)).2 : Nat) : Int)] [] x.heap) ∧
    ((dotsM m (x.s.drop i)).1 ≠ 0 → LoopRuns (lturn Tryd.prog layD4 dotsFH 145 1 [0,1,2] [] [1] []) 30 [0,1,2] [] [1] [] [.ptr (.hp 3) 0, .int .i64 i, .int .i64 at_] [] x.heap (.panic (flt (x.base + at_) (dotsM m (x.s.drop i)).1)) [.undef] [] x.heap) := by
  have hx' := hx
  obtain ⟨U0, U1, U2, s, base, a, o, O⟩ := x
  obtain ⟨h1, h2, h3⟩ := hx'
  simp only at h1 h2 h3 ha ⊢
  intro m
  induction m with
  | zero =>
    intro i hm hi
    have e : s.drop i = [] := List.drop_eq_nil_of_le (by omega)
    rw [e]
    refine ⟨fun _ => .stop (by simp) (fun D k => ?_), fun h => absurd rfl h⟩
    rw [dots_step]
    simp (disch := omega) only [wrap_of]
    simp (disch := omega) only [dF, cond_false, Bool.and_false, Bool.false_and, Bool.not_false, Bool.or_true, cond_true]
    rfl
  | succ m ih =>
    intro i hm hi
    have key := fun D k => dots_step U0 U1 U2 s base a o O i at_ D k
    have e2 : (i : Int) + 1 = ((i + 1 : Nat) : Int) := by omega
    simp (disch := omega) only [wrap_of, e2, Int.toNat_natCast] at key
    have eg : (s.drop i).getD 0 0 = s.getD i 0 := by rw [List.getD_drop]; rfl
    have el : (s.drop i).length = s.length - i := by simp
    have ed : (s.drop i).drop 1 = s.drop (i + 1) := by rw [List.drop_drop]
    rw [dotsM, eg, el, ed]
    by_cases hlt : i + 1 < s.length
    · rw [dT (show 1 < s.length - i by omega), Bool.true_and]
      simp (disch := first | omega | decide) only [dT, cond_true, Bool.true_and, Bool.true_or, Bool.and_self, eqc] at key
      cases hc : s.getD i 0 == 46 with
      | false =>
        simp only [hc, cond_false] at key
        exact ⟨fun _ => .stop (by simp) key, fun h => absurd rfl h⟩
      | true =>
        simp only [hc, cond_true] at key
        have hr := runN_le (s.drop (i + 1))
        rw [List.length_drop] at hr
        have key2 := fun D k => (key D k).trans ((congrArg (fun c => cond c _ none) (tst_true ⟨⟨hx, show i + 1 ≤ s.length by omega, ha⟩, .refl _, by trivial⟩)).trans rfl)
        clear key
        have ih2 := ih (i + 1 + runN (s.drop (i + 1))) (by omega) (by omega)
        have edd : (s.drop i).drop (1 + runN (s.drop (i + 1))) = s.drop (i + 1 + runN (s.drop (i + 1))) := by rw [List.drop_drop]; congr 1; omega
        rw [edd]
        cases he : idE (s.drop (i + 1)) == 0 with
        | true =>
          simp only [he, cond_true] at key2 ⊢
          rw [show i + 1 + runN (s.drop (i + 1)) + (dotsM m (s.drop (i + 1 + runN (s.drop (i + 1))))).2 = i + (1 + runN (s.drop (i + 1)) + (dotsM m (s.drop (i + 1 + runN (s.drop (i + 1))))).2) by omega] at ih2
          exact ⟨fun h => .step key2 (ih2.1 h), fun h => .step key2 (ih2.2 h)⟩
        | false =>
          simp only [he, cond_false] at key2 ⊢
          refine ⟨fun h => absurd (show (idE (s.drop (i + 1)) == 0) = true from beq_iff_eq.2 h) (by rw [he]; decide), fun _ => .stop (by simp) key2⟩
    · rw [dF (show ¬ 1 < s.length - i by omega)]
      simp (disch := omega) only [dF, cond_false, Bool.and_false, Bool.false_and, Bool.not_false, Bool.or_true, cond_true] at key
      exact ⟨fun _ => .stop (by simp) key, fun h => absurd rfl h⟩
theorem dotsSp_ok : SpOK (lturn Tryd.prog layD4 dotsFH 145 1 [0,1,2] [] [1] []) 30 [0,1,2] [] [1] [] dotsSp := mkL_ok fun a h => by
  have key := dots_runs a.1 h.1 a.2.2 h.2.2 a.1.s.length a.2.1 (by omega) h.2.1
  show ∃ e vs bs H, (∀ k : AExit → List AVal → List (List AVal) → Heap → Ans, cond ((dotsM a.1.s.length (a.1.s.drop a.2.1)).1 == 0) _ _ = k e vs bs H) ∧ _
  cases hb : (dotsM a.1.s.length (a.1.s.drop a.2.1)).1 == 0 with
  | true => exact ⟨_, _, _, _, fun k => rfl, key.1 (by simpa using hb)⟩
  | false => exact ⟨_, _, _, _, fun k => rfl, key.2 (by simpa using hb)⟩
noncomputable def layD5 : Lay := layD4.addL 145 dotsFH
theorem layD5_ok : layD5.OK Tryd.prog := layD4_ok.loop1 (id := 1) (by kernel_rfl) (by kernel_rfl) (by kernel_rfl) dotsSp_ok
theorem dots_fun (U0 U1 U2 : Obj) (s : List UInt8) (base a : Int) (o : AVal) (O : Obj) (f at_ : Int) (k : Out → Ans) : iFun Tryd.prog (layD5.hd Tryd.prog) layD5.fhs 0 145 [.ptr (.hp 3) 0, .int .i64 f, .int .i64 at_] (HwP U0 U1 U2 s base a o O) k = (
 let n0 : Int := (↑at_.toNat : Int);
 let n1 : Int := (dotsM s.length (List.drop f.toNat s)).fst;
  bif
  tst
  ((WdOk (WdH.mk U0 U1 U2 s base a o O) ∧ f.toNat ≤ s.length ∧ at_.toNat ≤ s.length) ∧
  SubTL [AVal.ptr (Oid.hp 3) 0, AVal.int IntKind.i64 f, AVal.int IntKind.i64 at_]
  [AVal.ptr (Oid.hp 3) 0, AVal.int IntKind.i64 (↑f.toNat : Int), AVal.int IntKind.i64 n0] ∧
  ([] : List (List AVal)) = [] ∧ HwP U0 U1 U2 s base a o O = (WdH.mk U0 U1 U2 s base a o O).heap) then
  bif n1 == 0 then
  k
  (Out.ret (AVal.int IntKind.i64 (↑(f.toNat + (dotsM s.length (List.drop f.toNat s)).snd) : Int))
  (WdH.mk U0 U1 U2 s base a o O).heap)
  else k (Out.panic (flt (base + n0) n1) (WdH.mk U0 U1 U2 s base a o O).heap)
  else none) := by kernel_rfl
noncomputable def dotsTold : FSp := mkF (fun xs H => (WdH.dec H, (aI xs 1).toNat, (aI xs 2).toNat)) (fun x => WdOk x.1 ∧ x.2.1 ≤ x.1.s.length ∧ x.2.2 ≤ x.1.s.length) (fun x => [.ptr (.hp 3) 0, .int .i64 x.2.1, .int .i64 x.2.2]) (fun x => x.1.heap)
  (fun x k => cond ((dotsM x.1.s.length (x.1.s.drop x.2.1)).1 == 0) (k (.ret (.int .i64 ((x.2.1 + (dotsM x.1.s.length (x.1.s.drop x.2.1)).2 : Nat) : Int)) x.1.heap)) (k (.panic (flt (x.1.base + x.2.2) (dotsM x.1.s.length (x.1.s.drop x.2.1)).1) x.1.heap)))
theorem dotsTold_ok : ∀ xs H k out, dotsTold xs H k = some out → ∃ o, CallOK Tryd.prog 145 xs H o ∧ k o = some out := mkF_ok fun x h => by
  obtain ⟨⟨U0, U1, U2, s, base, a, o, O⟩, f, at_⟩ := x
  have key := fun k => dots_fun U0 U1 U2 s base a o O f at_ k
  simp only [Int.toNat_natCast] at key
  replace key := fun k => (key k).trans ((congrArg (fun c => cond c _ none) (tst_true ⟨h, .refl _, by trivial, by trivial⟩)).trans rfl)
  show ∃ o, (∀ k : Out → Ans, cond ((dotsM s.length (s.drop f)).1 == 0) _ _ = k o) ∧ _
  cases hb : (dotsM s.length (s.drop f)).1 == 0 with
  | true => simp only [hb, cond_true] at key; exact ⟨_, fun k => rfl, layD5_ok.call key⟩
  | false => simp only [hb, cond_false, cond_true] at key; exact ⟨_, fun k => rfl, layD5_ok.call key⟩
noncomputable def layD6 : Lay := layD4.addF 145 dotsTold
theorem layD6_ok : layD6.OK Tryd.prog := layD4_ok.addF dotsTold_ok
theorem dot_fun (U0 U1 U2 : Obj) (s : List UInt8) (base a : Int) (o : AVal) (O : Obj) (at_ : Int) (k : Out → Ans) : iFun Tryd.prog (layD6.hd Tryd.prog) layD6.fhs 0 84 [.ptr (.hp 3) 0, .int .i64 at_] (HwP U0 U1 U2 s base a o O) k = (
 let n0 : Int := IntKind.i64.wrap (at_ + 1);
 let c1 : Bool := decide (n0 < (↑s.length : Int));
 let c2 : Bool := decide (0 ≤ n0) && c1;
 let n3 : Int := (↑(s.getD n0.toNat 0).toNat : Int);
 let c4 : Bool := ltrI n3;
 let n5 : Int := (↑at_.toNat : Int);
 let n6 : Int := (dotsM s.length (List.drop at_.toNat s)).fst;
  bif c2 || !c1 then
  bif c2 || !(c1 && !c4) then
  bif bif c1 then bif c4 then true else n3 == 95 else false then
  bif
  tst
  ((WdOk (WdH.mk U0 U1 U2 s base a o O) ∧ at_.toNat ≤ s.length ∧ at_.toNat ≤ s.length) ∧
  SubL [AVal.ptr (Oid.hp 3) 0, AVal.int IntKind.i64 at_, AVal.int IntKind.i64 at_]
  [AVal.ptr (Oid.hp 3) 0, AVal.int IntKind.i64 n5, AVal.int IntKind.i64 n5] ∧
  HwP U0 U1 U2 s base a o O = (WdH.mk U0 U1 U2 s base a o O).heap) then
  bif n6 == 0 then
  k
  (Out.ret (AVal.int IntKind.i64 (↑(at_.toNat + (dotsM s.length (List.drop at_.toNat s)).snd) : Int))
  (WdH.mk U0 U1 U2 s base a o O).heap)
  else k (Out.panic (flt (base + n5) n6) (WdH.mk U0 U1 U2 s base a o O).heap)
  else none
  else k (Out.ret (AVal.int IntKind.i64 n0) (HwP U0 U1 U2 s base a o O))
  else none
  else none) := by kernel_rfl
theorem dollar_fun (U0 U1 U2 : Obj) (s : List UInt8) (base a : Int) (o : AVal) (O : Obj) (at_ : Int) (k : Out → Ans) : iFun Tryd.prog (layD6.hd Tryd.prog) layD6.fhs 0 85 [.ptr (.hp 3) 0, .int .i64 at_] (HwP U0 U1 U2 s base a o O) k = (
 let n0 : Int := IntKind.i64.wrap (at_ + 1);
 let c1 : Bool := decide (n0 < (↑s.length : Int));
 let c2 : Bool := decide (0 ≤ n0) && c1;
 let m3 : Nat := n0.toNat;
 let n4 : Int := (↑(s.getD m3 0).toNat : Int);
 let c5 : Bool := ltrI n4;
 let n6 : Int := (↑at_.toNat : Int);
 let c7 : Bool :=
  tst
  ((WdOk (WdH.mk U0 U1 U2 s base a o O) ∧ m3 ≤ s.length ∧ at_.toNat ≤ s.length) ∧
  SubL [AVal.ptr (Oid.hp 3) 0, AVal.int IntKind.i64 n0, AVal.int IntKind.i64 at_]
  [AVal.ptr (Oid.hp 3) 0, AVal.int IntKind.i64 (↑m3 : Int), AVal.int IntKind.i64 n6] ∧
  HwP U0 U1 U2 s base a o O = (WdH.mk U0 U1 U2 s base a o O).heap);
 let l8 : List UInt8 := List.drop m3 s;
 let n9 : Int := idE l8;
 let n10 : Int := (↑(m3 + runN l8) : Int);
 let m11 : Nat := n10.toNat;
 let n12 : Int := (dotsM s.length (List.drop m11 s)).fst;
 let n13 : Int := base + n6;
 let n14 : Int := (dotsM s.length l8).fst;
  bif c2 || !c1 then
  bif c2 || !(c1 && !c5) then
  bif bif c1 then bif c5 then true else n4 == 95 else false then
  bif c7 then
  bif n9 == 0 then
  bif
  tst
  ((WdOk (WdH.mk U0 U1 U2 s base a o O) ∧ m11 ≤ s.length ∧ at_.toNat ≤ s.length) ∧
  SubL [AVal.ptr (Oid.hp 3) 0, AVal.int IntKind.i64 n10, AVal.int IntKind.i64 at_]
  [AVal.ptr (Oid.hp 3) 0, AVal.int IntKind.i64 (↑m11 : Int), AVal.int IntKind.i64 n6] ∧
  (WdH.mk U0 U1 U2 s base a o O).heap = (WdH.mk U0 U1 U2 s base a o O).heap) then
  bif n12 == 0 then
  k
  (Out.ret (AVal.int IntKind.i64 (↑(m11 + (dotsM s.length (List.drop m11 s)).snd) : Int))
  (WdH.mk U0 U1 U2 s base a o O).heap)
  else k (Out.panic (flt n13 n12) (WdH.mk U0 U1 U2 s base a o O).heap)
  else none
  else k (Out.panic (flt n13 n9) (WdH.mk U0 U1 U2 s base a o O).heap)
  else none
  else
  bif c7 then
  bif n14 == 0 then
  k (Out.ret (AVal.int IntKind.i64 (↑(m3 + (dotsM s.length l8).snd) : Int)) (WdH.mk U0 U1 U2 s base a o O).heap)
  else k (Out.panic (flt n13 n14) (WdH.mk U0 U1 U2 s base a o O).heap)
  else none
  else none
  else none) := by kernel_rfl
def hd1 (t : List UInt8) : Bool := decide (1 < t.length) && (ltr (t.getD 1 0) || t.getD 1 0 == 95)
def dotM (t : List UInt8) : Int × Nat := bif hd1 t then dotsM t.length t else (0, 1)
def dollarM (t : List UInt8) : Int × Nat :=
  bif hd1 t then (bif idE (t.drop 1) == 0 then ((dotsM t.length (t.drop (1 + runN (t.drop 1)))).1, 1 + runN (t.drop 1) + (dotsM t.length (t.drop (1 + runN (t.drop 1)))).2) else (idE (t.drop 1), 0))
  else ((dotsM t.length (t.drop 1)).1, 1 + (dotsM t.length (t.drop 1)).2)
noncomputable def cutTold' (M : List UInt8 → Int × Nat) : FSp := mkF (fun xs H => (WdH.dec H, (aI xs 1).toNat)) (fun x => WdOk x.1 ∧ x.2 < x.1.s.length) (fun x => [.ptr (.hp 3) 0, .int .i64 x.2]) (fun x => x.1.heap)
  (fun x k => cond ((M (x.1.s.drop x.2)).1 == 0) (k (.ret (.int .i64 ((x.2 + (M (x.1.s.drop x.2)).2 : Nat) : Int)) x.1.heap)) (k (.panic (flt (x.1.base + x.2) (M (x.1.s.drop x.2)).1) x.1.heap)))
theorem cutTold'_ok {f : FuncId} {M : List UInt8 → Int × Nat} {L : Lay} (hL : L.OK Tryd.prog) (h : ∀ (x : WdH) (at_ : Nat), WdOk x → at_ < x.s.length → ∀ k, iFun Tryd.prog (L.hd Tryd.prog) L.fhs 0 f [.ptr (.hp 3) 0, .int .i64 at_] x.heap k =
    cond ((M (x.s.drop at_)).1 == 0) (k (.ret (.int .i64 ((at_ + (M (x.s.drop at_)).2 : Nat) : Int)) x.heap)) (k (.panic (flt (x.base + at_) (M (x.s.drop at_)).1) x.heap))) :
    ∀ xs H k out, cutTold' M xs H k = some out → ∃ o, CallOK Tryd.prog f xs H o ∧ k o = some out := mkF_ok fun x hx => by
  have key := h x.1 x.2 hx.1 hx.2
  show ∃ o, (∀ k : Out → Ans, cond ((M (x.1.s.drop x.2)).1 == 0) _ _ = k o) ∧ _
  cases hb : (M (x.1.s.drop x.2)).1 == 0 with
  | true => simp only [hb, cond_true] at key; exact ⟨_, fun k => rfl, hL.call key⟩
  | false => simp only [hb, cond_false] at key; exact ⟨_, fun k => rfl, hL.call key⟩
theorem hd1_drop (s : List UInt8) (at_ : Nat) : hd1 (s.drop at_) = (decide (((at_ + 1 : Nat) : Int) < s.length) && (ltr (s.getD (at_ + 1) 0) || s.getD (at_ + 1) 0 == 95)) := by
  unfold hd1
  rw [List.getD_drop, List.length_drop]
  rw [show decide (1 < s.length - at_) = decide (((at_ + 1 : Nat) : Int) < s.length) from decide_eq_decide.2 (by omega)]
theorem dot_call (x : WdH) (at_ : Nat) (hx : WdOk x) (ha : at_ < x.s.length) (k : Out → Ans) : iFun Tryd.prog (layD6.hd Tryd.prog) layD6.fhs 0 84 [.ptr (.hp 3) 0, .int .i64 at_] x.heap k =
    cond ((dotM (x.s.drop at_)).1 == 0) (k (.ret (.int .i64 ((at_ + (dotM (x.s.drop at_)).2 : Nat) : Int)) x.heap)) (k (.panic (flt (x.base + at_) (dotM (x.s.drop at_)).1) x.heap)) := by
  have hx' := hx
  obtain ⟨U0, U1, U2, s, base, a, o, O⟩ := x
  obtain ⟨h1, h2, h3⟩ := hx'
  simp only at h1 h2 h3 ha ⊢
  have e2 : (at_ : Int) + 1 = ((at_ + 1 : Nat) : Int) := by omega
  rw [dot_fun]
  have hf := dotsM_fuel s.length (s.drop at_).length (s.drop at_) (by simp) (Nat.le_refl _)
  unfold dotM
  rw [hd1_drop, ← hf]
  simp (disch := first | omega | decide) only [wrap_of, e2, Int.toNat_natCast, ltrI_eq, eqc, bif_or, bif_and]
  by_cases hlt : ((at_ + 1 : Nat) : Int) < s.length
  · simp (disch := omega) only [dT, Bool.true_and, Bool.true_or, cond_true]
    cases hc : ltr (s.getD (at_ + 1) 0) || s.getD (at_ + 1) 0 == 95 with
    | true =>
      simp only [cond_true]
      exact (congrArg (fun c => cond c _ none) (tst_true ⟨⟨hx, show at_ ≤ s.length by omega, by omega⟩, .refl _, by trivial⟩)).trans rfl
    | false => rfl
  · simp (disch := omega) only [dF, Bool.false_and, Bool.and_false, Bool.not_false, Bool.or_true, cond_true, cond_false]
    rfl
theorem dollar_call (x : WdH) (at_ : Nat) (hx : WdOk x) (ha : at_ < x.s.length) (k : Out → Ans) : iFun Tryd.prog (layD6.hd Tryd.prog) layD6.fhs 0 85 [.ptr (.hp 3) 0, .int .i64 at_] x.heap k =
    cond ((dollarM (x.s.drop at_)).1 == 0) (k (.ret (.int .i64 ((at_ + (dollarM (x.s.drop at_)).2 : Nat) : Int)) x.heap)) (k (.panic (flt (x.base + at_) (dollarM (x.s.drop at_)).1) x.heap)) := by
  have hx' := hx
  obtain ⟨U0, U1, U2, s, base, a, o, O⟩ := x
  obtain ⟨h1, h2, h3⟩ := hx'
  simp only at h1 h2 h3 ha ⊢
  have e2 : (at_ : Int) + 1 = ((at_ + 1 : Nat) : Int) := by omega
  rw [dollar_fun]
  unfold dollarM
  have ed : (s.drop at_).drop 1 = s.drop (at_ + 1) := by rw [List.drop_drop]
  have hr := runN_le (s.drop (at_ + 1))
  rw [List.length_drop] at hr
  rw [hd1_drop, ed]
  simp (disch := first | omega | decide) only [wrap_of, e2, Int.toNat_natCast, ltrI_eq, eqc, bif_or, bif_and]
  by_cases hlt : ((at_ + 1 : Nat) : Int) < s.length
  · simp (disch := omega) only [dT, Bool.true_and, Bool.true_or, cond_true]
    have ed2 : (s.drop at_).drop (1 + runN (s.drop (at_ + 1))) = s.drop (at_ + 1 + runN (s.drop (at_ + 1))) := by rw [List.drop_drop]; congr 1; omega
    rw [ed2, dotsM_fuel (s.drop at_).length s.length (s.drop (at_ + 1 + runN (s.drop (at_ + 1)))) (by simp; omega) (by simp), dotsM_fuel (s.drop at_).length s.length (s.drop (at_ + 1)) (by simp; omega) (by simp)]
    cases hc : ltr (s.getD (at_ + 1) 0) || s.getD (at_ + 1) 0 == 95 with
    | true =>
      simp only [cond_true]
      refine (congrArg (fun c => cond c _ none) (tst_true ⟨⟨hx, show at_ + 1 ≤ s.length by omega, by omega⟩, .refl _, by trivial⟩)).trans ?_
      simp only [cond_true]
      cases he : idE (s.drop (at_ + 1)) == 0 with
      | true =>
        simp only [cond_true]
        refine (congrArg (fun c => cond c _ none) (tst_true ⟨⟨hx, show at_ + 1 + runN (s.drop (at_ + 1)) ≤ s.length by omega, by omega⟩, .refl _, by trivial⟩)).trans ?_
        simp only [cond_true]
        rw [show at_ + 1 + runN (s.drop (at_ + 1)) + (dotsM s.length (s.drop (at_ + 1 + runN (s.drop (at_ + 1))))).2 = at_ + (1 + runN (s.drop (at_ + 1)) + (dotsM s.length (s.drop (at_ + 1 + runN (s.drop (at_ + 1))))).2) by omega]
      | false => simp only [cond_false, he]
    | false =>
      simp only [cond_false]
      refine (congrArg (fun c => cond c _ none) (tst_true ⟨⟨hx, show at_ + 1 ≤ s.length by omega, by omega⟩, .refl _, by trivial⟩)).trans ?_
      simp only [cond_true]
      rw [show at_ + 1 + (dotsM s.length (s.drop (at_ + 1))).2 = at_ + (1 + (dotsM s.length (s.drop (at_ + 1))).2) by omega]
  · simp (disch := omega) only [dF, Bool.false_and, Bool.and_false, Bool.not_false, Bool.or_true, cond_true, cond_false]
    rw [dotsM_fuel (s.drop at_).length s.length (s.drop (at_ + 1)) (by simp; omega) (by simp)]
    refine (congrArg (fun c => cond c _ none) (tst_true ⟨⟨hx, show at_ + 1 ≤ s.length by omega, by omega⟩, .refl _, by trivial⟩)).trans ?_
    simp only [cond_true]
    rw [show at_ + 1 + (dotsM s.length (s.drop (at_ + 1))).2 = at_ + (1 + (dotsM s.length (s.drop (at_ + 1))).2) by omega]
end Go.Mu
set_option linter.unusedVariables false
set_option linter.unusedSimpArgs false
set_option maxRecDepth 100000
namespace Go.Mu
open Go Go.Proofs
noncomputable def layN1 : Lay := layX3.addF 225 ixfTold
theorem layN1_ok : layN1.OK Tryd.prog := layX3_ok.addF ixfTold_ok
theorem wrapU {n : Int} (h1 : 0 ≤ n) (h2 : n ≤ 18446744073709551615) : IntKind.u64.wrap n = n := by
  simp [IntKind.wrap, IntKind.signed, IntKind.bits]
  omega
theorem wrapB {n : Int} (h1 : 0 ≤ n) (h2 : n ≤ 255) : IntKind.u8.wrap n = n := by
  simp [IntKind.wrap, IntKind.signed, IntKind.bits]
  omega
theorem wrapI {n : Int} (h1 : -9223372036854775808 ≤ n) (h2 : n ≤ 9223372036854775807) : IntKind.i64.wrap n = n := by
  simp [IntKind.wrap, IntKind.signed, IntKind.bits]
  omega
def numL : Nat → List UInt8 → Bool × Nat
  | n, [] => (false, n)
  | n, c :: t => bif decide (n * 10 + (c.toNat - 48) > 9223372036854775808) then (true, n) else numL (n * 10 + (c.toNat - 48)) t
abbrev byL (f : Bool) (l : List UInt8) : AVal := .list f l.length (fun i => byteRow (l.getD i 0))
def Digs (l : List UInt8) : Prop := ∀ c ∈ l, dig c = true
structure NuA where
  b : Bool
  n : Nat
  f : Bool
  l : List UInt8
  i : Nat
  H : Heap
noncomputable def numSp : LSp := mkL (fun vs _ H => NuA.mk (aB vs 0) (aI vs 1).toNat (fullOf (vs.getD 2 .undef)) (decL decB (vs.getD 2 .undef)) (aI vs 4).toNat H) (fun a => a.i ≤ a.l.length ∧ a.l.length ≤ 1099511627776 ∧ a.n ≤ 9223372036854775808 ∧ Digs a.l) (fun a => [.bool a.b, .int .u64 a.n, byL a.f a.l, .int .i64 a.l.length, .int .i64 a.i]) (fun _ => []) (fun a => a.H)
  (fun a k => cond (numL a.n (a.l.drop a.i)).1 (k .ret [.int .i64 0, .int .i64 4, .bool a.b, .int .u64 (numL a.n (a.l.drop a.i)).2] [] a.H) (k (.exit 0) [.undef, .undef, .bool a.b, .int .u64 (numL a.n (a.l.drop a.i)).2] [] a.H))
noncomputable def numFH : FH := .of [(8, loopSpec 63 [5,6,34,35,36] [] [2,3,5,6] [] numSp)]
theorem num_step (b : Bool) (n : Int) (f : Bool) (l : List UInt8) (m i : Int) (H : Heap) (D : List (FuncId × List AVal)) (k : Kont) : lturn Tryd.prog layN1 numFH 142 8 [5,6,34,35,36] [] [2,3,5,6] [] (stL 63 [5,6,34,35,36] [.bool b, .int .u64 n, byL f l, .int .i64 m, .int .i64 i] [] [] H D) k = (
 let n0 : Int := IntKind.u64.wrap (IntKind.u8.wrap ((↑(l.getD i.toNat 0).toNat : Int) - 48));
 let n1 : Int := IntKind.u64.wrap (9223372036854775808 - n0);
  bif decide (i < m) then
  bif decide (0 ≤ i) && decide (i < (↑l.length : Int)) then
  bif !(n1 == n1 && false) then
  bif decide (n > IntKind.u64.wrap (n1.tdiv 10)) then
  k AExit.ret
  (stL 63 [2, 3, 5, 6] [AVal.int IntKind.i64 0, AVal.int IntKind.i64 4, AVal.bool b, AVal.int IntKind.u64 n] []
  [] H D)
  else
  k AExit.normal
  (stL 63 [5, 6, 34, 35, 36]
  [AVal.bool b, AVal.int IntKind.u64 (IntKind.u64.wrap (IntKind.u64.wrap (n * 10) + n0)),
  AVal.list f l.length fun (i : Nat) => [AVal.int IntKind.u8 (↑(l.getD i 0).toNat : Int)],
  AVal.int IntKind.i64 m, AVal.int IntKind.i64 (IntKind.i64.wrap (i + 1))]
  [] [] H D)
  else none
  else none
  else k (AExit.exit 0) (stL 63 [2, 3, 5, 6] [AVal.undef, AVal.undef, AVal.bool b, AVal.int IntKind.u64 n] [] [] H D)) := by kernel_rfl
theorem num_runs (b f : Bool) (l : List UInt8) (hl : l.length ≤ 1099511627776) (hd : ∀ c ∈ l, dig c = true) (H : Heap) : ∀ (m i n : Nat), l.length - i ≤ m → i ≤ l.length → n ≤ 9223372036854775808 →
    ((numL n (l.drop i)).1 = true → LoopRuns (lturn Tryd.prog layN1 numFH 142 8 [5,6,34,35,36] [] [2,3,5,6] []) 63 [5,6,34,35,36] [] [2,3,5,6] [] [.bool b, .int .u64 n, byL f l, .int .i64 l.length, .int .i64 i] [] H .ret [.int .i64 0, .int .i64 4, .bool b, .int .u64 (numL n (l.drop i)).2] [] H) ∧
    ((numL n (l.drop i)).1 = false → LoopRuns (lturn Tryd.prog layN1 numFH 142 8 [5,6,34,35,36] [] [2,3,5,6] []) 63 [5,6,34,35,36] [] [2,3,5,6] [] [.bool b, .int .u64 n, byL f l, .int .i64 l.length, .int .i64 i] [] H (.exit 0) [.undef, .undef, .bool b, .int .u64 (numL n (l.drop i)).2] [] H) := by
  intro m
  induction m with
  | zero =>
    intro i n hm hi hn
    have e : l.drop i = [] := List.drop_eq_nil_of_le (by omega)
    rw [e]
    refine ⟨fun h => by simp [numL] at h, fun _ => .stop (by simp) (fun D k => ?_)⟩
    rw [num_step]
    simp (disch := omega) only [dF, cond_false]
    rfl
  | succ m ih =>
    intro i n hm hi hn
    by_cases hlt : i < l.length
    · have key := fun D k => num_step b n f l l.length i H D k
      have ed := drop_cons_of l i 0 hlt
      have hc := hd (l.getD i 0) (by rw [List.getD_eq_getElem?_getD, List.getElem?_eq_getElem hlt]; exact List.getElem_mem _)
      have e2 : IntKind.i64.wrap ((i : Int) + 1) = ((i + 1 : Nat) : Int) := by rw [wrap_of (by omega) (by omega)]; omega
      rw [ed, numL]
      simp only [Int.toNat_natCast, e2] at key
      obtain ⟨c, hcc⟩ : ∃ c, c = l.getD i 0 := ⟨_, rfl⟩
      simp only [← hcc] at key hc ⊢
      unfold dig at hc
      rw [Bool.and_eq_true, decide_eq_true_eq, decide_eq_true_eq] at hc
      have e3 : IntKind.u64.wrap (IntKind.u8.wrap ((c.toNat : Int) - 48)) = ((c.toNat - 48 : Nat) : Int) := by rw [wrapB (by omega) (by omega), wrapU (by omega) (by omega)]; omega
      obtain ⟨d, hd'⟩ : ∃ d, d = c.toNat - 48 := ⟨_, rfl⟩
      rw [← hd'] at e3
      simp only [← hd'] at key ⊢
      simp only [e3] at key
      have e4 : IntKind.u64.wrap (9223372036854775808 - (d : Int)) = 9223372036854775808 - (d : Int) := wrapU (by omega) (by omega)
      simp only [e4, Bool.and_false, Bool.not_false, cond_true] at key
      have e5 : (9223372036854775808 - (d : Int)).tdiv 10 = (9223372036854775808 - (d : Int)) / 10 := Int.tdiv_eq_ediv_of_nonneg (by omega)
      have e6 : decide ((n : Int) > IntKind.u64.wrap ((9223372036854775808 - (d : Int)).tdiv 10)) = decide (n * 10 + d > 9223372036854775808) := by
        rw [e5, wrapU (by omega) (by omega)]
        exact decide_eq_decide.2 (by omega)
      simp only [e6] at key
      simp (disch := omega) only [dT, cond_true, Bool.and_self] at key
      by_cases hov : n * 10 + d > 9223372036854775808
      · simp (disch := omega) only [dT, cond_true] at key ⊢
        exact ⟨fun _ => .stop (by simp) key, fun h => by cases h⟩
      · have e7 : IntKind.u64.wrap (IntKind.u64.wrap ((n : Int) * 10) + (d : Int)) = ((n * 10 + d : Nat) : Int) := by
          rw [wrapU (n := (n : Int) * 10) (by omega) (by omega), wrapU (by omega) (by omega)]; omega
        simp (disch := omega) only [dF, cond_false, e7] at key ⊢
        have := ih (i + 1) (n * 10 + d) (by omega) (by omega) (by omega)
        exact ⟨fun h => .step key (this.1 h), fun h => .step key (this.2 h)⟩
    · have e : l.drop i = [] := List.drop_eq_nil_of_le (by omega)
      rw [e]
      refine ⟨fun h => by simp [numL] at h, fun _ => .stop (by simp) (fun D k => ?_)⟩
      rw [num_step]
      simp (disch := omega) only [dF, cond_false]
      rfl
theorem numSp_ok : SpOK (lturn Tryd.prog layN1 numFH 142 8 [5,6,34,35,36] [] [2,3,5,6] []) 63 [5,6,34,35,36] [] [2,3,5,6] [] numSp := mkL_ok fun a h => by
  have key := num_runs a.b a.f a.l h.2.1 h.2.2.2 a.H _ a.i a.n (Nat.le_refl _) h.1 h.2.2.1
  show ∃ e vs bs H, (∀ k : AExit → List AVal → List (List AVal) → Heap → Ans, cond (numL a.n (a.l.drop a.i)).1 _ _ = k e vs bs H) ∧ _
  cases hb : (numL a.n (a.l.drop a.i)).1 with
  | true => exact ⟨_, _, _, _, fun k => rfl, key.1 hb⟩
  | false => exact ⟨_, _, _, _, fun k => rfl, key.2 hb⟩
noncomputable def layN2 : Lay := layN1.addL 142 numFH
theorem layN2_ok : layN2.OK Tryd.prog := layN1_ok.loop1 (id := 8) (by kernel_rfl) (by kernel_rfl) (by kernel_rfl) numSp_ok
theorem num_fun (s : List UInt8) (k : Out → Ans) (n0 : Int) (e_n0 : n0 = ((↑s.length : Int)))
  (c1 : Bool) (e_c1 : c1 = (decide (Lib.idxFunc ndR true (ByteArray.mk (Array.mk s)) ≥ 0)))
  (l2 : List UInt8) (e_l2 : l2 = (decL (fun (r : List AVal) => byteOf r)
    (AVal.list false s.length fun (i : Nat) => [AVal.int IntKind.u8 (↑(s.getD i 0).toNat : Int)])))
  (m3 : Nat) (e_m3 : m3 = (l2.length))
  (n4 : Int) (e_n4 : n4 = ((↑(numL (Int.toNat 0) (List.drop (Int.toNat 0) l2)).snd : Int)))
  (l5 : List UInt8) (e_l5 : l5 = (List.drop (Int.toNat 1) (List.take n0.toNat s)))
  (m6 : Nat) (e_m6 : m6 = (l5.length))
  (n7 : Int) (e_n7 : n7 = ((↑m6 : Int)))
  (c8 : Bool) (e_c8 : c8 = (decide (Lib.idxFunc ndR true (ByteArray.mk (Array.mk l5)) ≥ 0)))
  (l9 : List UInt8) (e_l9 : l9 = (decL (fun (r : List AVal) => byteOf r)
    (AVal.list false m6 fun (i : Nat) =>
      [AVal.int IntKind.u8 (↑((List.drop (Int.toNat 1) (List.take (↑s.length : Int).toNat s)).getD i 0).toNat : Int)])))
  (m10 : Nat) (e_m10 : m10 = (l9.length)) : iFun Tryd.prog (layN2.hd Tryd.prog) layN2.fhs 0 142 [.str s] [] k = (
  bif ![45].isPrefixOf s then
  bif s == [] then k (Out.ret (AVal.tuple [AVal.int IntKind.i64 0, AVal.int IntKind.i64 8]) [])
  else
  bif decide (0 < n0) || !!c1 then
  bif bif c1 then true else bif (↑(s.getD 0 0).toNat : Int) == 48 then decide (n0 > 1) else false then
  k (Out.ret (AVal.tuple [AVal.int IntKind.i64 0, AVal.int IntKind.i64 33]) [])
  else
  bif
  tst
  ((Int.toNat 0 ≤ m3 ∧ m3 ≤ 1099511627776 ∧ Int.toNat 0 ≤ 9223372036854775808 ∧ Digs l2) ∧
  SubTL
  [AVal.bool false, AVal.int IntKind.u64 0,
  AVal.list false s.length fun (i : Nat) => [AVal.int IntKind.u8 (↑(s.getD i 0).toNat : Int)],
  AVal.int IntKind.i64 n0, AVal.int IntKind.i64 0]
  [AVal.bool false, AVal.int IntKind.u64 (↑(Int.toNat 0) : Int), byL false l2,
  AVal.int IntKind.i64 (↑m3 : Int), AVal.int IntKind.i64 (↑(Int.toNat 0) : Int)] ∧
  ([] : List (List AVal)) = [] ∧ ([] : Heap) = []) then
  bif (numL (Int.toNat 0) (List.drop (Int.toNat 0) l2)).fst then
  k (Out.ret (AVal.tuple [AVal.int IntKind.i64 0, AVal.int IntKind.i64 4]) [])
  else
  bif decide (n4 > 9223372036854775807) then
  k (Out.ret (AVal.tuple [AVal.int IntKind.i64 0, AVal.int IntKind.i64 4]) [])
  else k (Out.ret (AVal.tuple [AVal.int IntKind.i64 (IntKind.i64.wrap n4), AVal.int IntKind.i64 0]) [])
  else none
  else none
  else
  bif decide (1 ≤ n0) && decide (n0 ≤ n0) then
  bif l5 == [] then k (Out.ret (AVal.tuple [AVal.int IntKind.i64 0, AVal.int IntKind.i64 8]) [])
  else
  bif decide (0 < n7) || !!c8 then
  bif bif c8 then true else bif (↑(l5.getD 0 0).toNat : Int) == 48 then true else false then
  k (Out.ret (AVal.tuple [AVal.int IntKind.i64 0, AVal.int IntKind.i64 33]) [])
  else
  bif
  tst
  ((Int.toNat 0 ≤ m10 ∧ m10 ≤ 1099511627776 ∧ Int.toNat 0 ≤ 9223372036854775808 ∧ Digs l9) ∧
  SubTL
  [AVal.bool true, AVal.int IntKind.u64 0,
  AVal.list false m6 fun (i : Nat) =>
  [AVal.int IntKind.u8
  (↑((List.drop (Int.toNat 1) (List.take (↑s.length : Int).toNat s)).getD i 0).toNat :
  Int)],
  AVal.int IntKind.i64 n7, AVal.int IntKind.i64 0]
  [AVal.bool true, AVal.int IntKind.u64 (↑(Int.toNat 0) : Int), byL false l9,
  AVal.int IntKind.i64 (↑m10 : Int), AVal.int IntKind.i64 (↑(Int.toNat 0) : Int)] ∧
  ([] : List (List AVal)) = [] ∧ ([] : Heap) = []) then
  bif (numL (Int.toNat 0) (List.drop (Int.toNat 0) l9)).fst then
  k (Out.ret (AVal.tuple [AVal.int IntKind.i64 0, AVal.int IntKind.i64 4]) [])
  else
  k
  (Out.ret
  (AVal.tuple
  [AVal.int IntKind.i64
  (IntKind.i64.wrap
  (IntKind.u64.wrap (0 - (↑(numL (Int.toNat 0) (List.drop (Int.toNat 0) l9)).snd : Int)))),
  AVal.int IntKind.i64 0])
  [])
  else none
  else none
  else none) := by
  subst e_n0 e_c1 e_l2 e_m3 e_n4 e_l5 e_m6 e_n7 e_c8 e_l9 e_m10
  kernel_rfl
def numM (s : List UInt8) : Int × Int :=
  bif [45].isPrefixOf s then
    (bif s.drop 1 == [] then (0, 8) else bif (s.drop 1).any ndC || (s.drop 1).getD 0 0 == 48 then (0, 33) else bif (numL 0 (s.drop 1)).1 then (0, 4) else (-((numL 0 (s.drop 1)).2 : Int), 0))
  else (bif s == [] then (0, 8) else bif s.any ndC || (s.getD 0 0 == 48 && decide (1 < s.length)) then (0, 33) else bif (numL 0 s).1 then (0, 4) else bif decide ((numL 0 s).2 > 9223372036854775807) then (0, 4) else ((numL 0 s).2, 0))
theorem numL_le : ∀ (t : List UInt8) (n : Nat), n ≤ 9223372036854775808 → (numL n t).2 ≤ 9223372036854775808
  | [], n, h => h
  | c :: t, n, h => by
    rw [numL]
    by_cases hb : n * 10 + (c.toNat - 48) > 9223372036854775808
    · rw [dT hb]; exact h
    · rw [dF hb]; exact numL_le t _ (by omega)
theorem wrapNeg {n : Nat} (h : n ≤ 9223372036854775808) : IntKind.i64.wrap (IntKind.u64.wrap (0 - (n : Int))) = -(n : Int) := by
  simp [IntKind.wrap, IntKind.signed, IntKind.bits]
  omega
theorem idx_any (l : List UInt8) : decide (Lib.idxFunc ndR true ⟨⟨l⟩⟩ ≥ 0) = l.any ndC := by
  have h := idxF_any l l.length 0 (by omega)
  rw [List.drop_zero] at h
  have hs : (⟨⟨l⟩⟩ : ByteArray).size = l.length := by simp [ByteArray.size]
  unfold Lib.idxFunc
  rw [hs]
  exact h
theorem nd_dig (c : UInt8) : ndC c = !dig c := by
  unfold ndC ndR dig
  rw [Bool.eq_iff_iff]
  simp only [Bool.or_eq_true, decide_eq_true_eq, Bool.not_eq_true', Bool.and_eq_false_iff, decide_eq_false_iff_not]
  omega
theorem digs_of {l : List UInt8} (h : l.any ndC = false) : Digs l := fun c hc => by
  rw [List.any_eq_false] at h
  have := h c hc
  rw [nd_dig] at this
  simpa using this
theorem num_call (s : List UInt8) (hs : s.length ≤ 1099511627776) (k : Out → Ans) : iFun Tryd.prog (layN2.hd Tryd.prog) layN2.fhs 0 142 [.str s] [] k = k (.ret (.tuple [.int .i64 (numM s).1, .int .i64 (numM s).2]) []) := by
  have e1 : (s.take ((s.length : Nat) : Int).toNat).drop (Int.toNat 1) = s.drop 1 := by rw [Int.toNat_natCast, List.take_length]; rfl
  have hd : (s.drop 1).length ≤ s.length := by simp
  have key := num_fun s k _ rfl (s.any ndC) (idx_any s).symm s (decL_encL (d := 0) (full := false) decB_enc s).symm _ rfl _ rfl (s.drop 1) e1.symm _ rfl _ rfl ((s.drop 1).any ndC) (idx_any _).symm (s.drop 1) (by rw [e1]; exact (decL_encL (d := 0) (full := false) decB_enc (s.drop 1)).symm) _ rfl
  rw [key]
  clear key
  rw [e1]
  unfold numM
  cases hp : [45].isPrefixOf s with
  | false =>
    simp only [Bool.not_false, cond_true, cond_false]
    cases s with
    | nil => rfl
    | cons c t =>
      have hne : ((c :: t) == []) = false := rfl
      simp only [hne, cond_false]
      have hl : (c :: t).length ≥ 1 := by simp
      generalize c :: t = s at *
      simp (disch := first | omega | decide) only [dT, Bool.true_or, cond_true, eqc, bif_or, bif_and]
      rw [show decide ((s.length : Int) > 1) = decide (1 < s.length) from decide_eq_decide.2 (by omega)]
      cases hb : s.any ndC || (s.getD 0 0 == 48 && decide (1 < s.length)) with
      | true => rfl
      | false =>
        simp only [cond_false]
        rw [Bool.or_eq_false_iff] at hb
        refine (congrArg (fun c => cond c _ none) (tst_true ⟨⟨Nat.zero_le _, hs, Nat.zero_le _, digs_of hb.1⟩, .refl _, by trivial, by trivial⟩)).trans ?_
        simp only [cond_true, Int.toNat_zero, List.drop_zero]
        have hn := numL_le s 0 (by omega)
        cases (numL 0 s).1 with
        | true => rfl
        | false =>
          simp only [cond_false]
          rw [show decide (((numL 0 s).2 : Int) > 9223372036854775807) = decide ((numL 0 s).2 > 9223372036854775807) from decide_eq_decide.2 (by omega)]
          by_cases hg : (numL 0 s).2 > 9223372036854775807
          · rw [dT hg]; rfl
          · rw [dF hg]
            simp only [cond_false]
            rw [wrapI (by omega) (by omega)]
  | true =>
    have hl := pre_len hp
    simp only [List.length_cons, List.length_nil] at hl
    simp only [Bool.not_true, cond_true, cond_false]
    simp (disch := omega) only [dT, Bool.and_self, cond_true]
    generalize s.drop 1 = u at *
    cases u with
    | nil => rfl
    | cons c t =>
      have hne : ((c :: t) == []) = false := rfl
      simp only [hne, cond_false]
      have hl : (c :: t).length ≥ 1 := by simp
      generalize c :: t = s at *
      simp (disch := first | omega | decide) only [dT, Bool.true_or, cond_true, eqc, bif_or, bif_and, Bool.and_true]
      cases hb : s.any ndC || s.getD 0 0 == 48 with
      | true => rfl
      | false =>
        simp only [cond_false]
        rw [Bool.or_eq_false_iff] at hb
        refine (congrArg (fun c => cond c _ none) (tst_true ⟨⟨Nat.zero_le _, by omega, Nat.zero_le _, digs_of hb.1⟩, .refl _, by trivial, by trivial⟩)).trans ?_
        simp only [cond_true, Int.toNat_zero, List.drop_zero]
        have hn := numL_le s 0 (by omega)
        cases (numL 0 s).1 with
        | true => rfl
        | false =>
          simp only [cond_false]
          rw [wrapNeg hn]
def numTold : FSp := mkFS [.s] (fun xs => decide ((aS xs 0).length ≤ 1099511627776)) (fun xs k => k (.ret (.tuple [.int .i64 (numM (aS xs 0)).1, .int .i64 (numM (aS xs 0)).2]) []))
theorem numTold_ok : ∀ xs H k out, numTold xs H k = some out → ∃ o, CallOK Tryd.prog 142 xs H o ∧ k o = some out := mkFS_ok fun ys xs e h => by
  obtain ⟨s, rfl⟩ : ∃ s, xs = [.str s] := ⟨_, e⟩
  exact ⟨_, fun k => rfl, layN2_ok.callF (G := []) rfl (fun k => num_call s (of_decide_eq_true h) k)⟩
end Go.Mu
set_option linter.unusedVariables false
set_option linter.unusedSimpArgs false
set_option maxRecDepth 100000
namespace Go.Mu
open Go Go.Proofs
def digsF : Nat → Nat → List UInt8 → List UInt8
  | 0, _, t => t
  | f + 1, u, t => bif u / 10 == 0 then UInt8.ofNat (48 + u % 10) :: t else digsF f (u / 10) (UInt8.ofNat (48 + u % 10) :: t)
structure PrA where
  n : Int
  at_ : Nat
  u : Nat
  t : List UInt8
def prRows (m : Nat) (t : List UInt8) : List (List AVal) := List.replicate m (byteRow 0) ++ t.map byteRow
abbrev prH (at_ : Nat) (t : List UInt8) : Heap := [.arr 1 (prRows at_ t) 0]
def prIn (H : Heap) (at_ : Nat) : List UInt8 := bytesOf ((rowsO (H.getD 0 (.var []))).drop at_)
def prOut (at_ : Int) (u : Int) (t : List UInt8) : List UInt8 := digsF (at_.toNat - 1) u.toNat t
noncomputable def prSp : LSp := mkL (fun vs _ H => PrA.mk (aI vs 0) (aI vs 2).toNat (aI vs 3).toNat (prIn H (aI vs 2).toNat)) (fun a => a.at_ + a.t.length = 20 ∧ a.u < 10 ^ (a.at_ - 1) ∧ 1 < a.at_) (fun a => [.int .i64 a.n, .eptr 0 0 0 0, .int .i64 a.at_, .int .u64 a.u]) (fun _ => []) (fun a => prH a.at_ a.t)
  (fun a k => k (.exit 0) [.int .i64 a.n, .eptr 0 0 0 0, .int .i64 (20 - (prOut a.at_ a.u a.t).length : Nat)] [] (prH (20 - (prOut a.at_ a.u a.t).length) (prOut a.at_ a.u a.t)))
noncomputable def prFH : FH := { FH.of [(5, loopSpec 34 [0,3,4,5] [] [0,3,4] [] prSp)] with arrs := [3] }
theorem pr_step (n at_ u : Int) (rows : List (List AVal)) (D : List (FuncId × List AVal)) (k : Kont) : lturn Tryd.prog Lay.nil prFH 90 5 [0,3,4,5] [] [0,3,4] [] (stL 34 [0,3,4,5] [.int .i64 n, .eptr 0 0 0 0, .int .i64 at_, .int .u64 u] [] [] [.arr 1 rows 0] D) k = (
 let c0 : Bool := !(u == u && false);
 let n1 : Int := IntKind.i64.wrap (at_ - 1);
 let m2 : Nat := n1.toNat;
 let n3 : Int := IntKind.u64.wrap (u.tdiv 10);
  bif c0 then
  bif decide (0 ≤ n1) && decide (n1 < 20) then
  bif decide (m2 < rows.length) && true then
  bif c0 then
  bif n3 == 0 then
  k (AExit.exit 0)
  (stL 34 [0, 3, 4] [AVal.int IntKind.i64 n, AVal.eptr 0 0 0 0, AVal.int IntKind.i64 n1] [] []
  [Obj.arr 1
  (rows.set m2
  ((rows.getD m2 []).set 0
  (AVal.int IntKind.u8 (IntKind.u8.wrap (IntKind.u64.wrap (48 + u.tmod 10))))))
  0]
  D)
  else
  k AExit.normal
  (stL 34 [0, 3, 4, 5]
  [AVal.int IntKind.i64 n, AVal.eptr 0 0 0 0, AVal.int IntKind.i64 n1, AVal.int IntKind.u64 n3] [] []
  [Obj.arr 1
  (rows.set m2
  ((rows.getD m2 []).set 0
  (AVal.int IntKind.u8 (IntKind.u8.wrap (IntKind.u64.wrap (48 + u.tmod 10))))))
  0]
  D)
  else none
  else none
  else none
  else none) := by kernel_rfl
theorem set_rep {α : Type} (x y : α) (l : List α) : ∀ m : Nat, (List.replicate (m + 1) x ++ l).set m y = List.replicate m x ++ y :: l
  | 0 => rfl
  | m + 1 => by
    rw [List.replicate_succ, List.cons_append, List.set_cons_succ, set_rep x y l m]
    rfl
theorem getD_rep {α : Type} (x d : α) (l : List α) (m : Nat) : (List.replicate (m + 1) x ++ l).getD m d = x := by
  rw [List.getD_eq_getElem?_getD, List.getElem?_append_left (by simp), List.getElem?_replicate]
  simp
theorem prRows_len (m : Nat) (t : List UInt8) : (prRows m t).length = m + t.length := by simp [prRows]
theorem prRows_set (m : Nat) (t : List UInt8) (c : UInt8) : (prRows (m + 1) t).set m (((prRows (m + 1) t).getD m []).set 0 (.int .u8 c.toNat)) = prRows m (c :: t) := by
  unfold prRows
  rw [getD_rep, set_rep]
  rfl
theorem prRows_drop (m : Nat) (t : List UInt8) : (prRows m t).drop m = t.map byteRow := by simp [prRows]
theorem dig_val (u : Nat) : IntKind.u8.wrap (IntKind.u64.wrap (48 + (u : Int).tmod 10)) = ((UInt8.ofNat (48 + u % 10)).toNat : Int) := by
  have e : (u : Int).tmod 10 = ((u % 10 : Nat) : Int) := rfl
  have h : u % 10 < 10 := Nat.mod_lt _ (by decide)
  rw [e, wrapU (by omega) (by omega), wrapB (by omega) (by omega), UInt8.toNat_ofNat', Nat.mod_eq_of_lt (show 48 + u % 10 < 2 ^ 8 by omega)]
  omega
theorem pr_runs (n : Int) : ∀ (m u : Nat) (t : List UInt8), m + 2 + t.length = 20 → u < 10 ^ (m + 1) →
    LoopRuns (lturn Tryd.prog Lay.nil prFH 90 5 [0,3,4,5] [] [0,3,4] []) 34 [0,3,4,5] [] [0,3,4] [] [.int .i64 n, .eptr 0 0 0 0, .int .i64 ((m + 2 : Nat) : Int), .int .u64 u] [] (prH (m + 2) t) (.exit 0)
      [.int .i64 n, .eptr 0 0 0 0, .int .i64 (20 - (digsF (m + 1) u t).length : Nat)] [] (prH (20 - (digsF (m + 1) u t).length) (digsF (m + 1) u t)) := by
  intro m
  induction m with
  | zero =>
    intro u t hl hu
    have key := fun D k => pr_step n ((0 + 2 : Nat) : Int) u (prRows (0 + 2) t) D k
    have e1 : IntKind.i64.wrap (((0 + 2 : Nat) : Int) - 1) = ((0 + 1 : Nat) : Int) := by rw [wrap_of (by omega) (by omega)]; omega
    have e2 : ((u : Int).tdiv 10) = ((u / 10 : Nat) : Int) := rfl
    have h10 : u / 10 = 0 := by omega
    have e3 : IntKind.u64.wrap ((u / 10 : Nat) : Int) = ((u / 10 : Nat) : Int) := wrapU (by omega) (by omega)
    have e4 : (prRows (0 + 2) t).length = 20 := by rw [prRows_len]; omega
    simp only [e1, e2, e3, dig_val, Int.toNat_natCast, e4, prRows_set, h10] at key
    simp (disch := omega) only [dT, cond_true, Bool.and_true, Bool.and_self, Bool.and_false, Bool.not_false] at key
    have e5 : digsF (0 + 1) u t = UInt8.ofNat (48 + u % 10) :: t := by rw [digsF, h10]; rfl
    have e6 : 20 - (UInt8.ofNat (48 + u % 10) :: t).length = 0 + 1 := by rw [List.length_cons]; omega
    rw [e5, e6]
    exact .stop (by simp) key
  | succ m ih =>
    intro u t hl hu
    have key := fun D k => pr_step n ((m + 1 + 2 : Nat) : Int) u (prRows (m + 1 + 2) t) D k
    have hb : 10 ^ (m + 1 + 1) ≤ 10 ^ 19 := Nat.pow_le_pow_right (by decide) (by omega)
    have e1 : IntKind.i64.wrap (((m + 1 + 2 : Nat) : Int) - 1) = ((m + 1 + 1 : Nat) : Int) := by rw [wrap_of (by omega) (by omega)]; omega
    have e2 : ((u : Int).tdiv 10) = ((u / 10 : Nat) : Int) := rfl
    have e3 : IntKind.u64.wrap ((u / 10 : Nat) : Int) = ((u / 10 : Nat) : Int) := wrapU (by omega) (by omega)
    have e4 : (prRows (m + 1 + 2) t).length = 20 := by rw [prRows_len]; omega
    simp only [e1, e2, e3, dig_val, Int.toNat_natCast, e4, prRows_set] at key
    simp (disch := omega) only [dT, cond_true, Bool.and_true, Bool.and_self, Bool.and_false, Bool.not_false] at key
    rw [digsF]
    by_cases h10 : u / 10 = 0
    · simp only [h10] at key ⊢
      have e6 : 20 - (UInt8.ofNat (48 + u % 10) :: t).length = m + 1 + 1 := by rw [List.length_cons]; omega
      show LoopRuns _ _ _ _ _ _ _ _ _ _ [_, _, .int .i64 (20 - (UInt8.ofNat (48 + u % 10) :: t).length : Nat)] _ (prH (20 - (UInt8.ofNat (48 + u % 10) :: t).length) (UInt8.ofNat (48 + u % 10) :: t))
      rw [e6]
      exact .stop (by simp) key
    · have e7 : (((u / 10 : Nat) : Int) == 0) = false := by simp; omega
      have e8 : (u / 10 == 0) = false := by simpa using h10
      simp only [e7, cond_false] at key
      rw [e8]
      have hu2 : u / 10 < 10 ^ (m + 1) := by rw [Nat.pow_succ] at hu; omega
      exact .step key (ih (u / 10) (UInt8.ofNat (48 + u % 10) :: t) (by rw [List.length_cons]; omega) hu2)
theorem prSp_ok : SpOK (lturn Tryd.prog Lay.nil prFH 90 5 [0,3,4,5] [] [0,3,4] []) 34 [0,3,4,5] [] [0,3,4] [] prSp := mkL_ok fun a h => by
  obtain ⟨n, at_, u, t⟩ := a
  obtain ⟨h1, h2, h3⟩ := h
  simp only at h1 h2 h3
  obtain ⟨m, rfl⟩ : ∃ m, at_ = m + 2 := ⟨at_ - 2, by omega⟩
  exact ⟨_, _, _, _, fun k => rfl, pr_runs n m u t h1 h2⟩
noncomputable def layPr : Lay := Lay.nil.addL 90 prFH
theorem layPr_ok : layPr.OK Tryd.prog := Lay.nil_ok.loop1 (id := 5) (by kernel_rfl) (by kernel_rfl) (by kernel_rfl) prSp_ok
theorem pr_fun (n : Int) (k : Out → Ans) (c0 : Bool) (e_c0 : c0 = (decide (n < 0)))
  (n1 : Int) (e_n1 : n1 = (IntKind.u64.wrap (0 - IntKind.u64.wrap n)))
  (m2 : Nat) (e_m2 : m2 = (n1.toNat))
  (n3 : Int) (e_n3 : n3 = ((↑m2 : Int)))
  (l4 : List UInt8) (e_l4 : l4 = (prOut (↑(Int.toNat 20) : Int) n3
    (prIn
      [Obj.arr 1
          [[AVal.int IntKind.u8 0], [AVal.int IntKind.u8 0], [AVal.int IntKind.u8 0], [AVal.int IntKind.u8 0],
            [AVal.int IntKind.u8 0], [AVal.int IntKind.u8 0], [AVal.int IntKind.u8 0], [AVal.int IntKind.u8 0],
            [AVal.int IntKind.u8 0], [AVal.int IntKind.u8 0], [AVal.int IntKind.u8 0], [AVal.int IntKind.u8 0],
            [AVal.int IntKind.u8 0], [AVal.int IntKind.u8 0], [AVal.int IntKind.u8 0], [AVal.int IntKind.u8 0],
            [AVal.int IntKind.u8 0], [AVal.int IntKind.u8 0], [AVal.int IntKind.u8 0], [AVal.int IntKind.u8 0]]
          0]
      (Int.toNat 20))))
  (m5 : Nat) (e_m5 : m5 = (20 - l4.length))
  (m6 : Nat) (e_m6 : m6 = ((prRows m5 l4).length))
  (c7 : Bool) (e_c7 : c7 = (decide (20 ≤ m6)))
  (n8 : Int) (e_n8 : n8 = ((↑m5 : Int)))
  (n9 : Int) (e_n9 : n9 = (IntKind.i64.wrap (n8 - 1)))
  (c10 : Bool) (e_c10 : c10 = (decide (0 ≤ n9)))
  (c11 : Bool) (e_c11 : c11 = (decide (n9 ≤ 20)))
  (m12 : Nat) (e_m12 : m12 = (n9.toNat))
  (m13 : Nat) (e_m13 : m13 = ((20 - n9).toNat))
  (m14 : Nat) (e_m14 : m14 = (((prRows m5 l4).set m12 (((prRows m5 l4).getD m12 []).set 0 (AVal.int IntKind.u8 45))).length))
  (m15 : Nat) (e_m15 : m15 = (n8.toNat))
  (m16 : Nat) (e_m16 : m16 = ((20 - n8).toNat))
  (n17 : Int) (e_n17 : n17 = ((↑(IntKind.u64.wrap n).toNat : Int)))
  (l18 : List UInt8) (e_l18 : l18 = (prOut (↑(Int.toNat 20) : Int) n17
    (prIn
      [Obj.arr 1
          [[AVal.int IntKind.u8 0], [AVal.int IntKind.u8 0], [AVal.int IntKind.u8 0], [AVal.int IntKind.u8 0],
            [AVal.int IntKind.u8 0], [AVal.int IntKind.u8 0], [AVal.int IntKind.u8 0], [AVal.int IntKind.u8 0],
            [AVal.int IntKind.u8 0], [AVal.int IntKind.u8 0], [AVal.int IntKind.u8 0], [AVal.int IntKind.u8 0],
            [AVal.int IntKind.u8 0], [AVal.int IntKind.u8 0], [AVal.int IntKind.u8 0], [AVal.int IntKind.u8 0],
            [AVal.int IntKind.u8 0], [AVal.int IntKind.u8 0], [AVal.int IntKind.u8 0], [AVal.int IntKind.u8 0]]
          0]
      (Int.toNat 20))))
  (m19 : Nat) (e_m19 : m19 = (20 - l18.length))
  (m20 : Nat) (e_m20 : m20 = ((prRows m19 l18).length))
  (c21 : Bool) (e_c21 : c21 = (decide (20 ≤ m20)))
  (n22 : Int) (e_n22 : n22 = ((↑m19 : Int)))
  (n23 : Int) (e_n23 : n23 = (IntKind.i64.wrap (n22 - 1)))
  (c24 : Bool) (e_c24 : c24 = (decide (0 ≤ n23)))
  (c25 : Bool) (e_c25 : c25 = (decide (n23 ≤ 20)))
  (m26 : Nat) (e_m26 : m26 = (n23.toNat))
  (m27 : Nat) (e_m27 : m27 = ((20 - n23).toNat))
  (m28 : Nat) (e_m28 : m28 = (((prRows m19 l18).set m26 (((prRows m19 l18).getD m26 []).set 0 (AVal.int IntKind.u8 45))).length))
  (m29 : Nat) (e_m29 : m29 = (n22.toNat))
  (m30 : Nat) (e_m30 : m30 = ((20 - n22).toNat)) : iFun Tryd.prog (layPr.hd Tryd.prog) layPr.fhs 0 90 [.int .i64 n] [] k = (
  bif c0 then
  bif
  tst
  ((Int.toNat 20 + 0 = 20 ∧ m2 < 10 ^ (Int.toNat 20 - 1) ∧ 1 < Int.toNat 20) ∧
  SubTL [AVal.int IntKind.i64 n, AVal.eptr 0 0 0 0, AVal.int IntKind.i64 20, AVal.int IntKind.u64 n1]
  [AVal.int IntKind.i64 n, AVal.eptr 0 0 0 0, AVal.int IntKind.i64 (↑(Int.toNat 20) : Int),
  AVal.int IntKind.u64 n3] ∧
  ([] : List (List AVal)) = [] ∧
  [Obj.arr 1
  [[AVal.int IntKind.u8 0], [AVal.int IntKind.u8 0], [AVal.int IntKind.u8 0], [AVal.int IntKind.u8 0],
  [AVal.int IntKind.u8 0], [AVal.int IntKind.u8 0], [AVal.int IntKind.u8 0],
  [AVal.int IntKind.u8 0], [AVal.int IntKind.u8 0], [AVal.int IntKind.u8 0],
  [AVal.int IntKind.u8 0], [AVal.int IntKind.u8 0], [AVal.int IntKind.u8 0],
  [AVal.int IntKind.u8 0], [AVal.int IntKind.u8 0], [AVal.int IntKind.u8 0],
  [AVal.int IntKind.u8 0], [AVal.int IntKind.u8 0], [AVal.int IntKind.u8 0],
  [AVal.int IntKind.u8 0]]
  0] =
  prH (Int.toNat 20)
  (prIn
  [Obj.arr 1
  [[AVal.int IntKind.u8 0], [AVal.int IntKind.u8 0], [AVal.int IntKind.u8 0],
  [AVal.int IntKind.u8 0], [AVal.int IntKind.u8 0], [AVal.int IntKind.u8 0],
  [AVal.int IntKind.u8 0], [AVal.int IntKind.u8 0], [AVal.int IntKind.u8 0],
  [AVal.int IntKind.u8 0], [AVal.int IntKind.u8 0], [AVal.int IntKind.u8 0],
  [AVal.int IntKind.u8 0], [AVal.int IntKind.u8 0], [AVal.int IntKind.u8 0],
  [AVal.int IntKind.u8 0], [AVal.int IntKind.u8 0], [AVal.int IntKind.u8 0],
  [AVal.int IntKind.u8 0], [AVal.int IntKind.u8 0]]
  0]
  (Int.toNat 20))) then
  bif c0 then
  bif c7 && c10 && c11 && true then
  bif decide (m12 < m6) && true && decide (0 < m13) then
  bif decide (20 ≤ m14) && c10 && c11 && true then
  bif
  decide (m12 + m13 ≤ m14) &&
  (List.take m13
  (List.drop m12
  ((prRows m5 l4).set m12 (((prRows m5 l4).getD m12 []).set 0 (AVal.int IntKind.u8 45))))).all
  fun (r : List AVal) =>
  match r with
  | [v] => isInt IntKind.u8 v
  | x => false then
  k
  (Out.ret
  (AVal.str
  (List.map (fun (r : List AVal) => UInt8.ofNat (intOf (r.getD 0 AVal.undef)).toNat)
  (List.take m13
  (List.drop m12
  ((prRows m5 l4).set m12 (((prRows m5 l4).getD m12 []).set 0 (AVal.int IntKind.u8 45)))))))
  [Obj.arr 1 ((prRows m5 l4).set m12 (((prRows m5 l4).getD m12 []).set 0 (AVal.int IntKind.u8 45))) 0])
  else none
  else none
  else none
  else none
  else
  bif c7 && true && decide (n8 ≤ 20) && true then
  bif
  decide (m15 + m16 ≤ m6) &&
  (List.take m16 (List.drop m15 (prRows m5 l4))).all fun (r : List AVal) =>
  match r with
  | [v] => isInt IntKind.u8 v
  | x => false then
  k
  (Out.ret
  (AVal.str
  (List.map (fun (r : List AVal) => UInt8.ofNat (intOf (r.getD 0 AVal.undef)).toNat)
  (List.take m16 (List.drop m15 (prRows m5 l4)))))
  (prH m5 l4))
  else none
  else none
  else none
  else
  bif
  tst
  ((Int.toNat 20 + 0 = 20 ∧ (IntKind.u64.wrap n).toNat < 10 ^ (Int.toNat 20 - 1) ∧ 1 < Int.toNat 20) ∧
  SubTL
  [AVal.int IntKind.i64 n, AVal.eptr 0 0 0 0, AVal.int IntKind.i64 20,
  AVal.int IntKind.u64 (IntKind.u64.wrap n)]
  [AVal.int IntKind.i64 n, AVal.eptr 0 0 0 0, AVal.int IntKind.i64 (↑(Int.toNat 20) : Int),
  AVal.int IntKind.u64 n17] ∧
  ([] : List (List AVal)) = [] ∧
  [Obj.arr 1
  [[AVal.int IntKind.u8 0], [AVal.int IntKind.u8 0], [AVal.int IntKind.u8 0], [AVal.int IntKind.u8 0],
  [AVal.int IntKind.u8 0], [AVal.int IntKind.u8 0], [AVal.int IntKind.u8 0],
  [AVal.int IntKind.u8 0], [AVal.int IntKind.u8 0], [AVal.int IntKind.u8 0],
  [AVal.int IntKind.u8 0], [AVal.int IntKind.u8 0], [AVal.int IntKind.u8 0],
  [AVal.int IntKind.u8 0], [AVal.int IntKind.u8 0], [AVal.int IntKind.u8 0],
  [AVal.int IntKind.u8 0], [AVal.int IntKind.u8 0], [AVal.int IntKind.u8 0],
  [AVal.int IntKind.u8 0]]
  0] =
  prH (Int.toNat 20)
  (prIn
  [Obj.arr 1
  [[AVal.int IntKind.u8 0], [AVal.int IntKind.u8 0], [AVal.int IntKind.u8 0],
  [AVal.int IntKind.u8 0], [AVal.int IntKind.u8 0], [AVal.int IntKind.u8 0],
  [AVal.int IntKind.u8 0], [AVal.int IntKind.u8 0], [AVal.int IntKind.u8 0],
  [AVal.int IntKind.u8 0], [AVal.int IntKind.u8 0], [AVal.int IntKind.u8 0],
  [AVal.int IntKind.u8 0], [AVal.int IntKind.u8 0], [AVal.int IntKind.u8 0],
  [AVal.int IntKind.u8 0], [AVal.int IntKind.u8 0], [AVal.int IntKind.u8 0],
  [AVal.int IntKind.u8 0], [AVal.int IntKind.u8 0]]
  0]
  (Int.toNat 20))) then
  bif c0 then
  bif c21 && c24 && c25 && true then
  bif decide (m26 < m20) && true && decide (0 < m27) then
  bif decide (20 ≤ m28) && c24 && c25 && true then
  bif
  decide (m26 + m27 ≤ m28) &&
  (List.take m27
  (List.drop m26
  ((prRows m19 l18).set m26
  (((prRows m19 l18).getD m26 []).set 0 (AVal.int IntKind.u8 45))))).all
  fun (r : List AVal) =>
  match r with
  | [v] => isInt IntKind.u8 v
  | x => false then
  k
  (Out.ret
  (AVal.str
  (List.map (fun (r : List AVal) => UInt8.ofNat (intOf (r.getD 0 AVal.undef)).toNat)
  (List.take m27
  (List.drop m26
  ((prRows m19 l18).set m26 (((prRows m19 l18).getD m26 []).set 0 (AVal.int IntKind.u8 45)))))))
  [Obj.arr 1 ((prRows m19 l18).set m26 (((prRows m19 l18).getD m26 []).set 0 (AVal.int IntKind.u8 45)))
  0])
  else none
  else none
  else none
  else none
  else
  bif c21 && true && decide (n22 ≤ 20) && true then
  bif
  decide (m29 + m30 ≤ m20) &&
  (List.take m30 (List.drop m29 (prRows m19 l18))).all fun (r : List AVal) =>
  match r with
  | [v] => isInt IntKind.u8 v
  | x => false then
  k
  (Out.ret
  (AVal.str
  (List.map (fun (r : List AVal) => UInt8.ofNat (intOf (r.getD 0 AVal.undef)).toNat)
  (List.take m30 (List.drop m29 (prRows m19 l18)))))
  (prH m19 l18))
  else none
  else none
  else none) := by
  subst e_c0 e_n1 e_m2 e_n3 e_l4 e_m5 e_m6 e_c7 e_n8 e_n9 e_c10 e_c11 e_m12 e_m13 e_m14 e_m15 e_m16 e_n17 e_l18 e_m19 e_m20 e_c21 e_n22 e_n23 e_c24 e_c25 e_m26 e_m27 e_m28 e_m29 e_m30
  kernel_rfl
def printM (n : Int) : List UInt8 := bif decide (n < 0) then 45 :: digsF 19 n.natAbs [] else digsF 19 n.natAbs []
theorem digsF_len : ∀ (f u : Nat) (t : List UInt8), (digsF f u t).length ≤ t.length + f
  | 0, u, t => Nat.le_refl _
  | f + 1, u, t => by
    rw [digsF]
    cases u / 10 == 0 with
    | true => simp
    | false =>
      have := digsF_len f (u / 10) (UInt8.ofNat (48 + u % 10) :: t)
      simp only [cond_false]
      rw [List.length_cons] at this
      omega
theorem all_map (t : List UInt8) : ((t.map byteRow).all fun (r : List AVal) => match r with | [v] => isInt IntKind.u8 v | x => false) = true := by
  rw [List.all_map, List.all_eq_true]
  intro c hc
  rfl
theorem back_map (t : List UInt8) : List.map (fun (r : List AVal) => UInt8.ofNat (intOf (r.getD 0 AVal.undef)).toNat) (t.map byteRow) = t := bytesOf_map t
theorem pr_neg (n : Int) (h : -9223372036854775808 ≤ n) (h0 : n < 0) (k : Out → Ans) : ∃ G, ∀ k, iFun Tryd.prog (layPr.hd Tryd.prog) layPr.fhs 0 90 [.int .i64 n] [] k = k (.ret (.str (45 :: digsF 19 n.natAbs [])) G) := by
  have hL := digsF_len 19 n.natAbs []
  obtain ⟨L, e⟩ : ∃ L, L = digsF 19 n.natAbs [] := ⟨_, rfl⟩
  rw [← e] at hL ⊢
  simp only [List.length_nil, Nat.zero_add] at hL
  obtain ⟨m, hm⟩ : ∃ m, 20 - L.length = m + 1 := ⟨19 - L.length, by omega⟩
  have hw : IntKind.u64.wrap (0 - IntKind.u64.wrap n) = (n.natAbs : Int) := by
    simp [IntKind.wrap, IntKind.signed, IntKind.bits]
    omega
  have e1 : IntKind.i64.wrap (((m + 1 : Nat) : Int) - 1) = ((m : Nat) : Int) := by rw [wrap_of (by omega) (by omega)]; omega
  refine ⟨[.arr 1 (prRows m (45 :: L)) 0], fun k => (pr_fun n k true (dT h0).symm _ hw.symm n.natAbs (Int.toNat_natCast _).symm _ rfl L e (m + 1) hm.symm 20 (by rw [prRows_len]; omega) true rfl ((m + 1 : Nat) : Int) rfl (m : Int) e1.symm true (dT (by omega)).symm true (dT (by omega)).symm m (Int.toNat_natCast _).symm (L.length + 1) (by omega) 20 (by rw [List.length_set, prRows_len]; omega) (m + 1) (Int.toNat_natCast _).symm L.length (by omega) _ rfl _ rfl _ rfl _ rfl _ rfl _ rfl _ rfl _ rfl _ rfl _ rfl _ rfl _ rfl _ rfl _ rfl).trans ?_⟩
  · have hu : n.natAbs < 10 ^ (Int.toNat 20 - 1) := by
      show n.natAbs < 10 ^ 19
      omega
    rw [tst_true ⟨⟨rfl, hu, by decide⟩, .refl _, rfl, rfl⟩]
    have e2 : (prRows (m + 1) L).set m (((prRows (m + 1) L).getD m []).set 0 (.int .u8 45)) = prRows m (45 :: L) := prRows_set m L 45
    have e3 : List.take (L.length + 1) ((45 :: L).map byteRow) = (45 :: L).map byteRow := List.take_of_length_le (by simp)
    rw [e2, prRows_drop, e3, all_map, back_map]
    simp (disch := omega) only [dT, cond_true, Bool.and_true, Bool.and_self]
theorem pr_pos (n : Int) (h : n ≤ 9223372036854775807) (h0 : ¬ n < 0) : ∃ G, ∀ k, iFun Tryd.prog (layPr.hd Tryd.prog) layPr.fhs 0 90 [.int .i64 n] [] k = k (.ret (.str (digsF 19 n.natAbs [])) G) := by
  have hL := digsF_len 19 n.natAbs []
  obtain ⟨L, e⟩ : ∃ L, L = digsF 19 n.natAbs [] := ⟨_, rfl⟩
  rw [← e] at hL ⊢
  simp only [List.length_nil, Nat.zero_add] at hL
  have hw : IntKind.u64.wrap n = (n.natAbs : Int) := by rw [wrapU (by omega) (by omega)]; omega
  obtain ⟨m, hm⟩ : ∃ m, 20 - L.length = m := ⟨_, rfl⟩
  have hw2 : ((IntKind.u64.wrap n).toNat : Int) = (n.natAbs : Int) := by rw [hw]; rfl
  refine ⟨prH m L, fun k => (pr_fun n k false (dF h0).symm _ rfl _ rfl _ rfl _ rfl _ rfl _ rfl _ rfl _ rfl _ rfl _ rfl _ rfl _ rfl _ rfl _ rfl _ rfl _ rfl (n.natAbs : Int) hw2.symm L e m hm.symm 20 (by rw [prRows_len]; omega) true rfl (m : Int) rfl _ rfl _ rfl _ rfl _ rfl _ rfl _ rfl m (Int.toNat_natCast _).symm L.length (by omega)).trans ?_⟩
  · have hu : (IntKind.u64.wrap n).toNat < 10 ^ (Int.toNat 20 - 1) := by
      show (IntKind.u64.wrap n).toNat < 10 ^ 19
      rw [hw]; omega
    rw [hw] at hu
    rw [cond_false, hw]
    rw [tst_true ⟨⟨rfl, hu, by decide⟩, .refl _, rfl, rfl⟩]
    have e3 : List.take L.length (L.map byteRow) = L.map byteRow := List.take_of_length_le (by simp)
    rw [prRows_drop, e3, all_map, back_map]
    simp (disch := omega) only [dT, cond_true, cond_false, Bool.and_true, Bool.and_self]
theorem pr_ok (n : Int) (h1 : -9223372036854775808 ≤ n) (h2 : n ≤ 9223372036854775807) : CallOK Tryd.prog 90 [.int .i64 n] [] (.ret (.str (printM n)) []) := by
  unfold printM
  by_cases h0 : n < 0
  · rw [dT h0]
    obtain ⟨G, h⟩ := pr_neg n h1 h0 (fun _ => none)
    exact layPr_ok.callF (G := G) rfl h
  · rw [dF h0]
    obtain ⟨G, h⟩ := pr_pos n h2 h0
    exact layPr_ok.callF (G := G) rfl h
def prTold : FSp := mkFS [.i .i64] (fun xs => decide (-9223372036854775808 ≤ aI xs 0 ∧ aI xs 0 ≤ 9223372036854775807)) (fun xs k => k (.ret (.str (printM (aI xs 0))) []))
theorem prTold_ok : ∀ xs H k out, prTold xs H k = some out → ∃ o, CallOK Tryd.prog 90 xs H o ∧ k o = some out := mkFS_ok fun ys xs e h => by
  obtain ⟨n, rfl⟩ : ∃ n, xs = [.int .i64 n] := ⟨_, e⟩
  replace h : -9223372036854775808 ≤ n ∧ n ≤ 9223372036854775807 := of_decide_eq_true h
  exact ⟨_, fun k => rfl, pr_ok n h.1 h.2⟩
end Go.Mu
set_option linter.unusedVariables false
set_option linter.unusedSimpArgs false
namespace Go.Mu
open Go Go.Proofs
abbrev bdT : Nat := 98
structure Bld where
  ad : AVal
  b : AVal
  rows : List (List AVal)
  v : Nat
def Bld.can (i j : Nat) (x : Bld) : Prop := (x.ad = .nilptr ∨ x.ad = .ptr (.hp i) 0) ∧ x.rows = (bytesOf x.rows).map byteRow ∧ x.b = bfB j (bytesOf x.rows) x.v
abbrev Bld.t (x : Bld) : List UInt8 := bytesOf x.rows
def Bld.add (i j : Nat) (x : Bld) (l : List UInt8) : Bld := ⟨.ptr (.hp i) 0, bfB j (x.t ++ l) (wsV x.t l x.v), x.rows ++ l.map byteRow, wsV x.t l x.v⟩
theorem Bld.add_t (i j : Nat) (x : Bld) (l : List UInt8) : (Bld.add i j x l).t = x.t ++ l := by
  show bytesOf (x.rows ++ l.map byteRow) = _
  have := bytesOf_map l
  unfold bytesOf at this
  show (x.rows ++ l.map byteRow).map byteOf = x.rows.map byteOf ++ l
  rw [List.map_append, this]
theorem Bld.add_can {i j : Nat} {x : Bld} (h : x.can i j) (l : List UInt8) : (Bld.add i j x l).can i j := by
  refine ⟨.inr rfl, ?_, ?_⟩
  · show (Bld.add i j x l).rows = ((Bld.add i j x l).t).map byteRow
    rw [Bld.add_t, List.map_append, ← h.2.1]; rfl
  · show (Bld.add i j x l).b = bfB j ((Bld.add i j x l).t) _
    rw [Bld.add_t]; rfl
def Bld.dead (x : Bld) : Bld := { x with rows := [], v := bif x.t == [] then x.v else x.v + 1 }
def Bld.new : Bld := ⟨.nilptr, .nilX, [], 0⟩
theorem Bld.new_can (i j : Nat) : Bld.new.can i j := ⟨.inl rfl, rfl, rfl⟩
abbrev bld (H : Heap) (i j : Nat) : Bld := ⟨(cellsO (H.getD i (.var []))).getD 0 .undef, (cellsO (H.getD i (.var []))).getD 1 .undef, rowsO (H.getD j (.var [])), verO (H.getD j (.var []))⟩
end Go.Mu
set_option linter.unusedVariables false
set_option linter.unusedSimpArgs false
set_option maxRecDepth 100000
namespace Go.Mu
open Go Go.Proofs
abbrev b7P (P0 P1 P2 P3 P4 P5 P6 : Obj) (ad b : AVal) (O : Obj) : Heap := [P0, P1, P2, P3, P4, P5, P6, .var [ad, b], .note bdT 2, O, .note bT 0]
structure b7H where
  P0 : Obj
  P1 : Obj
  P2 : Obj
  P3 : Obj
  P4 : Obj
  P5 : Obj
  P6 : Obj
  x : Bld
abbrev b7H.heap (x : b7H) : Heap := b7P x.P0 x.P1 x.P2 x.P3 x.P4 x.P5 x.P6 x.x.ad x.x.b (.arr 1 x.x.rows x.x.v)
def b7H.dec (H : Heap) : b7H := ⟨H.getD 0 (.var []), H.getD 1 (.var []), H.getD 2 (.var []), H.getD 3 (.var []), H.getD 4 (.var []), H.getD 5 (.var []), H.getD 6 (.var []), bld H 7 9⟩
theorem b7_ws0 (P0 P1 P2 P3 P4 P5 P6 : Obj) (O : Obj) (k : Out → Ans) : iFun Tryd.prog (layW0.hd Tryd.prog) layW0.fhs 0 92 [.ptr (.hp 7) 0, .str []] (b7P P0 P1 P2 P3 P4 P5 P6 .nilptr .nilX O) k = (
  k
  (Out.ret (AVal.tuple [AVal.int IntKind.i64 0, AVal.nilIface])
      [P0, P1, P2, P3, P4, P5, P6, Obj.var [AVal.ptr (Oid.hp 7) 0, AVal.nilX], Obj.note 98 2, O, Obj.note 5 0])) := by kernel_rfl
theorem b7_ws1 (P0 P1 P2 P3 P4 P5 P6 : Obj) (O : Obj) (k : Out → Ans) : iFun Tryd.prog (layW0.hd Tryd.prog) layW0.fhs 0 92 [.ptr (.hp 7) 0, .str []] (b7P P0 P1 P2 P3 P4 P5 P6 (.ptr (.hp 7) 0) .nilX O) k = (
  k
  (Out.ret (AVal.tuple [AVal.int IntKind.i64 0, AVal.nilIface])
      [P0, P1, P2, P3, P4, P5, P6, Obj.var [AVal.ptr (Oid.hp 7) 0, AVal.nilX], Obj.note 98 2, O, Obj.note 5 0])) := by kernel_rfl
theorem b7_ws2 (P0 P1 P2 P3 P4 P5 P6 : Obj) (l : List UInt8) (n v : Nat) (rows : List (List AVal)) (k : Out → Ans) : iFun Tryd.prog (Lay.nil.hd Tryd.prog) Lay.nil.fhs 0 92 [.ptr (.hp 7) 0, .str l] (b7P P0 P1 P2 P3 P4 P5 P6 .nilptr (.own 9 0 n v false) (.arr 1 rows v)) k = (
 let m0 : Nat := n + (List.map (fun (c : UInt8) => [AVal.int IntKind.u8 (↑c.toNat : Int)]) l).length;
 let m1 : Nat := v + 1;
  bif v == v && n == rows.length && decide ((2 * m0 + 1000) * 1 ≤ 281474976710656) && true then
  k
  (Out.ret (AVal.tuple [AVal.int IntKind.i64 (↑l.length : Int), AVal.nilIface])
  [P0, P1, P2, P3, P4, P5, P6, Obj.var [AVal.ptr (Oid.hp 7) 0, AVal.own 9 0 m0 m1 false], Obj.note 98 2,
  Obj.arr 1 (rows.append (List.map (fun (c : UInt8) => [AVal.int IntKind.u8 (↑c.toNat : Int)]) l)) m1,
  Obj.note 5 0])
  else none) := by kernel_rfl
theorem b7_ws3 (P0 P1 P2 P3 P4 P5 P6 : Obj) (l : List UInt8) (n v : Nat) (rows : List (List AVal)) (k : Out → Ans) : iFun Tryd.prog (Lay.nil.hd Tryd.prog) Lay.nil.fhs 0 92 [.ptr (.hp 7) 0, .str l] (b7P P0 P1 P2 P3 P4 P5 P6 (.ptr (.hp 7) 0) (.own 9 0 n v false) (.arr 1 rows v)) k = (
 let m0 : Nat := n + (List.map (fun (c : UInt8) => [AVal.int IntKind.u8 (↑c.toNat : Int)]) l).length;
 let m1 : Nat := v + 1;
  bif v == v && n == rows.length && decide ((2 * m0 + 1000) * 1 ≤ 281474976710656) && true then
  k
  (Out.ret (AVal.tuple [AVal.int IntKind.i64 (↑l.length : Int), AVal.nilIface])
  [P0, P1, P2, P3, P4, P5, P6, Obj.var [AVal.ptr (Oid.hp 7) 0, AVal.own 9 0 m0 m1 false], Obj.note 98 2,
  Obj.arr 1 (rows.append (List.map (fun (c : UInt8) => [AVal.int IntKind.u8 (↑c.toNat : Int)]) l)) m1,
  Obj.note 5 0])
  else none) := by kernel_rfl
theorem b7_wb2 (P0 P1 P2 P3 P4 P5 P6 : Obj) (c : UInt8) (n v : Nat) (rows : List (List AVal)) (k : Out → Ans) : iFun Tryd.prog (Lay.nil.hd Tryd.prog) Lay.nil.fhs 0 56 [.ptr (.hp 7) 0, .int .u8 c.toNat] (b7P P0 P1 P2 P3 P4 P5 P6 .nilptr (.own 9 0 n v false) (.arr 1 rows v)) k = (
 let m0 : Nat := n + 1;
 let m1 : Nat := v + 1;
  bif v == v && n == rows.length && decide ((2 * m0 + 1000) * 1 ≤ 281474976710656) && true then
  k
  (Out.ret AVal.nilIface
  [P0, P1, P2, P3, P4, P5, P6, Obj.var [AVal.ptr (Oid.hp 7) 0, AVal.own 9 0 m0 m1 false], Obj.note 98 2,
  Obj.arr 1 (rows.append [[AVal.int IntKind.u8 (↑c.toNat : Int)]]) m1, Obj.note 5 0])
  else none) := by kernel_rfl
theorem b7_wb3 (P0 P1 P2 P3 P4 P5 P6 : Obj) (c : UInt8) (n v : Nat) (rows : List (List AVal)) (k : Out → Ans) : iFun Tryd.prog (Lay.nil.hd Tryd.prog) Lay.nil.fhs 0 56 [.ptr (.hp 7) 0, .int .u8 c.toNat] (b7P P0 P1 P2 P3 P4 P5 P6 (.ptr (.hp 7) 0) (.own 9 0 n v false) (.arr 1 rows v)) k = (
 let m0 : Nat := n + 1;
 let m1 : Nat := v + 1;
  bif v == v && n == rows.length && decide ((2 * m0 + 1000) * 1 ≤ 281474976710656) && true then
  k
  (Out.ret AVal.nilIface
  [P0, P1, P2, P3, P4, P5, P6, Obj.var [AVal.ptr (Oid.hp 7) 0, AVal.own 9 0 m0 m1 false], Obj.note 98 2,
  Obj.arr 1 (rows.append [[AVal.int IntKind.u8 (↑c.toNat : Int)]]) m1, Obj.note 5 0])
  else none) := by kernel_rfl
theorem b7_len0 (P0 P1 P2 P3 P4 P5 P6 : Obj) (ad : AVal) (O : Obj) (k : Out → Ans) : iFun Tryd.prog (Lay.nil.hd Tryd.prog) Lay.nil.fhs 0 113 [.ptr (.hp 7) 0] (b7P P0 P1 P2 P3 P4 P5 P6 ad .nilX O) k = (
  k (Out.ret (AVal.int IntKind.i64 0) (b7P P0 P1 P2 P3 P4 P5 P6 ad AVal.nilX O))) := by kernel_rfl
theorem b7_len1 (P0 P1 P2 P3 P4 P5 P6 : Obj) (ad : AVal) (n v : Nat) (O : Obj) (k : Out → Ans) : iFun Tryd.prog (Lay.nil.hd Tryd.prog) Lay.nil.fhs 0 113 [.ptr (.hp 7) 0] (b7P P0 P1 P2 P3 P4 P5 P6 ad (.own 9 0 n v false) O) k = (
  k (Out.ret (AVal.int IntKind.i64 (↑n : Int)) (b7P P0 P1 P2 P3 P4 P5 P6 ad (AVal.own 9 0 n v false) O))) := by kernel_rfl
theorem b7_ws (x : b7H) (l : List UInt8) (hx : x.x.can 7 9) (h : x.x.t.length + l.length ≤ 1099511627776) : CallOK Tryd.prog 92 [.ptr (.hp 7) 0, .str l] x.heap (.ret (.tuple [.int .i64 l.length, .nilIface]) ({ x with x := x.x.add 7 9 l } : b7H).heap) := by
  obtain ⟨P0, P1, P2, P3, P4, P5, P6, ⟨ad, b, rows, v⟩⟩ := x
  obtain ⟨h1, h2, h3⟩ := hx
  unfold Bld.add Bld.t
  simp only [Bld.t] at h h1 h2 h3 ⊢
  generalize bytesOf rows = text at *
  subst h2 h3
  cases text with
  | nil =>
    cases l with
    | nil =>
      refine layW0_ok.call (fun k => ?_)
      rcases h1 with rfl | rfl
      · exact b7_ws0 P0 P1 P2 P3 P4 P5 P6 (.arr 1 [] v) k
      · exact b7_ws1 P0 P1 P2 P3 P4 P5 P6 (.arr 1 [] v) k
    | cons c t =>
      refine relAt_ok (i := 7) (c := 1) (j := 9) ?_
      simp only [List.length_nil] at h
      refine Lay.nil_ok.call (fun k => ?_)
      have e3 : wsV [] (c :: t) v = v + 1 + 1 := rfl
      rw [e3]
      generalize hl : c :: t = l at *
      have e4 : bfB 9 ([] ++ l) (v + 1 + 1) = .own 9 0 l.length (v + 1 + 1) false := by rw [← hl]; rfl
      rw [e4]
      rcases h1 with rfl | rfl
      · rw [show relAt 7 1 9 (b7P P0 P1 P2 P3 P4 P5 P6 .nilptr (bfB 9 [] v) (.arr 1 (([] : List UInt8).map byteRow) v)) = b7P P0 P1 P2 P3 P4 P5 P6 .nilptr (.own 9 0 0 (v + 1) false) (.arr 1 [] (v + 1)) from rfl, b7_ws2]
        simp (disch := omega) only [e_map, List.length_map, dT, beq_self_eq_true, Bool.and_true, cond_true, List.append_eq, List.nil_append, Nat.zero_add, List.length_nil, Nat.mul_one, List.map_nil]
      · rw [show relAt 7 1 9 (b7P P0 P1 P2 P3 P4 P5 P6 (.ptr (.hp 7) 0) (bfB 9 [] v) (.arr 1 (([] : List UInt8).map byteRow) v)) = b7P P0 P1 P2 P3 P4 P5 P6 (.ptr (.hp 7) 0) (.own 9 0 0 (v + 1) false) (.arr 1 [] (v + 1)) from rfl, b7_ws3]
        simp (disch := omega) only [e_map, List.length_map, dT, beq_self_eq_true, Bool.and_true, cond_true, List.append_eq, List.nil_append, Nat.zero_add, List.length_nil, Nat.mul_one, List.map_nil]
  | cons c t =>
    refine Lay.nil_ok.call (fun k => ?_)
    have e3 : wsV (c :: t) l v = v + 1 := rfl
    have e4 : bfB 9 ((c :: t) ++ l) (v + 1) = .own 9 0 ((c :: t) ++ l).length (v + 1) false := rfl
    have e5 : bfB 9 (c :: t) v = .own 9 0 (c :: t).length v false := rfl
    rw [e3, e4, e5]
    generalize c :: t = m at *
    rcases h1 with rfl | rfl
    · rw [b7_ws2]
      simp (disch := omega) only [e_map, List.length_map, dT, beq_self_eq_true, Bool.and_true, cond_true, List.append_eq, List.length_append, Nat.mul_one]
    · rw [b7_ws3]
      simp (disch := omega) only [e_map, List.length_map, dT, beq_self_eq_true, Bool.and_true, cond_true, List.append_eq, List.length_append, Nat.mul_one]
theorem b7_wb (x : b7H) (c : UInt8) (hx : x.x.can 7 9) (h : x.x.t.length ≤ 1073741824) : CallOK Tryd.prog 56 [.ptr (.hp 7) 0, .int .u8 c.toNat] x.heap (.ret .nilIface ({ x with x := x.x.add 7 9 [c] } : b7H).heap) := by
  obtain ⟨P0, P1, P2, P3, P4, P5, P6, ⟨ad, b, rows, v⟩⟩ := x
  obtain ⟨h1, h2, h3⟩ := hx
  unfold Bld.add Bld.t
  simp only [Bld.t] at h h1 h2 h3 ⊢
  generalize bytesOf rows = text at *
  subst h2 h3
  have e6 : [c].map byteRow = [[.int .u8 c.toNat]] := rfl
  rw [e6]
  cases text with
  | nil =>
    refine relAt_ok (i := 7) (c := 1) (j := 9) ?_
    refine Lay.nil_ok.call (fun k => ?_)
    have e3 : wsV [] [c] v = v + 1 + 1 := rfl
    have e4 : bfB 9 ([] ++ [c]) (v + 1 + 1) = .own 9 0 1 (v + 1 + 1) false := rfl
    rw [e3, e4]
    rcases h1 with rfl | rfl
    · rw [show relAt 7 1 9 (b7P P0 P1 P2 P3 P4 P5 P6 .nilptr (bfB 9 [] v) (.arr 1 (([] : List UInt8).map byteRow) v)) = b7P P0 P1 P2 P3 P4 P5 P6 .nilptr (.own 9 0 0 (v + 1) false) (.arr 1 [] (v + 1)) from rfl, b7_wb2]
      simp only [beq_self_eq_true]
      rfl
    · rw [show relAt 7 1 9 (b7P P0 P1 P2 P3 P4 P5 P6 (.ptr (.hp 7) 0) (bfB 9 [] v) (.arr 1 (([] : List UInt8).map byteRow) v)) = b7P P0 P1 P2 P3 P4 P5 P6 (.ptr (.hp 7) 0) (.own 9 0 0 (v + 1) false) (.arr 1 [] (v + 1)) from rfl, b7_wb3]
      simp only [beq_self_eq_true]
      rfl
  | cons d t =>
    refine Lay.nil_ok.call (fun k => ?_)
    have e3 : wsV (d :: t) [c] v = v + 1 := rfl
    have e4 : bfB 9 ((d :: t) ++ [c]) (v + 1) = .own 9 0 ((d :: t) ++ [c]).length (v + 1) false := rfl
    have e5 : bfB 9 (d :: t) v = .own 9 0 (d :: t).length v false := rfl
    rw [e3, e4, e5]
    generalize d :: t = m at *
    rcases h1 with rfl | rfl
    · rw [b7_wb2]
      simp (disch := omega) only [e_map, List.length_map, dT, beq_self_eq_true, Bool.and_true, cond_true, List.append_eq, List.length_append, Nat.mul_one, List.length_cons, List.length_nil]
    · rw [b7_wb3]
      simp (disch := omega) only [e_map, List.length_map, dT, beq_self_eq_true, Bool.and_true, cond_true, List.append_eq, List.length_append, Nat.mul_one, List.length_cons, List.length_nil]
theorem b7_len (x : b7H) (hx : x.x.can 7 9) : CallOK Tryd.prog 113 [.ptr (.hp 7) 0] x.heap (.ret (.int .i64 x.x.t.length) x.heap) := by
  obtain ⟨P0, P1, P2, P3, P4, P5, P6, ⟨ad, b, rows, v⟩⟩ := x
  obtain ⟨h1, h2, h3⟩ := hx
  simp only [Bld.t] at h1 h2 h3 ⊢
  generalize bytesOf rows = text at *
  subst h2 h3
  refine Lay.nil_ok.call (fun k => ?_)
  cases text with
  | nil => exact b7_len0 P0 P1 P2 P3 P4 P5 P6 ad _ k
  | cons c t => exact b7_len1 P0 P1 P2 P3 P4 P5 P6 ad (c :: t).length v _ k
theorem b7_str (x : b7H) (hx : x.x.can 7 9) (h : x.x.t.length ≤ 1099511627776) : CallOK Tryd.prog 58 [.ptr (.hp 7) 0] x.heap (.ret (.str x.x.t) ({ x with x := x.x.dead } : b7H).heap) := by
  obtain ⟨P0, P1, P2, P3, P4, P5, P6, ⟨ad, b, rows, v⟩⟩ := x
  obtain ⟨h1, h2, h3⟩ := hx
  unfold Bld.dead Bld.t
  simp only [Bld.t] at h h1 h2 h3 ⊢
  generalize bytesOf rows = text at *
  subst h2 h3
  cases text with
  | nil => exact str_ok0 (cs := [ad, .nilX]) rfl rfl
  | cons c t => exact str_ok (i := 7) (off := 0) (j := 9) (u := v) (cs := [ad, .own 9 0 (c :: t).length v false]) (l := c :: t) rfl rfl rfl rfl (by simp) h
noncomputable def b7_wsTold : FSp := mkF (fun xs H => (b7H.dec H, aS xs 1)) (fun x => x.1.x.can 7 9 ∧ x.1.x.t.length + x.2.length ≤ 1099511627776) (fun x => [.ptr (.hp 7) 0, .str x.2]) (fun x => x.1.heap) (fun x k => k (.ret (.tuple [.int .i64 x.2.length, .nilIface]) ({ x.1 with x := x.1.x.add 7 9 x.2 } : b7H).heap))
noncomputable def b7_wbTold : FSp := mkF (fun xs H => (b7H.dec H, UInt8.ofNat (aI xs 1).toNat)) (fun x => x.1.x.can 7 9 ∧ x.1.x.t.length ≤ 1073741824) (fun x => [.ptr (.hp 7) 0, .int .u8 x.2.toNat]) (fun x => x.1.heap) (fun x k => k (.ret .nilIface ({ x.1 with x := x.1.x.add 7 9 [x.2] } : b7H).heap))
noncomputable def b7_lenTold : FSp := mkF (fun xs H => b7H.dec H) (fun x => x.x.can 7 9) (fun x => [.ptr (.hp 7) 0]) (fun x => x.heap) (fun x k => k (.ret (.int .i64 x.x.t.length) x.heap))
noncomputable def b7_strTold : FSp := mkF (fun xs H => b7H.dec H) (fun x => x.x.can 7 9 ∧ x.x.t.length ≤ 1099511627776) (fun x => [.ptr (.hp 7) 0]) (fun x => x.heap) (fun x k => k (.ret (.str x.x.t) ({ x with x := x.x.dead } : b7H).heap))
noncomputable def b7_lay (L : Lay) : Lay := (((L.addF 92 b7_wsTold).addF 56 b7_wbTold).addF 113 b7_lenTold).addF 58 b7_strTold
theorem b7_ok {L : Lay} (h : L.OK Tryd.prog) : (b7_lay L).OK Tryd.prog :=
  (((h.addF (mkF_ok fun x h => ⟨_, fun k => rfl, b7_ws x.1 x.2 h.1 h.2⟩)).addF (mkF_ok fun x h => ⟨_, fun k => rfl, b7_wb x.1 x.2 h.1 h.2⟩)).addF (mkF_ok fun x h => ⟨_, fun k => rfl, b7_len x h⟩)).addF (mkF_ok fun x h => ⟨_, fun k => rfl, b7_str x h.1 h.2⟩)
end Go.Mu
set_option linter.unusedVariables false
set_option linter.unusedSimpArgs false
set_option maxRecDepth 100000
namespace Go.Mu
open Go Go.Proofs
structure StA where
  w : WdH
  x : Bld
  at_ : Nat
  i : Nat
abbrev stP (w : WdH) (x : Bld) : Heap := b7P w.U0 w.U1 w.U2 (.var [.str w.s, .int .i64 w.base, .int .i64 w.a, w.o]) (.note wsT 4) w.O (.note wdT 0) x.ad x.b (.arr 1 x.rows x.v)
noncomputable def layS1 : Lay := b7_lay layX3
theorem layS1_ok : layS1.OK Tryd.prog := b7_ok layX3_ok
def escI (d : UInt8) : Int :=
  let n11 : Int := if (34 == d) = true then 0 else -1
  let n12 : Int := if (92 == d) = true then 0 else if (n11 == -1) = true then -1 else n11 + 1
  let n13 : Int := if (116 == d) = true then 0 else if (n12 == -1) = true then -1 else n12 + 1
  if (110 == d) = true then 0 else if (n13 == -1) = true then -1 else n13 + 1
def escO (d : UInt8) : UInt8 := [10, 9, 92, 34].getD (escI d).toNat 0
theorem escI_lt (d : UInt8) : escI d < 4 := by
  have h : ∀ n : Fin 256, escI (UInt8.ofNat n) < 4 := by decide +kernel
  have := h ⟨d.toNat, d.toNat_lt⟩
  simpa using this
theorem ofU8 (c : UInt8) : UInt8.ofNat (c.toNat : Int).toNat = c := by simp
theorem nec {c : UInt8} {n : Nat} (h : n < 256) : ((c.toNat : Int) != no_index (@OfNat.ofNat Int n _)) = !(c == (@OfNat.ofNat UInt8 n _)) := by
  rw [bne, eqc h]
structure StR where
  e : Int
  fin : Bool
  off : Nat
  text : List UInt8
  to : Nat
  x : Bld
def strM (at_ : Nat) : List UInt8 → Bld → Nat → StR
  | [], x, i => ⟨33, true, at_, [], 0, x⟩
  | [c], x, i => bif c == 34 then (bif decide (x.t.length ≤ 4096) then ⟨0, false, 0, x.t, i + 1, x.dead⟩ else ⟨5, false, at_, [], 0, x⟩) else bif c == 92 || c == 10 then ⟨33, false, i, [], 0, x⟩ else ⟨33, true, at_, [], 0, x.add 7 9 [c]⟩
  | c :: d :: u, x, i => bif c == 34 then (bif decide (x.t.length ≤ 4096) then ⟨0, false, 0, x.t, i + 1, x.dead⟩ else ⟨5, false, at_, [], 0, x⟩) else bif c == 92 && decide (escI d ≥ 0) then strM at_ u (x.add 7 9 [escO d]) (i + 2) else bif c == 92 || c == 10 then ⟨33, false, i, [], 0, x⟩ else strM at_ (d :: u) (x.add 7 9 [c]) (i + 1)
noncomputable def strwSp : LSp := mkL (fun vs _ H => (WdH.dec H, bld H 7 9, (aI vs 1).toNat, (aI vs 3).toNat)) (fun x => WdOk x.1 ∧ x.2.2.1 ≤ x.1.s.length ∧ x.2.2.2 ≤ x.1.s.length ∧ x.2.1.can 7 9 ∧ x.2.1.t.length ≤ x.2.2.2) (fun x => [.ptr (.hp 3) 0, .int .i64 x.2.2.1, .ptr (.hp 7) 0, .int .i64 x.2.2.2]) (fun _ => []) (fun x => stP x.1 x.2.1)
  (fun x k => cond ((strM x.2.2.1 (x.1.s.drop x.2.2.2) x.2.1 x.2.2.2).e == 0) (k .ret [.ptr (.hp 3) 0, .int .i64 x.2.2.1, .str (strM x.2.2.1 (x.1.s.drop x.2.2.2) x.2.1 x.2.2.2).text, .int .i64 (strM x.2.2.1 (x.1.s.drop x.2.2.2) x.2.1 x.2.2.2).to] [] (stP x.1 (strM x.2.2.1 (x.1.s.drop x.2.2.2) x.2.1 x.2.2.2).x))
    (cond (strM x.2.2.1 (x.1.s.drop x.2.2.2) x.2.1 x.2.2.2).fin (k (.exit 0) [.ptr (.hp 3) 0, .int .i64 x.2.2.1, .undef, .undef] [] (stP x.1 (strM x.2.2.1 (x.1.s.drop x.2.2.2) x.2.1 x.2.2.2).x))
      (k (.panic (flt (x.1.base + (strM x.2.2.1 (x.1.s.drop x.2.2.2) x.2.1 x.2.2.2).off) (strM x.2.2.1 (x.1.s.drop x.2.2.2) x.2.1 x.2.2.2).e)) [.ptr (.hp 3) 0, .int .i64 x.2.2.1, .undef, .undef] [] (stP x.1 (strM x.2.2.1 (x.1.s.drop x.2.2.2) x.2.1 x.2.2.2).x))))
noncomputable def strwFH : FH := { FH.of [(3, loopSpec 98 [0,1,6,7] [] [0,1,4,5] [] strwSp)] with heap := [6], typed := [(6, [(0, bT)])], exact := true }
theorem strw_step (U0 U1 U2 : Obj) (s : List UInt8) (base a : Int) (o : AVal) (O : Obj) (x : Bld) (at_ i : Int) (D : List (FuncId × List AVal)) (k : Kont) (n0 : Int) (e_n0 : n0 = ((↑s.length : Int)))
  (c1 : Bool) (e_c1 : c1 = (decide (i < n0)))
  (n2 : Int) (e_n2 : n2 = ((↑(s.getD i.toNat 0).toNat : Int)))
  (l3 : List UInt8) (e_l3 : l3 = ((Bld.mk x.ad x.b x.rows x.v).t))
  (m4 : Nat) (e_m4 : m4 = (l3.length))
  (c5 : Bool) (e_c5 : c5 = (sameV (AVal.int IntKind.i64 base) (AVal.int IntKind.i64 base) && true && true && true))
  (n6 : Int) (e_n6 : n6 = (IntKind.i64.wrap (i + 1)))
  (c7 : Bool) (e_c7 : c7 = (decide (n6 < n0)))
  (c8 : Bool) (e_c8 : c8 = (decide (0 ≤ n6) && c7))
  (c9 : Bool) (e_c9 : c9 = (bif n2 == 92 then c7 else false))
  (v10 : UInt8) (e_v10 : v10 = ((↑(s.getD n6.toNat 0).toNat : Int).toNat.toUInt8))
  (n11 : Int) (e_n11 : n11 = (if (34 == v10) = true then 0 else -1))
  (n12 : Int) (e_n12 : n12 = (if (92 == v10) = true then 0 else if (n11 == -1) = true then -1 else n11 + 1))
  (n13 : Int) (e_n13 : n13 = (if (116 == v10) = true then 0 else if (n12 == -1) = true then -1 else n12 + 1))
  (n14 : Int) (e_n14 : n14 = (if (110 == v10) = true then 0 else if (n13 == -1) = true then -1 else n13 + 1))
  (n15 : Int) (e_n15 : n15 = ((↑(([10, 9, 92, 34] : List UInt8).getD n14.toNat 0).toNat : Int)))
  (v16 : UInt8) (e_v16 : v16 = (UInt8.ofNat n15.toNat))
  (l17 : List UInt8) (e_l17 : l17 = ([v16]))
  (m18 : Nat) (e_m18 : m18 = (wsV l3 l17 x.v))
  (v19 : UInt8) (e_v19 : v19 = (UInt8.ofNat n2.toNat))
  (l20 : List UInt8) (e_l20 : l20 = ([v19]))
  (m21 : Nat) (e_m21 : m21 = (wsV l3 l20 x.v)) : lturn Tryd.prog layS1 strwFH 87 3 [0,1,6,7] [] [0,1,4,5] [] (stL 98 [0,1,6,7] [.ptr (.hp 3) 0, .int .i64 at_, .ptr (.hp 7) 0, .int .i64 i] [] [] (stP ⟨U0, U1, U2, s, base, a, o, O⟩ x) D) k = (
  bif c1 then
  bif decide (0 ≤ i) && c1 then
  bif n2 == 34 then
  bif
  tst
  (Bld.can 7 9 (Bld.mk x.ad x.b x.rows x.v) ∧
  SubL [AVal.ptr (Oid.hp 7) 0] [AVal.ptr (Oid.hp 7) 0] ∧
  stP (WdH.mk U0 U1 U2 s base a o O) x =
  (b7H.mk U0 U1 U2 (Obj.var [AVal.str s, AVal.int IntKind.i64 base, AVal.int IntKind.i64 a, o])
  (Obj.note 83 4) O (Obj.note 62 0) (Bld.mk x.ad x.b x.rows x.v)).heap) then
  bif !decide ((↑m4 : Int) ≤ 4096) then
  bif c5 then
  k
  (AExit.panic
  (AVal.iface 79
  (AVal.agg [AVal.int IntKind.i64 (IntKind.i64.wrap (base + at_)), AVal.int IntKind.i64 5])))
  (stL 98 [0, 1, 4, 5] [AVal.ptr (Oid.hp 3) 0, AVal.int IntKind.i64 at_, AVal.undef, AVal.undef] [] []
  (b7H.mk U0 U1 U2 (Obj.var [AVal.str s, AVal.int IntKind.i64 base, AVal.int IntKind.i64 a, o])
  (Obj.note 83 4) O (Obj.note 62 0) (Bld.mk x.ad x.b x.rows x.v)).heap
  D)
  else none
  else
  bif c5 then
  bif
  tst
  ((Bld.can 7 9 (Bld.mk x.ad x.b x.rows x.v) ∧ m4 ≤ 1099511627776) ∧
  SubL [AVal.ptr (Oid.hp 7) 0] [AVal.ptr (Oid.hp 7) 0] ∧
  (b7H.mk U0 U1 U2 (Obj.var [AVal.str s, AVal.int IntKind.i64 base, AVal.int IntKind.i64 a, o])
  (Obj.note 83 4) O (Obj.note 62 0) (Bld.mk x.ad x.b x.rows x.v)).heap =
  (b7H.mk U0 U1 U2 (Obj.var [AVal.str s, AVal.int IntKind.i64 base, AVal.int IntKind.i64 a, o])
  (Obj.note 83 4) O (Obj.note 62 0) (Bld.mk x.ad x.b x.rows x.v)).heap) then
  k AExit.ret
  (stL 98 [0, 1, 4, 5]
  [AVal.ptr (Oid.hp 3) 0, AVal.int IntKind.i64 at_, AVal.str l3, AVal.int IntKind.i64 n6] [] []
  (b7H.mk U0 U1 U2 (Obj.var [AVal.str s, AVal.int IntKind.i64 base, AVal.int IntKind.i64 a, o])
  (Obj.note 83 4) O (Obj.note 62 0) (Bld.mk x.ad x.b [] (bif l3 == [] then x.v else x.v + 1))).heap
  D)
  else none
  else none
  else none
  else
  bif c8 || !c9 then
  bif bif c9 then decide (n14 ≥ 0) else false then
  bif c8 then
  bif decide (0 ≤ n14) && decide (n14 < 4) then
  bif
  tst
  ((Bld.can 7 9 (Bld.mk x.ad x.b x.rows x.v) ∧ m4 ≤ 1073741824) ∧
  SubL [AVal.ptr (Oid.hp 7) 0, AVal.int IntKind.u8 n15]
  [AVal.ptr (Oid.hp 7) 0, AVal.int IntKind.u8 (↑v16.toNat : Int)] ∧
  stP (WdH.mk U0 U1 U2 s base a o O) x =
  (b7H.mk U0 U1 U2 (Obj.var [AVal.str s, AVal.int IntKind.i64 base, AVal.int IntKind.i64 a, o])
  (Obj.note 83 4) O (Obj.note 62 0) (Bld.mk x.ad x.b x.rows x.v)).heap) then
  k AExit.normal
  (stL 98 [0, 1, 6, 7]
  [AVal.ptr (Oid.hp 3) 0, AVal.int IntKind.i64 at_, AVal.ptr (Oid.hp 7) 0,
  AVal.int IntKind.i64 (IntKind.i64.wrap (n6 + 1))]
  [] []
  (b7H.mk U0 U1 U2 (Obj.var [AVal.str s, AVal.int IntKind.i64 base, AVal.int IntKind.i64 a, o])
  (Obj.note 83 4) O (Obj.note 62 0)
  (Bld.mk (AVal.ptr (Oid.hp 7) 0) (bfB 9 (l3.append l17) m18)
  (x.rows.append [[AVal.int IntKind.u8 (↑v16.toNat : Int)]]) m18)).heap
  D)
  else none
  else none
  else none
  else
  bif !bif n2 != 92 then n2 != 10 else false then
  k
  (AExit.panic
  (AVal.iface 79
  (AVal.agg [AVal.int IntKind.i64 (IntKind.i64.wrap (base + i)), AVal.int IntKind.i64 33])))
  (stL 98 [0, 1, 4, 5] [AVal.ptr (Oid.hp 3) 0, AVal.int IntKind.i64 at_, AVal.undef, AVal.undef] [] []
  (stP (WdH.mk U0 U1 U2 s base a o O) x) D)
  else
  bif
  tst
  ((Bld.can 7 9 (Bld.mk x.ad x.b x.rows x.v) ∧ m4 ≤ 1073741824) ∧
  SubL [AVal.ptr (Oid.hp 7) 0, AVal.int IntKind.u8 n2]
  [AVal.ptr (Oid.hp 7) 0, AVal.int IntKind.u8 (↑v19.toNat : Int)] ∧
  stP (WdH.mk U0 U1 U2 s base a o O) x =
  (b7H.mk U0 U1 U2 (Obj.var [AVal.str s, AVal.int IntKind.i64 base, AVal.int IntKind.i64 a, o])
  (Obj.note 83 4) O (Obj.note 62 0) (Bld.mk x.ad x.b x.rows x.v)).heap) then
  k AExit.normal
  (stL 98 [0, 1, 6, 7]
  [AVal.ptr (Oid.hp 3) 0, AVal.int IntKind.i64 at_, AVal.ptr (Oid.hp 7) 0, AVal.int IntKind.i64 n6] []
  []
  (b7H.mk U0 U1 U2 (Obj.var [AVal.str s, AVal.int IntKind.i64 base, AVal.int IntKind.i64 a, o])
  (Obj.note 83 4) O (Obj.note 62 0)
  (Bld.mk (AVal.ptr (Oid.hp 7) 0) (bfB 9 (l3.append l20) m21)
  (x.rows.append [[AVal.int IntKind.u8 (↑v19.toNat : Int)]]) m21)).heap
  D)
  else none
  else none
  else none
  else
  k (AExit.exit 0)
  (stL 98 [0, 1, 4, 5] [AVal.ptr (Oid.hp 3) 0, AVal.int IntKind.i64 at_, AVal.undef, AVal.undef] [] []
        (stP (WdH.mk U0 U1 U2 s base a o O) x) D)) := by
  subst e_n0 e_c1 e_n2 e_l3 e_m4 e_c5 e_n6 e_c7 e_c8 e_c9 e_v10 e_n11 e_n12 e_n13 e_n14 e_n15 e_v16 e_l17 e_m18 e_v19 e_l20 e_m21
  kernel_rfl
def StR.ex (r : StR) (base : Int) : AExit := cond (r.e == 0) .ret (cond r.fin (.exit 0) (.panic (flt (base + r.off) r.e)))
def StR.vs (r : StR) (at_ : Nat) : List AVal := [.ptr (.hp 3) 0, .int .i64 at_, cond (r.e == 0) (.str r.text) .undef, cond (r.e == 0) (.int .i64 r.to) .undef]
theorem strw_runs (w : WdH) (hw : WdOk w) (at_ : Nat) (ha : at_ ≤ w.s.length) : ∀ (m : Nat) (x : Bld) (i : Nat), w.s.length - i ≤ m → i ≤ w.s.length → x.can 7 9 → x.t.length ≤ i →
    LoopRuns (lturn Tryd.prog layS1 strwFH 87 3 [0,1,6,7] [] [0,1,4,5] []) 98 [0,1,6,7] [] [0,1,4,5] [] [.ptr (.hp 3) 0, .int .i64 at_, .ptr (.hp 7) 0, .int .i64 i] [] (stP w x)
      ((strM at_ (w.s.drop i) x i).ex w.base) ((strM at_ (w.s.drop i) x i).vs at_) [] (stP w (strM at_ (w.s.drop i) x i).x) := by
  obtain ⟨U0, U1, U2, s, base, a, o, O⟩ := w
  obtain ⟨h1, h2, h3⟩ := hw
  simp only at h1 h2 h3 ha ⊢
  intro m
  induction m using Nat.strongRecOn with
  | _ m ih =>
  intro x i hm hi hx hl
  by_cases hlt : i < s.length
  case neg =>
    have e : s.drop i = [] := List.drop_eq_nil_of_le (by omega)
    rw [e]
    refine .stop (by simp [strM, StR.ex]) (fun D k => ?_)
    exact (strw_step U0 U1 U2 s base a o O x at_ i D k _ rfl false (by rw [dF (by omega)]) _ rfl _ rfl _ rfl _ rfl _ rfl _ rfl _ rfl _ rfl _ rfl _ rfl _ rfl _ rfl _ rfl _ rfl _ rfl _ rfl _ rfl _ rfl _ rfl _ rfl).trans rfl
  have e2 : IntKind.i64.wrap ((i : Int) + 1) = ((i + 1 : Nat) : Int) := by rw [wrap_of (by omega) (by omega)]; omega
  have e3 : ((i + 1 : Nat) : Int) + 1 = ((i + 2 : Nat) : Int) := by omega
  have ed := drop_cons_of s i 0 hlt
  generalize hc : s.getD i 0 = c at ed
  have key := fun D k => strw_step U0 U1 U2 s base a o O x at_ i D k _ rfl true (by rw [dT (by omega)]) (c.toNat : Int) (by rw [Int.toNat_natCast, hc]) x.t rfl _ rfl true (by rw [sameV_refl]; rfl) ((i + 1 : Nat) : Int) (by rw [e2])
  by_cases hlt2 : i + 1 < s.length
  · have ed2 := drop_cons_of s (i + 1) 0 hlt2
    generalize hd : s.getD (i + 1) 0 = d at ed2
    have he : s.drop i = c :: d :: s.drop (i + 2) := by rw [ed, ed2]
    have key2 := fun D k => key D k true (by rw [dT (by omega)]) true (by rw [dT (by omega)]; rfl) (c == 92) (by rw [eqc (by decide)]; cases c == 92 <;> rfl) d (by simp only [Int.toNat_natCast, hd]; simp) _ rfl _ rfl _ rfl (escI d) rfl ((escO d).toNat : Int) rfl (escO d) (by rw [ofU8]) _ rfl _ rfl c (by rw [ofU8]) _ rfl _ rfl
    clear key
    rw [he, strM]
    simp (disch := first | omega | decide) only [dT, cond_true, Bool.true_and, Bool.true_or, eqc, nec, wrap_of, bif_and, Bool.and_self] at key2
    cases h34 : c == 34 with
    | true =>
      simp only [h34, cond_true] at key2 ⊢
      replace key2 := fun D k => (key2 D k).trans ((congrArg (fun c => cond c _ none) (tst_true ⟨hx, .refl _, by trivial⟩)).trans rfl)
      by_cases hn : x.t.length ≤ 4096
      · simp (disch := omega) only [dT, Bool.not_true, cond_false, cond_true] at key2 ⊢
        replace key2 := fun D k => (key2 D k).trans ((congrArg (fun c => cond c _ none) (tst_true ⟨⟨hx, show x.t.length ≤ 1099511627776 by omega⟩, .refl _, by trivial⟩)).trans rfl)
        exact .stop (by simp [StR.ex]) key2
      · simp (disch := omega) only [dF, Bool.not_false, cond_false, cond_true] at key2 ⊢
        exact .stop (by simp [StR.ex]) key2
    | false =>
      simp only [h34, cond_false] at key2 ⊢
      have tb : ∀ e : UInt8, tst ((Bld.can 7 9 (Bld.mk x.ad x.b x.rows x.v) ∧ x.t.length ≤ 1073741824) ∧ SubL [AVal.ptr (Oid.hp 7) 0, AVal.int IntKind.u8 e.toNat] [AVal.ptr (Oid.hp 7) 0, AVal.int IntKind.u8 e.toNat] ∧ True) = true := fun e => tst_true ⟨⟨hx, by omega⟩, .refl _, trivial⟩
      cases h92 : c == 92 && decide (escI d ≥ 0) with
      | true =>
        simp only [h92, cond_true] at key2 ⊢
        have h0 : escI d ≥ 0 := by rw [Bool.and_eq_true, decide_eq_true_eq] at h92; exact h92.2
        have h4 := escI_lt d
        simp (disch := omega) only [dT, Bool.and_self, cond_true] at key2
        replace key2 := fun D k => (key2 D k).trans ((congrArg (fun c => cond c _ none) (tb (escO d))).trans rfl)
        have ih2 := ih (m - 2) (by omega) (x.add 7 9 [escO d]) (i + 2) (by omega) (by omega) (Bld.add_can hx _) (by rw [Bld.add_t, List.length_append]; show _ + 1 ≤ _; omega)
        rw [e3] at key2
        exact .step key2 ih2
      | false =>
        simp only [h92, cond_false] at key2 ⊢
        have en : (!(!(c == 92) && !(c == 10))) = (c == 92 || c == 10) := by cases c == 92 <;> cases c == 10 <;> rfl
        simp only [en] at key2
        cases hb : c == 92 || c == 10 with
        | true =>
          simp only [hb, cond_true] at key2 ⊢
          exact .stop (by simp [StR.ex]) key2
        | false =>
          simp only [hb, cond_false] at key2 ⊢
          replace key2 := fun D k => (key2 D k).trans ((congrArg (fun c => cond c _ none) (tb c)).trans rfl)
          have ih2 := ih (m - 1) (by omega) (x.add 7 9 [c]) (i + 1) (by omega) (by omega) (Bld.add_can hx _) (by rw [Bld.add_t, List.length_append]; show _ + 1 ≤ _; omega)
          rw [ed2] at ih2
          exact .step key2 ih2
  · have he : s.drop i = [c] := by rw [ed, List.drop_eq_nil_of_le (by omega)]
    have key2 := fun D k => key D k false (by rw [dF (by omega)]) false (by rw [Bool.and_false]) false (by cases ((c.toNat : Int) == 92) <;> rfl) _ rfl _ rfl _ rfl _ rfl _ rfl _ rfl _ rfl _ rfl _ rfl c (by rw [ofU8]) _ rfl _ rfl
    clear key
    rw [he, strM]
    simp (disch := first | omega | decide) only [dT, cond_true, Bool.true_and, Bool.or_true, eqc, nec, bif_and, Bool.and_self, Bool.not_false, cond_false, Bool.false_and, wrap_of] at key2
    have tb : ∀ e : UInt8, tst ((Bld.can 7 9 (Bld.mk x.ad x.b x.rows x.v) ∧ x.t.length ≤ 1073741824) ∧ SubL [AVal.ptr (Oid.hp 7) 0, AVal.int IntKind.u8 e.toNat] [AVal.ptr (Oid.hp 7) 0, AVal.int IntKind.u8 e.toNat] ∧ True) = true := fun e => tst_true ⟨⟨hx, by omega⟩, .refl _, trivial⟩
    cases h34 : c == 34 with
    | true =>
      simp only [h34, cond_true] at key2 ⊢
      replace key2 := fun D k => (key2 D k).trans ((congrArg (fun c => cond c _ none) (tst_true ⟨hx, .refl _, by trivial⟩)).trans rfl)
      by_cases hn : x.t.length ≤ 4096
      · simp (disch := omega) only [dT, Bool.not_true, cond_false, cond_true] at key2 ⊢
        replace key2 := fun D k => (key2 D k).trans ((congrArg (fun c => cond c _ none) (tst_true ⟨⟨hx, show x.t.length ≤ 1099511627776 by omega⟩, .refl _, by trivial⟩)).trans rfl)
        exact .stop (by simp [StR.ex]) key2
      · simp (disch := omega) only [dF, Bool.not_false, cond_false, cond_true] at key2 ⊢
        exact .stop (by simp [StR.ex]) key2
    | false =>
      simp only [h34, cond_false] at key2 ⊢
      have en : (!(!(c == 92) && !(c == 10))) = (c == 92 || c == 10) := by cases c == 92 <;> cases c == 10 <;> rfl
      simp only [en] at key2
      cases hb : c == 92 || c == 10 with
      | true =>
        simp only [hb, cond_true] at key2 ⊢
        exact .stop (by simp [StR.ex]) key2
      | false =>
        simp only [hb, cond_false] at key2 ⊢
        replace key2 := fun D k => (key2 D k).trans ((congrArg (fun c => cond c _ none) (tb c)).trans rfl)
        have ih2 := ih (m - 1) (by omega) (x.add 7 9 [c]) (i + 1) (by omega) (by omega) (Bld.add_can hx _) (by rw [Bld.add_t, List.length_append]; show _ + 1 ≤ _; omega)
        rw [List.drop_eq_nil_of_le (show s.length ≤ i + 1 by omega), strM] at ih2
        exact .step key2 ih2
theorem strwSp_ok : SpOK (lturn Tryd.prog layS1 strwFH 87 3 [0,1,6,7] [] [0,1,4,5] []) 98 [0,1,6,7] [] [0,1,4,5] [] strwSp := mkL_ok fun a h => by
  obtain ⟨w, x, at_, i⟩ := a
  have key := strw_runs w h.1 at_ h.2.1 _ x i (Nat.le_refl _) h.2.2.1 h.2.2.2.1 h.2.2.2.2
  show ∃ e vs bs H, (∀ k : AExit → List AVal → List (List AVal) → Heap → Ans, cond ((strM at_ (w.s.drop i) x i).e == 0) _ (cond (strM at_ (w.s.drop i) x i).fin _ _) = k e vs bs H) ∧ _
  unfold StR.ex StR.vs at key
  cases hb : (strM at_ (w.s.drop i) x i).e == 0 with
  | true => rw [hb] at key; exact ⟨_, _, _, _, fun k => rfl, key⟩
  | false =>
    rw [hb] at key
    cases hf : (strM at_ (w.s.drop i) x i).fin with
    | true => rw [hf] at key; exact ⟨_, _, _, _, fun k => rfl, key⟩
    | false => rw [hf] at key; exact ⟨_, _, _, _, fun k => rfl, key⟩
noncomputable def layS2 : Lay := layS1.addL 87 strwFH
theorem strw_fun (U0 U1 U2 : Obj) (s : List UInt8) (base a : Int) (o : AVal) (O : Obj) (at_ : Int) (k : Out → Ans) : iFun Tryd.prog (layS2.hd Tryd.prog) layS2.fhs 0 87 [.ptr (.hp 3) 0, .int .i64 at_] (HwP U0 U1 U2 s base a o O) k = (
 let n0 : Int := IntKind.i64.wrap (at_ + 1);
 let m1 : Nat := n0.toNat;
 let n2 : Int := (↑at_.toNat : Int);
 let n3 : Int := (strM at_.toNat (List.drop m1 s) (Bld.mk AVal.nilptr AVal.nilX [] 0) m1).e;
  bif
  tst
  ((WdOk (WdH.mk U0 U1 U2 s base a o O) ∧
  at_.toNat ≤ s.length ∧ m1 ≤ s.length ∧ Bld.can 7 9 (Bld.mk AVal.nilptr AVal.nilX [] 0) ∧ 0 ≤ m1) ∧
  SubTL [AVal.ptr (Oid.hp 3) 0, AVal.int IntKind.i64 at_, AVal.ptr (Oid.hp 7) 0, AVal.int IntKind.i64 n0]
  [AVal.ptr (Oid.hp 3) 0, AVal.int IntKind.i64 n2, AVal.ptr (Oid.hp 7) 0, AVal.int IntKind.i64 (↑m1 : Int)] ∧
  ([] : List (List AVal)) = [] ∧
  [U0, U1, U2, Obj.var [AVal.str s, AVal.int IntKind.i64 base, AVal.int IntKind.i64 a, o], Obj.note 83 4, O,
  Obj.note 62 0, Obj.var [AVal.nilptr, AVal.nilX], Obj.note 98 2, Obj.arr 1 [] 0, Obj.note 5 0] =
  stP (WdH.mk U0 U1 U2 s base a o O) (Bld.mk AVal.nilptr AVal.nilX [] 0)) then
  bif n3 == 0 then
  k
  (Out.ret
  (AVal.tuple
  [AVal.str (strM at_.toNat (List.drop m1 s) (Bld.mk AVal.nilptr AVal.nilX [] 0) m1).text,
  AVal.int IntKind.i64 (↑(strM at_.toNat (List.drop m1 s) (Bld.mk AVal.nilptr AVal.nilX [] 0) m1).to : Int)])
  (stP (WdH.mk U0 U1 U2 s base a o O) (strM at_.toNat (List.drop m1 s) (Bld.mk AVal.nilptr AVal.nilX [] 0) m1).x))
  else
  bif (strM at_.toNat (List.drop m1 s) (Bld.mk AVal.nilptr AVal.nilX [] 0) m1).fin then
  k
  (Out.panic
  (AVal.iface 79 (AVal.agg [AVal.int IntKind.i64 (IntKind.i64.wrap (base + n2)), AVal.int IntKind.i64 33]))
  (stP (WdH.mk U0 U1 U2 s base a o O)
  (strM at_.toNat (List.drop m1 s) (Bld.mk AVal.nilptr AVal.nilX [] 0) m1).x))
  else
  k
  (Out.panic
  (flt (base + (↑(strM at_.toNat (List.drop m1 s) (Bld.mk AVal.nilptr AVal.nilX [] 0) m1).off : Int)) n3)
  (stP (WdH.mk U0 U1 U2 s base a o O)
  (strM at_.toNat (List.drop m1 s) (Bld.mk AVal.nilptr AVal.nilX [] 0) m1).x))
  else none) := by kernel_rfl
theorem layS2_ok : layS2.OK Tryd.prog := layS1_ok.loop1 (id := 3) (by kernel_rfl) (by kernel_rfl) (by kernel_rfl) strwSp_ok
structure StQ where
  e : Int
  off : Nat
  text : List UInt8
  to : Nat
def strQ (at_ : Nat) : List UInt8 → List UInt8 → Nat → StQ
  | [], acc, i => ⟨33, at_, [], 0⟩
  | [c], acc, i => bif c == 34 then (bif decide (acc.length ≤ 4096) then ⟨0, 0, acc, i + 1⟩ else ⟨5, at_, [], 0⟩) else bif c == 92 || c == 10 then ⟨33, i, [], 0⟩ else ⟨33, at_, [], 0⟩
  | c :: d :: u, acc, i => bif c == 34 then (bif decide (acc.length ≤ 4096) then ⟨0, 0, acc, i + 1⟩ else ⟨5, at_, [], 0⟩) else bif c == 92 && decide (escI d ≥ 0) then strQ at_ u (acc ++ [escO d]) (i + 2) else bif c == 92 || c == 10 then ⟨33, i, [], 0⟩ else strQ at_ (d :: u) (acc ++ [c]) (i + 1)
theorem strM_Q (at_ : Nat) : ∀ (n : Nat) (t : List UInt8) (x : Bld) (i : Nat), t.length ≤ n → strQ at_ t x.t i = ⟨(strM at_ t x i).e, (strM at_ t x i).off, (strM at_ t x i).text, (strM at_ t x i).to⟩ ∧ ((strM at_ t x i).fin = true → (strM at_ t x i).e = 33 ∧ (strM at_ t x i).off = at_)
  | n, [], x, i, _ => ⟨rfl, fun _ => ⟨rfl, rfl⟩⟩
  | n, [c], x, i, _ => by
    rw [strQ, strM]
    cases c == 34 with
    | true =>
      cases decide (x.t.length ≤ 4096)
      · exact ⟨rfl, fun h => by cases h⟩
      · exact ⟨rfl, fun h => by cases h⟩
    | false =>
      cases c == 92 || c == 10
      · exact ⟨rfl, fun _ => ⟨rfl, rfl⟩⟩
      · exact ⟨rfl, fun h => by cases h⟩
  | 0, c :: d :: u, x, i, h => by simp at h
  | n + 1, c :: d :: u, x, i, h => by
    rw [strQ, strM]
    simp only [List.length_cons] at h
    cases c == 34 with
    | true =>
      cases decide (x.t.length ≤ 4096)
      · exact ⟨rfl, fun h => by cases h⟩
      · exact ⟨rfl, fun h => by cases h⟩
    | false =>
      cases c == 92 && decide (escI d ≥ 0) with
      | true =>
        have := strM_Q at_ n u (x.add 7 9 [escO d]) (i + 2) (by omega)
        rw [Bld.add_t] at this
        exact this
      | false =>
        cases c == 92 || c == 10 with
        | true => exact ⟨rfl, fun h => by cases h⟩
        | false =>
          have := strM_Q at_ n (d :: u) (x.add 7 9 [c]) (i + 1) (by simp only [List.length_cons]; omega)
          rw [Bld.add_t] at this
          exact this
theorem CallOK.shrinkP {P : Program} {f : FuncId} {xs : List AVal} {H H' G : Heap} {v : AVal} (hc : CallOK P f xs H (.panic v (H' ++ G))) (hl : H.length ≤ H'.length) (hv : refsD 6 H'.length v = true) (hH : ∀ x ∈ H', refsO H'.length x = true) : CallOK P f xs H (.panic v H') := by
  intro w E cs sim hlen hr
  refine Calls.mono (hc w E cs sim hlen hr) (fun e w' hp => ?_)
  cases e with
  | returned c => exact hp.elim
  | panicked c =>
    obtain ⟨E', c0, e0, ev, sim', hrep⟩ := hp
    exact ⟨E', c0, e0, ev.shrink hl, sim'.shrink hH, hrep.shrink 6 _ _ hv⟩
  | outgrown => exact hp.elim
def WdR (x : WdH) : Prop := ∀ o ∈ x.heap, refsO 7 o = true
noncomputable def strwTold : FSp := mkF (fun xs H => (WdH.dec H, (aI xs 1).toNat)) (fun x => WdOk x.1 ∧ WdR x.1 ∧ x.2 < x.1.s.length) (fun x => [.ptr (.hp 3) 0, .int .i64 x.2]) (fun x => x.1.heap)
  (fun x k => cond ((strQ x.2 (x.1.s.drop (x.2 + 1)) [] (x.2 + 1)).e == 0) (k (.ret (.tuple [.str (strQ x.2 (x.1.s.drop (x.2 + 1)) [] (x.2 + 1)).text, .int .i64 (strQ x.2 (x.1.s.drop (x.2 + 1)) [] (x.2 + 1)).to]) x.1.heap))
    (k (.panic (flt (x.1.base + (strQ x.2 (x.1.s.drop (x.2 + 1)) [] (x.2 + 1)).off) (strQ x.2 (x.1.s.drop (x.2 + 1)) [] (x.2 + 1)).e) x.1.heap)))
theorem strwTold_ok : ∀ xs H k out, strwTold xs H k = some out → ∃ o, CallOK Tryd.prog 87 xs H o ∧ k o = some out := mkF_ok fun x h => by
  obtain ⟨⟨U0, U1, U2, s, base, a, o, O⟩, at_⟩ := x
  obtain ⟨hw, hR, ha⟩ := h
  have hw' := hw
  obtain ⟨h1, h2, h3⟩ := hw'
  simp only at h1 h2 h3 ha
  have e2 : IntKind.i64.wrap ((at_ : Int) + 1) = ((at_ + 1 : Nat) : Int) := by rw [wrap_of (by omega) (by omega)]; omega
  have key := fun k => strw_fun U0 U1 U2 s base a o O at_ k
  simp only [Int.toNat_natCast, e2] at key
  replace key := fun k => (key k).trans ((congrArg (fun c => cond c _ none) (tst_true ⟨⟨hw, show at_ ≤ s.length by omega, show at_ + 1 ≤ s.length by omega, Bld.new_can 7 9, Nat.zero_le _⟩, .refl _, by trivial, by trivial⟩)).trans rfl)
  obtain ⟨q1, q2⟩ := strM_Q at_ _ (s.drop (at_ + 1)) Bld.new (at_ + 1) (Nat.le_refl _)
  have q1' : strQ at_ (s.drop (at_ + 1)) [] (at_ + 1) = _ := q1
  show ∃ o, (∀ k : Out → Ans, cond ((strQ at_ (s.drop (at_ + 1)) [] (at_ + 1)).e == 0) _ _ = k o) ∧ _
  dsimp only
  rw [q1']
  simp only
  replace key : ∀ k, iFun Tryd.prog (layS2.hd Tryd.prog) layS2.fhs 0 87 [.ptr (.hp 3) 0, .int .i64 at_] (HwP U0 U1 U2 s base a o O) k = cond ((strM at_ (s.drop (at_ + 1)) Bld.new (at_ + 1)).e == 0) _ (cond (strM at_ (s.drop (at_ + 1)) Bld.new (at_ + 1)).fin _ _) := key
  cases hb : (strM at_ (s.drop (at_ + 1)) Bld.new (at_ + 1)).e == 0 with
  | true =>
    simp only [hb, cond_true] at key
    refine ⟨_, fun k => rfl, ?_⟩
    exact CallOK.shrink (H' := HwP U0 U1 U2 s base a o O) (G := [_, _, _, _]) (layS2_ok.call key) (Nat.le_refl _) (by rfl) hR
  | false =>
    simp only [hb, cond_false] at key
    refine ⟨_, fun k => rfl, ?_⟩
    cases hf : (strM at_ (s.drop (at_ + 1)) Bld.new (at_ + 1)).fin with
    | true =>
      simp only [hf, cond_true] at key
      obtain ⟨g1, g2⟩ := q2 hf
      rw [g1, g2]
      simp (disch := omega) only [wrap_of] at key
      exact CallOK.shrinkP (H' := HwP U0 U1 U2 s base a o O) (G := [_, _, _, _]) (layS2_ok.call key) (Nat.le_refl _) (by rfl) hR
    | false =>
      simp only [hf, cond_false] at key
      exact CallOK.shrinkP (H' := HwP U0 U1 U2 s base a o O) (G := [_, _, _, _]) (layS2_ok.call key) (Nat.le_refl _) (by rfl) hR
end Go.Mu
set_option linter.unusedVariables false
set_option linter.unusedSimpArgs false
set_option maxRecDepth 100000
namespace Go.Mu
open Go Go.Proofs
def dgN (t : List UInt8) : Nat := (t.takeWhile dig).length
theorem dgN_cons (c : UInt8) (t : List UInt8) : dgN (c :: t) = bif dig c then dgN t + 1 else 0 := by
  unfold dgN
  rw [List.takeWhile_cons]
  cases dig c <;> simp
theorem dgN_le (t : List UInt8) : dgN t ≤ t.length := by
  unfold dgN
  exact (List.takeWhile_prefix dig).length_le
noncomputable def digSp : LSp := mkL (fun vs _ H => (WdH.dec H, (aI vs 1).toNat, (aI vs 2).toNat)) (fun x => WdOk x.1 ∧ x.2.1 ≤ x.1.s.length ∧ x.2.2 ≤ x.1.s.length) (fun x => [.ptr (.hp 3) 0, .int .i64 x.2.1, .int .i64 x.2.2]) (fun _ => []) (fun x => x.1.heap) (fun x k => k (.exit 0) [.ptr (.hp 3) 0, .int .i64 x.2.1, .int .i64 ((x.2.2 + dgN (x.1.s.drop x.2.2) : Nat) : Int)] [] x.1.heap)
noncomputable def digFH : FH := .of [(2, loopSpec 67 [0,1,5] [] [0,1,5] [] digSp)]
noncomputable def layG1 : Lay := layX3.addF 142 numTold
theorem layG1_ok : layG1.OK Tryd.prog := layX3_ok.addF numTold_ok
theorem dig_step (U0 U1 U2 : Obj) (s : List UInt8) (base a : Int) (o : AVal) (O : Obj) (at_ i : Int) (D : List (FuncId × List AVal)) (k : Kont) : lturn Tryd.prog layG1 digFH 86 2 [0,1,5] [] [0,1,5] [] (stL 67 [0,1,5] [.ptr (.hp 3) 0, .int .i64 at_, .int .i64 i] [] [] (HwP U0 U1 U2 s base a o O) D) k = (
 let c0 : Bool := decide (i < (↑s.length : Int));
 let c1 : Bool := decide (0 ≤ i) && c0;
 let n2 : Int := (↑(s.getD i.toNat 0).toNat : Int);
 let c3 : Bool := bif c0 then decide (n2 ≥ 48) else false;
  bif c1 || !c0 then
  bif c1 || !c3 then
  bif bif c3 then decide (n2 ≤ 57) else false then
  k AExit.normal
  (stL 67 [0, 1, 5]
  [AVal.ptr (Oid.hp 3) 0, AVal.int IntKind.i64 at_, AVal.int IntKind.i64 (IntKind.i64.wrap (i + 1))] [] []
  (HwP U0 U1 U2 s base a o O) D)
  else
  k (AExit.exit 0)
  (stL 67 [0, 1, 5] [AVal.ptr (Oid.hp 3) 0, AVal.int IntKind.i64 at_, AVal.int IntKind.i64 i] [] []
  (HwP U0 U1 U2 s base a o O) D)
  else none
  else none) := by kernel_rfl
theorem dig_runs (x : WdH) (hx : WdOk x) (at_ : Nat) : ∀ (m i : Nat), x.s.length - i ≤ m → i ≤ x.s.length → LoopRuns (lturn Tryd.prog layG1 digFH 86 2 [0,1,5] [] [0,1,5] []) 67 [0,1,5] [] [0,1,5] [] [.ptr (.hp 3) 0, .int .i64 at_, .int .i64 i] [] x.heap (.exit 0) [.ptr (.hp 3) 0, .int .i64 at_, .int .i64 ((i + dgN (x.s.drop i) : Nat) : Int)] [] x.heap := by
  obtain ⟨U0, U1, U2, s, base, a, o, O⟩ := x
  obtain ⟨h1, h2, h3⟩ := hx
  simp only at h1 h2 h3 ⊢
  intro m
  induction m with
  | zero =>
    intro i hm hi
    have e : s.drop i = [] := List.drop_eq_nil_of_le (by omega)
    rw [e]
    refine .stop (by simp) (fun D k => ?_)
    rw [dig_step]
    simp (disch := omega) only [dF, cond_false, Bool.and_false, Bool.false_and, Bool.not_false, Bool.or_true, cond_true]
    rfl
  | succ m ih =>
    intro i hm hi
    by_cases hlt : i < s.length
    · have key := fun D k => dig_step U0 U1 U2 s base a o O at_ i D k
      have e2 : (i : Int) + 1 = ((i + 1 : Nat) : Int) := by omega
      have ec : ∀ c : UInt8, (decide (48 ≤ c.toNat) && decide (c.toNat ≤ 57)) = dig c := fun _ => rfl
      simp (disch := first | omega | decide) only [Int.toNat_natCast, dT, cond_true, Bool.true_and, Bool.true_or, Bool.and_true, Bool.and_self, gec, lec, bif_or, bif_and, ec, wrap_of, e2] at key
      have ih2 := ih (i + 1) (by omega) (by omega)
      rw [drop_cons_of s i 0 hlt, dgN_cons]
      cases hc : dig (s.getD i 0) with
      | true =>
        simp only [hc, cond_true] at key
        rw [show i + 1 + dgN (s.drop (i + 1)) = i + (dgN (s.drop (i + 1)) + 1) by omega] at ih2
        exact .step key ih2
      | false =>
        simp only [hc, cond_false] at key
        exact .stop (by simp) key
    · have e : s.drop i = [] := List.drop_eq_nil_of_le (by omega)
      rw [e]
      refine .stop (by simp) (fun D k => ?_)
      rw [dig_step]
      simp (disch := omega) only [dF, cond_false, Bool.and_false, Bool.false_and, Bool.not_false, Bool.or_true, cond_true]
      rfl
theorem digSp_ok : SpOK (lturn Tryd.prog layG1 digFH 86 2 [0,1,5] [] [0,1,5] []) 67 [0,1,5] [] [0,1,5] [] digSp := mkL_ok fun a h => ⟨_, _, _, _, fun k => rfl, dig_runs a.1 h.1 a.2.1 _ a.2.2 (Nat.le_refl _) h.2.2⟩
noncomputable def layG2 : Lay := layG1.addL 86 digFH
theorem layG2_ok : layG2.OK Tryd.prog := layG1_ok.loop1 (id := 2) (by kernel_rfl) (by kernel_rfl) (by kernel_rfl) digSp_ok
theorem digits_fun (U0 U1 U2 : Obj) (s : List UInt8) (base a : Int) (o : AVal) (O : Obj) (at_ : Int) (k : Out → Ans) (n0 : Int) (e_n0 : n0 = (IntKind.i64.wrap (at_ + 1)))
  (m1 : Nat) (e_m1 : m1 = (n0.toNat))
  (n2 : Int) (e_n2 : n2 = ((↑at_.toNat : Int)))
  (n3 : Int) (e_n3 : n3 = ((↑(m1 + dgN (List.drop m1 s)) : Int)))
  (l4 : List UInt8) (e_l4 : l4 = (List.drop n2.toNat (List.take n3.toNat s)))
  (n5 : Int) (e_n5 : n5 = ((numM l4).snd)) : iFun Tryd.prog (layG2.hd Tryd.prog) layG2.fhs 0 86 [.ptr (.hp 3) 0, .int .i64 at_] (HwP U0 U1 U2 s base a o O) k = (
  bif
  tst
  ((WdOk (WdH.mk U0 U1 U2 s base a o O) ∧ at_.toNat ≤ s.length ∧ m1 ≤ s.length) ∧
  SubTL [AVal.ptr (Oid.hp 3) 0, AVal.int IntKind.i64 at_, AVal.int IntKind.i64 n0]
  [AVal.ptr (Oid.hp 3) 0, AVal.int IntKind.i64 n2, AVal.int IntKind.i64 (↑m1 : Int)] ∧
  ([] : List (List AVal)) = [] ∧ HwP U0 U1 U2 s base a o O = (WdH.mk U0 U1 U2 s base a o O).heap) then
  bif decide (n2 ≤ n3) && decide (n3 ≤ (↑s.length : Int)) then
  bif decide (l4.length ≤ 1099511627776) then
  bif !n5 != 4 then
  k
  (Out.panic
  (AVal.iface 79 (AVal.agg [AVal.int IntKind.i64 (IntKind.i64.wrap (base + n2)), AVal.int IntKind.i64 4]))
  (WdH.mk U0 U1 U2 s base a o O).heap)
  else
  bif !n5 == 0 then
  k
  (Out.panic
  (AVal.iface 79 (AVal.agg [AVal.int IntKind.i64 (IntKind.i64.wrap (base + n2)), AVal.int IntKind.i64 33]))
  (WdH.mk U0 U1 U2 s base a o O).heap)
  else k (Out.ret (AVal.int IntKind.i64 n3) (WdH.mk U0 U1 U2 s base a o O).heap)
  else none
  else none
  else none) := by
  subst e_n0 e_m1 e_n2 e_n3 e_l4 e_n5
  kernel_rfl
def digM (t : List UInt8) : Int × Nat :=
  (bif (numM (t.take (1 + dgN (t.drop 1)))).2 == 4 then 4 else bif (numM (t.take (1 + dgN (t.drop 1)))).2 == 0 then 0 else 33, 1 + dgN (t.drop 1))
theorem digits_call (x : WdH) (at_ : Nat) (hx : WdOk x) (ha : at_ < x.s.length) (k : Out → Ans) : iFun Tryd.prog (layG2.hd Tryd.prog) layG2.fhs 0 86 [.ptr (.hp 3) 0, .int .i64 at_] x.heap k =
    cond ((digM (x.s.drop at_)).1 == 0) (k (.ret (.int .i64 ((at_ + (digM (x.s.drop at_)).2 : Nat) : Int)) x.heap)) (k (.panic (flt (x.base + at_) (digM (x.s.drop at_)).1) x.heap)) := by
  have hx' := hx
  obtain ⟨U0, U1, U2, s, base, a, o, O⟩ := x
  obtain ⟨h1, h2, h3⟩ := hx'
  simp only at h1 h2 h3 ha ⊢
  have hr := dgN_le (s.drop (at_ + 1))
  rw [List.length_drop] at hr
  have ed : (s.drop at_).drop 1 = s.drop (at_ + 1) := by rw [List.drop_drop]
  unfold digM
  rw [ed]
  have et : (s.drop at_).take (1 + dgN (s.drop (at_ + 1))) = (s.take (at_ + 1 + dgN (s.drop (at_ + 1)))).drop at_ := by
    rw [List.drop_take]
    congr 1
    omega
  rw [et]
  have e2 : IntKind.i64.wrap ((at_ : Int) + 1) = ((at_ + 1 : Nat) : Int) := by rw [wrap_of (by omega) (by omega)]; omega
  rw [digits_fun U0 U1 U2 s base a o O at_ k ((at_ + 1 : Nat) : Int) e2.symm (at_ + 1) (by omega) (at_ : Int) (by omega) _ rfl ((s.take (at_ + 1 + dgN (s.drop (at_ + 1)))).drop at_) (by rw [Int.toNat_natCast, Int.toNat_natCast]) _ rfl]
  simp only [Int.toNat_natCast]
  refine (congrArg (fun c => cond c _ none) (tst_true ⟨⟨hx, show at_ ≤ s.length by omega, show at_ + 1 ≤ s.length by omega⟩, .refl _, by trivial, by trivial⟩)).trans ?_
  have hl : ((s.take (at_ + 1 + dgN (s.drop (at_ + 1)))).drop at_).length ≤ s.length := by simp; omega
  generalize (s.take (at_ + 1 + dgN (s.drop (at_ + 1)))).drop at_ = u at *
  simp (disch := omega) only [cond_true, dT, Bool.and_self, wrap_of]
  generalize (numM u).2 = n
  rw [show at_ + 1 + dgN (s.drop (at_ + 1)) = at_ + (1 + dgN (s.drop (at_ + 1))) by omega]
  cases h4 : n == 4 with
  | true => simp only [bne, h4, cond_true]; rfl
  | false =>
    cases h0 : n == 0 with
    | true => simp only [bne, h4, cond_false, cond_true, Bool.not_true, Bool.not_false]; rfl
    | false => simp only [bne, h4, cond_false, cond_true, Bool.not_true, Bool.not_false]; rfl
/- one word -/
structure OneR where
  e : Int
  off : Nat
  kind : Int
  text : List UInt8
  len : Nat
def cutR (k : Int) (t : List UInt8) (r : Int × Nat) : OneR := ⟨r.1, 0, k, t.take r.2, r.2⟩
def oneM (t : List UInt8) : OneR :=
  bif ltr (t.getD 0 0) || t.getD 0 0 == 95 then cutR 1 t (idE t, runN t)
  else bif t.getD 0 0 == 46 then cutR 2 t (dotM t)
  else bif t.getD 0 0 == 36 then cutR 3 t (dollarM t)
  else bif t.getD 0 0 == 45 || dig (t.getD 0 0) then cutR 4 t (digM t)
  else bif t.getD 0 0 == 34 then ⟨(strQ 0 (t.drop 1) [] 1).e, (strQ 0 (t.drop 1) [] 1).off, 5, (strQ 0 (t.drop 1) [] 1).text, (strQ 0 (t.drop 1) [] 1).to⟩
  else bif [58, 61].isPrefixOf t then cutR 6 t (0, 2)
  else cutR 6 t (bif t.getD 0 0 == 124 then 0 else 33, 1)
noncomputable def layG3 : Lay := (((((layD4.addF 84 (cutTold' dotM)).addF 85 (cutTold' dollarM)).addF 86 (cutTold' digM)).addF 87 strwTold))
theorem layG3_ok : layG3.OK Tryd.prog := ((((layD4_ok.addF (cutTold'_ok layD6_ok dot_call)).addF (cutTold'_ok layD6_ok dollar_call)).addF (cutTold'_ok layG2_ok digits_call)).addF strwTold_ok)
theorem one_fun (U0 U1 U2 : Obj) (s : List UInt8) (base a : Int) (o : AVal) (O : Obj) (k : Out → Ans) (c0 : Bool) (e_c0 : c0 = (decide (0 ≤ a)))
  (n1 : Int) (e_n1 : n1 = ((↑s.length : Int)))
  (n2 : Int) (e_n2 : n2 = ((↑(s.getD a.toNat 0).toNat : Int)))
  (n3 : Int) (e_n3 : n3 = ((↑a.toNat : Int)))
  (l4 : List UInt8) (e_l4 : l4 = (List.drop a.toNat s))
  (n5 : Int) (e_n5 : n5 = (idE l4))
  (n6 : Int) (e_n6 : n6 = ((↑(a.toNat + runN l4) : Int)))
  (n7 : Int) (e_n7 : n7 = (base + n3))
  (c8 : Bool) (e_c8 : c8 = (tst
    ((WdOk (WdH.mk U0 U1 U2 s base a o O) ∧ a.toNat < s.length) ∧
      SubL [AVal.ptr (Oid.hp 3) 0, AVal.int IntKind.i64 a] [AVal.ptr (Oid.hp 3) 0, AVal.int IntKind.i64 n3] ∧
        HwP U0 U1 U2 s base a o O = (WdH.mk U0 U1 U2 s base a o O).heap)))
  (n9 : Int) (e_n9 : n9 = ((dotM l4).fst))
  (n10 : Int) (e_n10 : n10 = ((↑(a.toNat + (dotM l4).snd) : Int)))
  (n11 : Int) (e_n11 : n11 = ((dollarM l4).fst))
  (n12 : Int) (e_n12 : n12 = ((↑(a.toNat + (dollarM l4).snd) : Int)))
  (m13 : Nat) (e_m13 : m13 = (1 + dgN (List.drop 1 l4)))
  (n14 : Int) (e_n14 : n14 = ((numM (List.take m13 l4)).snd))
  (n15 : Int) (e_n15 : n15 = (bif n14 == 4 then 4 else bif n14 == 0 then 0 else 33))
  (n16 : Int) (e_n16 : n16 = ((↑(a.toNat + m13) : Int)))
  (m17 : Nat) (e_m17 : m17 = (a.toNat + 1))
  (n18 : Int) (e_n18 : n18 = ((strQ a.toNat (List.drop m17 s) [] m17).e))
  (n19 : Int) (e_n19 : n19 = (IntKind.i64.wrap (a + 2)))
  (n20 : Int) (e_n20 : n20 = (IntKind.i64.wrap (a + 1))) : iFun Tryd.prog (layG3.hd Tryd.prog) layG3.fhs 0 43 [.ptr (.hp 3) 0] (HwP U0 U1 U2 s base a o O) k = (
  bif c0 && decide (a < n1) then
  bif bif ltrI n2 then true else n2 == 95 then
  bif
  tst
  ((WdOk (WdH.mk U0 U1 U2 s base a o O) ∧ a.toNat ≤ s.length ∧ a.toNat ≤ s.length) ∧
  SubL [AVal.ptr (Oid.hp 3) 0, AVal.int IntKind.i64 a, AVal.int IntKind.i64 a]
  [AVal.ptr (Oid.hp 3) 0, AVal.int IntKind.i64 n3, AVal.int IntKind.i64 n3] ∧
  HwP U0 U1 U2 s base a o O = (WdH.mk U0 U1 U2 s base a o O).heap) then
  bif n5 == 0 then
  bif c0 && decide (a ≤ n6) && decide (n6 ≤ n1) then
  k
  (Out.ret
  (AVal.agg
  [AVal.int IntKind.i64 1, AVal.str (List.drop a.toNat (List.take n6.toNat s)),
  AVal.int IntKind.i64 (IntKind.i64.wrap (base + a))])
  [U0, U1, U2, Obj.var [AVal.str s, AVal.int IntKind.i64 base, AVal.int IntKind.i64 n6, o], Obj.note 83 4,
  O, Obj.note 62 0])
  else none
  else k (Out.panic (flt n7 n5) (WdH.mk U0 U1 U2 s base a o O).heap)
  else none
  else
  bif n2 == 46 then
  bif c8 then
  bif n9 == 0 then
  bif c0 && decide (a ≤ n10) && decide (n10 ≤ n1) then
  k
  (Out.ret
  (AVal.agg
  [AVal.int IntKind.i64 2, AVal.str (List.drop a.toNat (List.take n10.toNat s)),
  AVal.int IntKind.i64 (IntKind.i64.wrap (base + a))])
  [U0, U1, U2, Obj.var [AVal.str s, AVal.int IntKind.i64 base, AVal.int IntKind.i64 n10, o],
  Obj.note 83 4, O, Obj.note 62 0])
  else none
  else k (Out.panic (flt n7 n9) (WdH.mk U0 U1 U2 s base a o O).heap)
  else none
  else
  bif n2 == 36 then
  bif c8 then
  bif n11 == 0 then
  bif c0 && decide (a ≤ n12) && decide (n12 ≤ n1) then
  k
  (Out.ret
  (AVal.agg
  [AVal.int IntKind.i64 3, AVal.str (List.drop a.toNat (List.take n12.toNat s)),
  AVal.int IntKind.i64 (IntKind.i64.wrap (base + a))])
  [U0, U1, U2, Obj.var [AVal.str s, AVal.int IntKind.i64 base, AVal.int IntKind.i64 n12, o],
  Obj.note 83 4, O, Obj.note 62 0])
  else none
  else k (Out.panic (flt n7 n11) (WdH.mk U0 U1 U2 s base a o O).heap)
  else none
  else
  bif bif n2 == 45 then true else bif decide (n2 ≥ 48) then decide (n2 ≤ 57) else false then
  bif c8 then
  bif n15 == 0 then
  bif c0 && decide (a ≤ n16) && decide (n16 ≤ n1) then
  k
  (Out.ret
  (AVal.agg
  [AVal.int IntKind.i64 4, AVal.str (List.drop a.toNat (List.take n16.toNat s)),
  AVal.int IntKind.i64 (IntKind.i64.wrap (base + a))])
  [U0, U1, U2, Obj.var [AVal.str s, AVal.int IntKind.i64 base, AVal.int IntKind.i64 n16, o],
  Obj.note 83 4, O, Obj.note 62 0])
  else none
  else k (Out.panic (flt n7 n15) (WdH.mk U0 U1 U2 s base a o O).heap)
  else none
  else
  bif n2 == 34 then
  bif
  tst
  ((WdOk (WdH.mk U0 U1 U2 s base a o O) ∧ WdR (WdH.mk U0 U1 U2 s base a o O) ∧ a.toNat < s.length) ∧
  SubL [AVal.ptr (Oid.hp 3) 0, AVal.int IntKind.i64 a]
  [AVal.ptr (Oid.hp 3) 0, AVal.int IntKind.i64 n3] ∧
  HwP U0 U1 U2 s base a o O = (WdH.mk U0 U1 U2 s base a o O).heap) then
  bif n18 == 0 then
  k
  (Out.ret
  (AVal.agg
  [AVal.int IntKind.i64 5, AVal.str (strQ a.toNat (List.drop m17 s) [] m17).text,
  AVal.int IntKind.i64 (IntKind.i64.wrap (base + a))])
  [U0, U1, U2,
  Obj.var
  [AVal.str s, AVal.int IntKind.i64 base,
  AVal.int IntKind.i64 (↑(strQ a.toNat (List.drop m17 s) [] m17).to : Int), o],
  Obj.note 83 4, O, Obj.note 62 0])
  else
  k
  (Out.panic (flt (base + (↑(strQ a.toNat (List.drop m17 s) [] m17).off : Int)) n18)
  (WdH.mk U0 U1 U2 s base a o O).heap)
  else none
  else
  bif c0 && decide (a ≤ n1) && decide (n1 ≤ n1) then
  bif [58, 61].isPrefixOf (List.drop a.toNat (List.take n1.toNat s)) then
  bif c0 && decide (a ≤ n19) && decide (n19 ≤ n1) then
  k
  (Out.ret
  (AVal.agg
  [AVal.int IntKind.i64 6, AVal.str (List.drop a.toNat (List.take n19.toNat s)),
  AVal.int IntKind.i64 (IntKind.i64.wrap (base + a))])
  [U0, U1, U2, Obj.var [AVal.str s, AVal.int IntKind.i64 base, AVal.int IntKind.i64 n19, o],
  Obj.note 83 4, O, Obj.note 62 0])
  else none
  else
  bif !n2 == 124 then
  k
  (Out.panic
  (AVal.iface 79
  (AVal.agg [AVal.int IntKind.i64 (IntKind.i64.wrap (base + a)), AVal.int IntKind.i64 33]))
  (HwP U0 U1 U2 s base a o O))
  else
  bif c0 && decide (a ≤ n20) && decide (n20 ≤ n1) then
  k
  (Out.ret
  (AVal.agg
  [AVal.int IntKind.i64 6, AVal.str (List.drop a.toNat (List.take n20.toNat s)),
  AVal.int IntKind.i64 (IntKind.i64.wrap (base + a))])
  [U0, U1, U2, Obj.var [AVal.str s, AVal.int IntKind.i64 base, AVal.int IntKind.i64 n20, o],
  Obj.note 83 4, O, Obj.note 62 0])
  else none
  else none
  else none) := by
  subst e_c0 e_n1 e_n2 e_n3 e_l4 e_n5 e_n6 e_n7 e_c8 e_n9 e_n10 e_n11 e_n12 e_m13 e_n14 e_n15 e_n16 e_m17 e_n18 e_n19 e_n20
  kernel_rfl
theorem strQ_shift (b : Nat) : ∀ (n : Nat) (t acc : List UInt8) (i : Nat), t.length ≤ n → (strQ b t acc (b + i)).e = (strQ 0 t acc i).e ∧ (strQ b t acc (b + i)).text = (strQ 0 t acc i).text ∧ ((strQ 0 t acc i).e ≠ 0 → (strQ b t acc (b + i)).off = b + (strQ 0 t acc i).off) ∧ ((strQ 0 t acc i).e = 0 → (strQ b t acc (b + i)).to = b + (strQ 0 t acc i).to ∧ (strQ 0 t acc i).to ≤ i + t.length)
  | n, [], acc, i, _ => ⟨rfl, rfl, fun _ => rfl, fun h => by cases h⟩
  | n, [c], acc, i, _ => by
    rw [strQ, strQ]
    cases c == 34 with
    | true =>
      cases decide (acc.length ≤ 4096) with
      | false => exact ⟨rfl, rfl, fun _ => rfl, fun h => by cases h⟩
      | true => exact ⟨rfl, rfl, fun h => absurd rfl h, fun _ => ⟨rfl, Nat.le_refl _⟩⟩
    | false =>
      cases c == 92 || c == 10
      · exact ⟨rfl, rfl, fun _ => rfl, fun h => by cases h⟩
      · exact ⟨rfl, rfl, fun _ => rfl, fun h => by cases h⟩
  | 0, c :: d :: u, acc, i, h => by simp at h
  | n + 1, c :: d :: u, acc, i, h => by
    rw [strQ, strQ]
    simp only [List.length_cons] at h ⊢
    cases c == 34 with
    | true =>
      cases decide (acc.length ≤ 4096) with
      | false => exact ⟨rfl, rfl, fun _ => rfl, fun h => by cases h⟩
      | true => exact ⟨rfl, rfl, fun h => absurd rfl h, fun _ => ⟨rfl, by simp only [cond_true]; omega⟩⟩
    | false =>
      cases c == 92 && decide (escI d ≥ 0) with
      | true =>
        have := strQ_shift b n u (acc ++ [escO d]) (i + 2) (by omega)
        simp only [cond_true, cond_false]
        rw [← Nat.add_assoc] at this
        exact ⟨this.1, this.2.1, this.2.2.1, fun h => ⟨(this.2.2.2 h).1, by have := (this.2.2.2 h).2; omega⟩⟩
      | false =>
        cases c == 92 || c == 10 with
        | true => exact ⟨rfl, rfl, fun _ => rfl, fun h => by cases h⟩
        | false =>
          have := strQ_shift b n (d :: u) (acc ++ [c]) (i + 1) (by simp only [List.length_cons]; omega)
          simp only [cond_true, cond_false]
          rw [← Nat.add_assoc] at this
          simp only [List.length_cons] at this
          exact ⟨this.1, this.2.1, this.2.2.1, fun h => ⟨(this.2.2.2 h).1, by have := (this.2.2.2 h).2; omega⟩⟩
theorem dotM_le {t : List UInt8} (h : 0 < t.length) : (dotM t).2 ≤ t.length := by
  unfold dotM
  cases hd1 t
  · exact h
  · exact dotsM_le _ _
theorem dollarM_le {t : List UInt8} (h : 0 < t.length) : (dollarM t).2 ≤ t.length := by
  unfold dollarM
  have hr := runN_le (t.drop 1)
  rw [List.length_drop] at hr
  cases hd1 t with
  | false =>
    have := dotsM_le t.length (t.drop 1)
    rw [List.length_drop] at this
    simp only [cond_false]; omega
  | true =>
    cases idE (t.drop 1) == 0 with
    | false => exact Nat.zero_le _
    | true =>
      have := dotsM_le t.length (t.drop (1 + runN (t.drop 1)))
      rw [List.length_drop] at this
      simp only [cond_true]; omega
theorem digM_le {t : List UInt8} (h : 0 < t.length) : (digM t).2 ≤ t.length := by
  unfold digM
  have hr := dgN_le (t.drop 1)
  rw [List.length_drop] at hr
  simp only; omega
theorem pre_two {s : List UInt8} (h : [58, 61].isPrefixOf s = true) : 2 ≤ s.length := pre_len h
theorem cut_eq (s : List UInt8) (p n : Nat) : (s.take (p + n)).drop p = (s.drop p).take n := by
  rw [List.drop_take]; congr 1; omega
theorem one_call (x : WdH) (p : Nat) (hp : x.a = p) (hx : WdOk x) (hR : WdR x) (ha : p < x.s.length) (k : Out → Ans) : iFun Tryd.prog (layG3.hd Tryd.prog) layG3.fhs 0 43 [.ptr (.hp 3) 0] x.heap k =
    cond ((oneM (x.s.drop p)).e == 0) (k (.ret (.agg [.int .i64 (oneM (x.s.drop p)).kind, .str (oneM (x.s.drop p)).text, .int .i64 (x.base + p)]) ({ x with a := ((p + (oneM (x.s.drop p)).len : Nat) : Int) } : WdH).heap))
      (k (.panic (flt (x.base + ((p + (oneM (x.s.drop p)).off : Nat) : Int)) (oneM (x.s.drop p)).e) x.heap)) := by
  have hx' := hx
  obtain ⟨U0, U1, U2, s, base, a, o, O⟩ := x
  obtain ⟨h1, h2, h3⟩ := hx'
  simp only at h1 h2 h3 ha hp ⊢
  subst hp
  obtain ⟨c, hc⟩ : ∃ c, c = s.getD p 0 := ⟨_, rfl⟩
  have htl : (s.drop p).length = s.length - p := by simp
  have htp : 0 < (s.drop p).length := by omega
  have hg : (s.drop p).getD 0 0 = c := by rw [List.getD_drop, hc]; rfl
  rw [one_fun U0 U1 U2 s base p o O k true (by rw [dT (by omega)]) _ rfl (c.toNat : Int) (by rw [Int.toNat_natCast, hc]) (p : Int) (by rw [Int.toNat_natCast]) (s.drop p) (by rw [Int.toNat_natCast]) _ rfl ((p + runN (s.drop p) : Nat) : Int) (by rw [Int.toNat_natCast])
    _ rfl true (tst_true ⟨⟨hx, by rw [Int.toNat_natCast]; exact ha⟩, .refl _, rfl⟩).symm _ rfl ((p + (dotM (s.drop p)).2 : Nat) : Int) (by rw [Int.toNat_natCast]) _ rfl ((p + (dollarM (s.drop p)).2 : Nat) : Int) (by rw [Int.toNat_natCast]) _ rfl _ rfl (digM (s.drop p)).1 rfl ((p + (digM (s.drop p)).2 : Nat) : Int) (by rw [Int.toNat_natCast]; rfl)
    (p + 1) (by rw [Int.toNat_natCast]) (strQ p (s.drop (p + 1)) [] (p + 1)).e (by rw [Int.toNat_natCast]) ((p + 2 : Nat) : Int) (by rw [wrap_of (by omega) (by omega)]; omega) ((p + 1 : Nat) : Int) (by rw [wrap_of (by omega) (by omega)]; omega)]
  simp (disch := first | omega | decide) only [Int.toNat_natCast, dT, Bool.true_and, cond_true, ltrI_eq, eqc, gec, lec, bif_or, bif_and, wrap_of, List.take_length]
  unfold oneM
  rw [hg]
  have cutG : ∀ (kk : Int) (r : Int × Nat) (X : Option Out), r.2 ≤ (s.drop p).length →
      (bif r.1 == 0 then (bif decide (((p + r.2 : Nat) : Int) ≤ (s.length : Int)) then k (.ret (.agg [.int .i64 kk, .str ((s.take (p + r.2)).drop p), .int .i64 (base + p)]) [U0, U1, U2, .var [.str s, .int .i64 base, .int .i64 ((p + r.2 : Nat) : Int), o], .note wsT 4, O, .note wdT 0]) else none)
        else k (.panic (flt (base + p) r.1) (WdH.mk U0 U1 U2 s base p o O).heap)) =
      cond ((cutR kk (s.drop p) r).e == 0) (k (.ret (.agg [.int .i64 (cutR kk (s.drop p) r).kind, .str (cutR kk (s.drop p) r).text, .int .i64 (base + p)]) (WdH.mk U0 U1 U2 s base ((p + (cutR kk (s.drop p) r).len : Nat) : Int) o O).heap)) (k (.panic (flt (base + ((p + (cutR kk (s.drop p) r).off : Nat) : Int)) (cutR kk (s.drop p) r).e) (WdH.mk U0 U1 U2 s base p o O).heap)) := by
    intro kk r X hr
    unfold cutR
    simp only
    rw [dT (show ((p + r.2 : Nat) : Int) ≤ (s.length : Int) by omega), cut_eq]
    rfl
  cases b1 : ltr c || c == 95 with
  | true =>
    simp only [cond_true]
    refine (congrArg (fun c => cond c _ none) (tst_true ⟨⟨hx, show p ≤ s.length by omega, by omega⟩, .refl _, by trivial⟩)).trans ?_
    exact cutG 1 (idE (s.drop p), runN (s.drop p)) none (runN_le _)
  | false =>
    simp only [cond_false]
    cases b2 : c == 46 with
    | true => simp only [cond_true]; exact cutG 2 (dotM (s.drop p)) none (dotM_le htp)
    | false =>
      simp only [cond_false]
      cases b3 : c == 36 with
      | true => simp only [cond_true]; exact cutG 3 (dollarM (s.drop p)) none (dollarM_le htp)
      | false =>
        simp only [cond_false]
        have ec : (c == 45 || (decide (48 ≤ c.toNat) && decide (c.toNat ≤ 57))) = (c == 45 || dig c) := rfl
        rw [ec]
        cases b4 : c == 45 || dig c with
        | true => simp only [cond_true]; exact cutG 4 (digM (s.drop p)) none (digM_le htp)
        | false =>
          simp only [cond_false]
          cases b5 : c == 34 with
          | true =>
            simp only [cond_true]
            refine (congrArg (fun c => cond c _ none) (tst_true ⟨⟨hx, hR, ha⟩, .refl _, by trivial⟩)).trans ?_
            simp only [cond_true]
            obtain ⟨q1, q2, q3, q4⟩ := strQ_shift p _ (s.drop (p + 1)) [] 1 (Nat.le_refl _)
            have ed : (s.drop p).drop 1 = s.drop (p + 1) := by rw [List.drop_drop]
            rw [ed, q1, q2]
            cases he : (strQ 0 (s.drop (p + 1)) [] 1).e == 0 with
            | true =>
              rw [(q4 (by simpa using he)).1]
              rfl
            | false =>
              rw [q3 (by simpa using he)]
              rfl
          | false =>
            simp only [cond_false]
            cases b6 : [58, 61].isPrefixOf (s.drop p) with
            | true =>
              simp only [cond_true]
              have h2' := pre_two b6
              exact cutG 6 (0, 2) none h2'
            | false =>
              simp only [cond_false]
              cases b7 : c == 124 with
              | true => simp only [cond_true, Bool.not_true, cond_false]; have := cutG 6 (0, 1) none htp; rw [dT (show ((p + (0, 1).2 : Nat) : Int) ≤ (s.length : Int) by simp only; omega)] at this; exact this
              | false => rfl
end Go.Mu
set_option linter.unusedVariables false
set_option linter.unusedSimpArgs false
set_option maxRecDepth 100000
namespace Go.Mu
open Go Go.Proofs
section
variable {P : Program}
theorem Evo.widen {X : Nat → Prop} {w w' : World} {E E' : Env} {H H' : Heap} (ev : Evo No w E H w' E' H') : Evo X w E H w' E' H' :=
  ⟨ev.size, fun b hb _ hl => ev.kept b hb (fun h => h) hl, ev.immKept, ev.immNew, ev.var, ev.arr, ev.phi, ev.len, ev.tape, ev.os, ev.output⟩
theorem CodeOK.relink {c : Code} {st st' : St} {e : AExit} {i n j : Nat} (h : CodeOK P c { st with H := relAt i n j st.H } e st') : CodeOK P c st e st' := by
  intro w a E β ci
  unfold relAt at h
  split at h
  · rename_i h1 h2
    split at h
    · rename_i x h3
      rw [Bool.cond_eq_ite] at h
      split at h
      · rename_i h4
        obtain ⟨ev, sim⟩ := Mu.relink ci.fs.sim h1 h3 h4 h2
        exact wp_mono (h w a _ β (ci.drop ev sim)) (fun x a' w' hx => hx.trans ev.widen (fun t b hb => .inl hb))
      · exact h w a E β ci
    · exact h w a E β ci
  · exact h w a E β ci
noncomputable def loopSpecR (r : Nat × Nat × Nat) (n : Nat) (l m lx mx : List Nat) (sp : LSp) (st : St) (k : Kont) : Ans := loopSpec n l m lx mx sp { st with H := relAt r.1 r.2.1 r.2.2 st.H } k
theorem LoopTold.link {d : Code} {r : Nat × Nat × Nat} {n : Nat} {l m lx mx : List Nat} {sp : LSp} (h : LoopTold P d (loopSpec n l m lx mx sp)) : LoopTold P d (loopSpecR r n l m lx mx sp) := by
  intro st k out hi
  obtain ⟨e, st', h1, h2⟩ := h _ k out hi
  exact ⟨e, st', h1.relink, h2⟩
theorem Lay.OK.loop1R {L : Lay} (h : L.OK P) {fh : FH} {f id n : Nat} {l m lx mx : List Nat} {sp : LSp} {r : Nat × Nat × Nat} (e1 : loopsIn (codeOf P f) = [loopAt id (codeOf P f)]) (e2 : loopsIn (loopAt id (codeOf P f)) = [])
    (e3 : fh.loops (firstRegion (loopAt id (codeOf P f))) = some (loopSpecR r n l m lx mx sp)) (hs : SpOK (lturn P L fh f id l m lx mx) n l m lx mx sp) : (L.addL f fh).OK P := by
  refine h.addL (LOk.of _ (fun d hd sp' hsp => ?_))
  rw [e1, List.mem_singleton] at hd
  subst hd
  rw [e3, Option.some.injEq] at hsp
  subst hsp
  exact (h.told (LOk.of _ (fun d hd => by rw [e2] at hd; cases hd)) hs).link
end
noncomputable def oneTold : FSp := mkF (fun xs H => WdH.dec H) (fun x => WdOk x ∧ WdR x ∧ 0 ≤ x.a ∧ x.a < x.s.length) (fun x => [.ptr (.hp 3) 0]) (fun x => x.heap)
  (fun x k => cond ((oneM (x.s.drop x.a.toNat)).e == 0) (k (.ret (.agg [.int .i64 (oneM (x.s.drop x.a.toNat)).kind, .str (oneM (x.s.drop x.a.toNat)).text, .int .i64 (x.base + (x.a.toNat : Int))]) ({ x with a := ((x.a.toNat + (oneM (x.s.drop x.a.toNat)).len : Nat) : Int) } : WdH).heap))
    (k (.panic (flt (x.base + ((x.a.toNat + (oneM (x.s.drop x.a.toNat)).off : Nat) : Int)) (oneM (x.s.drop x.a.toNat)).e) x.heap)))
theorem oneTold_ok : ∀ xs H k out, oneTold xs H k = some out → ∃ o, CallOK Tryd.prog 43 xs H o ∧ k o = some out := mkF_ok fun x h => by
  obtain ⟨h1, h2, h3, h4⟩ := h
  have key := one_call x x.a.toNat (by omega) h1 h2 (by omega)
  show ∃ o, (∀ k : Out → Ans, cond ((oneM (x.s.drop x.a.toNat)).e == 0) _ _ = k o) ∧ _
  cases hb : (oneM (x.s.drop x.a.toNat)).e == 0 with
  | true => simp only [hb, cond_true] at key; exact ⟨_, fun k => rfl, layG3_ok.call key⟩
  | false => simp only [hb, cond_false] at key; exact ⟨_, fun k => rfl, layG3_ok.call key⟩
noncomputable def layV1 : Lay := layX3.addF 43 oneTold
theorem layV1_ok : layV1.OK Tryd.prog := layX3_ok.addF oneTold_ok
abbrev wdV (s : List UInt8) (at_ : Int) : List AVal := [.str s, .int .i64 at_, .ptr (.hp 0) 0, .ptr (.hp 1) 0, .ptr (.hp 2) 0, .ptr (.hp 3) 0]
abbrev wdV' (at_ : Int) : List AVal := [.int .i64 at_, .ptr (.hp 0) 0, .ptr (.hp 1) 0, .ptr (.hp 2) 0, .ptr (.hp 3) 0]
theorem dotsM_pos {t : List UInt8} {m : Nat} (h : hd1 t = true) (h2 : (t.getD 0 0 == 46) = true) (he : (dotsM (m + 1) t).1 = 0) : 1 ≤ (dotsM (m + 1) t).2 := by
  have h1 : decide (1 < t.length) = true := by
    unfold hd1 at h
    rw [Bool.and_eq_true] at h
    exact h.1
  rw [dotsM, h1, h2] at he ⊢
  simp only [Bool.and_self, cond_true] at he ⊢
  cases hb : idE (t.drop 1) == 0 with
  | true => simp only [cond_true]; omega
  | false =>
    rw [hb] at he
    simp only [cond_false] at he
    rw [he] at hb
    cases hb
theorem strQ_pos : ∀ {n : Nat} {t acc : List UInt8} {i : Nat}, (strQ 0 t acc i).e = 0 → 1 ≤ (strQ 0 t acc i).to := by
  have : ∀ (n : Nat) (t acc : List UInt8) (i : Nat), t.length ≤ n → (strQ 0 t acc i).e = 0 → 1 ≤ (strQ 0 t acc i).to := by
    intro n
    induction n with
    | zero =>
      intro t acc i h he
      have : t = [] := List.eq_nil_of_length_eq_zero (by omega)
      subst this
      cases he
    | succ n ih =>
      intro t acc i h he
      match t, h, he with
      | [c], h, he =>
        rw [strQ] at he ⊢
        cases h1 : c == 34 with
        | true =>
          cases h2 : decide (acc.length ≤ 4096) with
          | true => simp only [cond_true]; omega
          | false => rw [h1, h2] at he; cases he
        | false =>
          rw [h1] at he
          cases h3 : c == 92 || c == 10
          · rw [h3] at he; cases he
          · rw [h3] at he; cases he
      | c :: d :: u, h, he =>
        rw [strQ] at he ⊢
        simp only [List.length_cons] at h
        cases h1 : c == 34 with
        | true =>
          cases h2 : decide (acc.length ≤ 4096) with
          | true => simp only [cond_true]; omega
          | false => rw [h1, h2] at he; cases he
        | false =>
          simp only [h1, cond_false] at he ⊢
          cases h3 : c == 92 && decide (escI d ≥ 0) with
          | true => simp only [h3, cond_true] at he ⊢; exact ih _ _ _ (by omega) he
          | false =>
            simp only [h3, cond_false] at he ⊢
            cases h4 : c == 92 || c == 10 with
            | true => rw [h4] at he; cases he
            | false => simp only [h4, cond_false] at he ⊢; exact ih _ _ _ (by simp only [List.length_cons]; omega) he
  intro n t acc i he
  exact this _ t acc i (Nat.le_refl _) he
theorem one_len {t : List UInt8} (ht : t ≠ []) (he : (oneM t).e = 0) : 1 ≤ (oneM t).len ∧ (oneM t).len ≤ t.length := by
  have hl : 0 < t.length := List.length_pos_iff.2 ht
  unfold oneM at he ⊢
  cases b1 : ltr (t.getD 0 0) || t.getD 0 0 == 95 with
  | true =>
    simp only [b1, cond_true, cutR] at he ⊢
    refine ⟨?_, runN_le t⟩
    unfold idE at he
    by_cases h0 : 0 < runN t
    · exact h0
    · rw [dF h0] at he
      simp at he
  | false =>
    simp only [b1, cond_false] at he ⊢
    cases b2 : t.getD 0 0 == 46 with
    | true =>
      simp only [b2, cond_true, cutR] at he ⊢
      refine ⟨?_, dotM_le hl⟩
      unfold dotM at he ⊢
      cases h1 : hd1 t with
      | false => simp
      | true =>
        simp only [h1, cond_true] at he ⊢
        obtain ⟨m, hm⟩ : ∃ m, t.length = m + 1 := ⟨t.length - 1, by omega⟩
        rw [hm] at he ⊢
        exact dotsM_pos h1 b2 he
    | false =>
      simp only [b2, cond_false] at he ⊢
      cases b3 : t.getD 0 0 == 36 with
      | true =>
        simp only [b3, cond_true, cutR] at he ⊢
        refine ⟨?_, dollarM_le hl⟩
        unfold dollarM at he ⊢
        cases h1 : hd1 t with
        | false => simp only [cond_false]; omega
        | true =>
          cases h2 : idE (t.drop 1) == 0 with
          | true => simp only [cond_true]; omega
          | false =>
            simp only [h1, h2, cond_true, cond_false] at he
            rw [he] at h2
            cases h2
      | false =>
        simp only [b3, cond_false] at he ⊢
        cases b4 : t.getD 0 0 == 45 || dig (t.getD 0 0) with
        | true =>
          simp only [b4, cond_true, cutR] at he ⊢
          refine ⟨?_, digM_le hl⟩
          unfold digM
          simp only; omega
        | false =>
          simp only [b4, cond_false] at he ⊢
          cases b5 : t.getD 0 0 == 34 with
          | true =>
            simp only [b5, cond_true] at he ⊢
            obtain ⟨q1, q2, q3, q4⟩ := strQ_shift 1 _ (t.drop 1) [] 0 (Nat.le_refl _)
            have ha := strQ_shift 0 _ (t.drop 1) [] 1 (Nat.le_refl _)
            have hb := (ha.2.2.2 he).2
            rw [List.length_drop] at hb
            refine ⟨strQ_pos (n := 0) he, by omega⟩
          | false =>
            simp only [b5, cond_false] at he ⊢
            cases b6 : [58, 61].isPrefixOf t with
            | true => simp only [cond_true, cutR]; exact ⟨by omega, pre_two b6⟩
            | false => simp only [cond_false, cutR]; exact ⟨Nat.le_refl _, hl⟩
structure WdD where
  kind : Int
  text : List UInt8
  at_ : Nat
def encWd (base : Int) (d : WdD) : List AVal := [.int .i64 d.kind, .str d.text, .int .i64 (base + (d.at_ : Int))]
def wdsM : Nat → List UInt8 → Nat → List WdD × Option (Nat × Nat × Int)
  | 0, _, _ => ([], none)
  | m + 1, t, p => bif t == [] then ([], none) else bif blk (t.getD 0 0) then wdsM m (t.drop 1) (p + 1)
      else bif (oneM t).e == 0 then (⟨(oneM t).kind, (oneM t).text, p⟩ :: (wdsM m (t.drop (oneM t).len) (p + (oneM t).len)).1, (wdsM m (t.drop (oneM t).len) (p + (oneM t).len)).2)
      else ([], some (p, (oneM t).off, (oneM t).e))
abbrev wdH (U0 U1 U2 : Obj) (s : List UInt8) (base a : Int) (rows : List (List AVal)) (u : Nat) : Heap := HwP U0 U1 U2 s base a (.own 5 0 rows.length u false) (.arr 3 rows u)
structure WvA where
  w : WdH
  rows : List (List AVal)
  u : Nat
def WvOk (x : WvA) : Prop := WdOk x.w ∧ (refsO 7 x.w.U0 = true ∧ refsO 7 x.w.U1 = true ∧ refsO 7 x.w.U2 = true) ∧ 0 ≤ x.w.a ∧ x.w.a ≤ x.w.s.length ∧ (x.rows.length : Int) ≤ x.w.a ∧ ∃ ds : List WdD, x.rows = ds.map (encWd x.w.base)
abbrev wvR (x : WvA) : List WdD × Option (Nat × Nat × Int) := wdsM x.w.s.length (x.w.s.drop x.w.a.toNat) x.w.a.toNat
abbrev wvRows (x : WvA) : List (List AVal) := x.rows ++ (wvR x).1.map (encWd x.w.base)
noncomputable def wdsSp : LSp := mkL (fun vs _ H => WvA.mk (WdH.dec H) (rowsO (H.getD 5 (.var []))) (verO (H.getD 5 (.var [])))) WvOk (fun x => wdV x.w.s x.w.base) (fun _ => []) (fun x => wdH x.w.U0 x.w.U1 x.w.U2 x.w.s x.w.base x.w.a x.rows x.u)
  (fun x k => cond (wvR x).2.isSome
    (k (.panic (flt (x.w.base + ((((wvR x).2.getD (0, 0, 0)).1 + ((wvR x).2.getD (0, 0, 0)).2.1 : Nat) : Int)) ((wvR x).2.getD (0, 0, 0)).2.2)) (wdV' x.w.base) [] (wdH x.w.U0 x.w.U1 x.w.U2 x.w.s x.w.base (((wvR x).2.getD (0, 0, 0)).1 : Nat) (wvRows x) (x.u + (wvR x).1.length)))
    (k (.exit 0) (wdV' x.w.base) [] (wdH x.w.U0 x.w.U1 x.w.U2 x.w.s x.w.base x.w.s.length (wvRows x) (x.u + (wvR x).1.length))))
noncomputable def wdsFH : FH := { FH.of [(3, loopSpecR (3, 3, 5) 50 [0,1,4,5,6,7] [] [1,4,5,6,7] [] wdsSp)] with heap := [4, 5, 6, 12], typed := [(12, [(2, wdT)])] }
theorem wds_step (U0 U1 U2 : Obj) (s : List UInt8) (base a : Int) (m u : Nat) (rows : List (List AVal)) (D : List (FuncId × List AVal)) (k : Kont) : lturn Tryd.prog layV1 wdsFH 16 3 [0,1,4,5,6,7] [] [1,4,5,6,7] [] (stL 50 [0,1,4,5,6,7] (wdV s base) [] [] (HwP U0 U1 U2 s base a (.own 5 0 m u false) (.arr 3 rows u)) D) k = (
 let c0 : Bool := decide (a < (↑s.length : Int));
 let n1 : Int := (oneM (List.drop a.toNat s)).e;
 let m2 : Nat := m + 1;
 let m3 : Nat := u + 1;
  bif c0 then
  bif decide (0 ≤ a) && c0 then
  bif blkI (↑(s.getD a.toNat 0).toNat : Int) then
  k AExit.normal
  (stL 50 [0, 1, 4, 5, 6, 7]
  [AVal.str s, AVal.int IntKind.i64 base, AVal.ptr (Oid.hp 0) 0, AVal.ptr (Oid.hp 1) 0, AVal.ptr (Oid.hp 2) 0,
  AVal.ptr (Oid.hp 3) 0]
  [] []
  [U0, U1, U2,
  Obj.var
  [AVal.str s, AVal.int IntKind.i64 base, AVal.int IntKind.i64 (IntKind.i64.wrap (a + 1)),
  AVal.own 5 0 m u false],
  Obj.note 83 4, Obj.arr 3 rows u, Obj.note 62 0]
  D)
  else
  bif
  tst
  ((WdOk (WdH.mk U0 U1 U2 s base a (AVal.own 5 0 m u false) (Obj.arr 3 rows u)) ∧
  WdR (WdH.mk U0 U1 U2 s base a (AVal.own 5 0 m u false) (Obj.arr 3 rows u)) ∧
  0 ≤ a ∧ a < (↑s.length : Int)) ∧
  SubL [AVal.ptr (Oid.hp 3) 0] [AVal.ptr (Oid.hp 3) 0] ∧
  HwP U0 U1 U2 s base a (AVal.own 5 0 m u false) (Obj.arr 3 rows u) =
  (WdH.mk U0 U1 U2 s base a (AVal.own 5 0 m u false) (Obj.arr 3 rows u)).heap) then
  bif n1 == 0 then
  bif u == u && m == rows.length && decide ((2 * m2 + 1000) * 32 ≤ 281474976710656) && true then
  bif sameV (AVal.own 5 0 m u false) (AVal.own 5 0 m u false) && true && true && true then
  k AExit.normal
  (stL 50 [0, 1, 4, 5, 6, 7]
  [AVal.str s, AVal.int IntKind.i64 base, AVal.ptr (Oid.hp 0) 0, AVal.ptr (Oid.hp 1) 0,
  AVal.ptr (Oid.hp 2) 0, AVal.ptr (Oid.hp 3) 0]
  [] []
  [U0, U1, U2,
  Obj.var
  [AVal.str s, AVal.int IntKind.i64 base,
  AVal.int IntKind.i64 (↑(a.toNat + (oneM (List.drop a.toNat s)).len) : Int),
  AVal.own 5 0 m2 m3 false],
  Obj.note 83 4,
  Obj.arr 3
  (rows.append
  [[AVal.int IntKind.i64 (oneM (List.drop a.toNat s)).kind,
  AVal.str (oneM (List.drop a.toNat s)).text,
  AVal.int IntKind.i64 (base + (↑a.toNat : Int))]])
  m3,
  Obj.note 62 0]
  D)
  else none
  else none
  else
  k (AExit.panic (flt (base + (↑(a.toNat + (oneM (List.drop a.toNat s)).off) : Int)) n1))
  (stL 50 [1, 4, 5, 6, 7]
  [AVal.int IntKind.i64 base, AVal.ptr (Oid.hp 0) 0, AVal.ptr (Oid.hp 1) 0, AVal.ptr (Oid.hp 2) 0,
  AVal.ptr (Oid.hp 3) 0]
  [] [] (WdH.mk U0 U1 U2 s base a (AVal.own 5 0 m u false) (Obj.arr 3 rows u)).heap D)
  else none
  else none
  else
  k (AExit.exit 0)
  (stL 50 [1, 4, 5, 6, 7]
  [AVal.int IntKind.i64 base, AVal.ptr (Oid.hp 0) 0, AVal.ptr (Oid.hp 1) 0, AVal.ptr (Oid.hp 2) 0,
  AVal.ptr (Oid.hp 3) 0]
        [] [] (HwP U0 U1 U2 s base a (AVal.own 5 0 m u false) (Obj.arr 3 rows u)) D)) := by kernel_rfl
theorem wdR_of {U0 U1 U2 : Obj} {s : List UInt8} {base a : Int} {rows : List (List AVal)} {u : Nat} (h0 : refsO 7 U0 = true) (h1 : refsO 7 U1 = true) (h2 : refsO 7 U2 = true) {n : Nat} {ds : List WdD} (hr : rows = ds.map (encWd base)) : ∀ o ∈ HwP U0 U1 U2 s base a (.own 5 0 n u false) (.arr 3 rows u), refsO 7 o = true := by
  intro o ho
  simp only [HwP, List.mem_cons, List.not_mem_nil, or_false] at ho
  rcases ho with rfl | rfl | rfl | rfl | rfl | rfl | rfl
  · exact h0
  · exact h1
  · exact h2
  · rfl
  · rfl
  · subst hr
    simp only [refsO, List.all_map, List.all_eq_true]
    intro d _
    rfl
  · rfl
theorem wds_runs (U0 U1 U2 : Obj) (s : List UInt8) (base : Int) (hs : s.length ≤ 1073741824) (hb0 : 0 ≤ base) (hb1 : base ≤ 1099511627776) (g0 : refsO 7 U0 = true) (g1 : refsO 7 U1 = true) (g2 : refsO 7 U2 = true) : ∀ (m p u : Nat) (rows : List (List AVal)) (ds : List WdD), rows = ds.map (encWd base) → s.length - p ≤ m → p ≤ s.length → rows.length ≤ p →
    ((wdsM m (s.drop p) p).2 = none → LoopRuns (lturn Tryd.prog layV1 wdsFH 16 3 [0,1,4,5,6,7] [] [1,4,5,6,7] []) 50 [0,1,4,5,6,7] [] [1,4,5,6,7] [] (wdV s base) [] (wdH U0 U1 U2 s base p rows u) (.exit 0) (wdV' base) [] (wdH U0 U1 U2 s base s.length (rows ++ (wdsM m (s.drop p) p).1.map (encWd base)) (u + (wdsM m (s.drop p) p).1.length))) ∧
    (∀ q off e, (wdsM m (s.drop p) p).2 = some (q, off, e) → LoopRuns (lturn Tryd.prog layV1 wdsFH 16 3 [0,1,4,5,6,7] [] [1,4,5,6,7] []) 50 [0,1,4,5,6,7] [] [1,4,5,6,7] [] (wdV s base) [] (wdH U0 U1 U2 s base p rows u) (.panic (flt (base + ((q + off : Nat) : Int)) e)) (wdV' base) [] (wdH U0 U1 U2 s base q (rows ++ (wdsM m (s.drop p) p).1.map (encWd base)) (u + (wdsM m (s.drop p) p).1.length))) := by
  intro m
  induction m with
  | zero =>
    intro p u rows ds hr hm hp hl
    have hps : p = s.length := by omega
    refine ⟨fun _ => .stop (by simp) (fun D k => ?_), fun q off e h => by cases h⟩
    rw [wds_step]
    simp (disch := omega) only [dF, cond_false]
    subst hps
    simp only [wdsM, List.map_nil, List.append_nil, List.length_nil, Nat.add_zero]
  | succ m ih =>
    intro p u rows ds hr hm hp hl
    by_cases hlt : p < s.length
    case neg =>
      have hps : p = s.length := by omega
      have e : s.drop p = [] := List.drop_eq_nil_of_le (by omega)
      rw [e]
      refine ⟨fun _ => .stop (by simp) (fun D k => ?_), fun q off e h => by cases h⟩
      rw [wds_step]
      simp (disch := omega) only [dF, cond_false]
      subst hps
      show k _ _ = k _ _
      simp only [wdsM, List.map_nil, List.append_nil, List.length_nil, Nat.add_zero]
      simp
    have key := fun D k => wds_step U0 U1 U2 s base p rows.length u rows D k
    have hne : s.drop p ≠ [] := by
      intro e
      have := congrArg List.length e
      simp at this; omega
    have hne2 : (s.drop p == []) = false := by simpa using hne
    have hg : (s.drop p).getD 0 0 = s.getD p 0 := by rw [List.getD_drop]; rfl
    have e2 : IntKind.i64.wrap ((p : Int) + 1) = ((p + 1 : Nat) : Int) := by rw [wrap_of (by omega) (by omega)]; omega
    simp (disch := omega) only [dT, cond_true, Bool.and_self, Int.toNat_natCast, blkI_eq, e2, sameV_refl, beq_self_eq_true, Bool.and_true, Bool.true_and] at key
    rw [wdsM, hne2, hg]
    simp only [cond_false]
    cases hbk : blk (s.getD p 0) with
    | true =>
      simp only [hbk, cond_true] at key ⊢
      have ed : (s.drop p).drop 1 = s.drop (p + 1) := by rw [List.drop_drop]
      rw [ed]
      have := ih (p + 1) u rows ds hr (by omega) (by omega) (by omega)
      exact ⟨fun h => .step key (this.1 h), fun q off e h => .step key (this.2 q off e h)⟩
    | false =>
      simp only [hbk, cond_false] at key ⊢
      replace key := fun D k => (key D k).trans ((congrArg (fun c => cond c _ none) (tst_true ⟨⟨⟨hs, hb0, hb1⟩, wdR_of g0 g1 g2 hr, by omega, by omega⟩, .refl _, by trivial⟩)).trans rfl)
      cases he : (oneM (s.drop p)).e == 0 with
      | true =>
        obtain ⟨l1, l2⟩ := one_len hne (by simpa using he)
        rw [List.length_drop] at l2
        simp (disch := omega) only [he, cond_true, dT] at key ⊢
        have ed : (s.drop p).drop (oneM (s.drop p)).len = s.drop (p + (oneM (s.drop p)).len) := by rw [List.drop_drop]
        rw [ed]
        have := ih (p + (oneM (s.drop p)).len) (u + 1) (rows ++ [encWd base ⟨(oneM (s.drop p)).kind, (oneM (s.drop p)).text, p⟩]) (ds ++ [⟨(oneM (s.drop p)).kind, (oneM (s.drop p)).text, p⟩]) (by rw [hr, List.map_append]; rfl) (by omega) (by omega) (by rw [List.length_append]; show _ + 1 ≤ _; omega)
        rw [show u + 1 + (wdsM m (s.drop (p + (oneM (s.drop p)).len)) (p + (oneM (s.drop p)).len)).1.length = u + ((wdsM m (s.drop (p + (oneM (s.drop p)).len)) (p + (oneM (s.drop p)).len)).1.length + 1) by omega] at this
        have ew : ∀ (a : Int) (r : List AVal) (v : Nat), wdH U0 U1 U2 s base a (rows ++ [r]) v = HwP U0 U1 U2 s base a (.own 5 0 (rows.length + 1) v false) (.arr 3 (rows ++ [r]) v) := fun a r v => by
          show HwP U0 U1 U2 s base a (.own 5 0 (rows ++ [r]).length v false) (.arr 3 (rows ++ [r]) v) = _
          rw [List.length_append]; rfl
        rw [ew] at this
        simp only [List.append_assoc, List.singleton_append, List.map_cons, List.length_cons, List.length_append, List.length_nil, Nat.zero_add] at this ⊢
        exact ⟨fun h => .step key (this.1 h), fun q off e h => .step key (this.2 q off e h)⟩
      | false =>
        simp only [he, cond_false] at key ⊢
        refine ⟨(fun h => by cases h), fun q off e h => ?_⟩
        cases h
        simp only [List.map_nil, List.append_nil, List.length_nil, Nat.add_zero]
        exact .stop (by simp) key
theorem wdsSp_ok : SpOK (lturn Tryd.prog layV1 wdsFH 16 3 [0,1,4,5,6,7] [] [1,4,5,6,7] []) 50 [0,1,4,5,6,7] [] [1,4,5,6,7] [] wdsSp := mkL_ok fun x h => by
  obtain ⟨⟨U0, U1, U2, s, base, a, o, O⟩, rows, u⟩ := x
  obtain ⟨⟨h1, h2, h3⟩, ⟨g0, g1, g2⟩, h4, h5, h6, ds, h7⟩ := h
  simp only at h1 h2 h3 h4 h5 h6 h7 g0 g1 g2
  obtain ⟨p, rfl⟩ : ∃ p : Nat, a = p := ⟨a.toNat, by omega⟩
  have key := wds_runs U0 U1 U2 s base h1 h2 h3 g0 g1 g2 s.length p u rows ds h7 (by omega) (by omega) (by omega)
  show ∃ e vs bs H, (∀ k : AExit → List AVal → List (List AVal) → Heap → Ans, cond (wdsM s.length (s.drop p) p).2.isSome _ _ = k e vs bs H) ∧ LoopRuns _ _ _ _ _ _ (wdV s base) [] (wdH U0 U1 U2 s base p rows u) _ _ _ _
  cases hb : (wdsM s.length (s.drop p) p).2 with
  | none => 
    have := key.1 hb
    refine ⟨_, _, _, _, fun k => rfl, ?_⟩
    exact this
  | some v =>
    obtain ⟨q, off, e⟩ := v
    have := key.2 q off e hb
    refine ⟨_, _, _, _, fun k => ?_, this⟩
    show k (.panic (flt (base + ((((wdsM s.length (s.drop p) p).2.getD (0, 0, 0)).1 + ((wdsM s.length (s.drop p) p).2.getD (0, 0, 0)).2.1 : Nat) : Int)) ((wdsM s.length (s.drop p) p).2.getD (0, 0, 0)).2.2)) _ _ (wdH U0 U1 U2 s base (((wdsM s.length (s.drop p) p).2.getD (0, 0, 0)).1 : Nat) (wvRows _) _) = _
    rw [hb]
    rfl
noncomputable def layV2 : Lay := layV1.addL 16 wdsFH
theorem layV2_ok : layV2.OK Tryd.prog := layV1_ok.loop1R (r := (3, 3, 5)) (id := 3) (by kernel_rfl) (by kernel_rfl) (by kernel_rfl) wdsSp_ok
theorem words_fun (s : List UInt8) (base : Int) (k : Out → Ans) (m0 : Nat) (e_m0 : m0 = (((wvR
            (WvA.mk
              (WdH.mk (Obj.var [AVal.list true 0 fun (x : Nat) => []]) (Obj.var [AVal.int IntKind.i64 0])
                (Obj.var [AVal.int IntKind.i64 0]) s base 0 (AVal.own 5 0 0 1 false) (Obj.arr 3 [] 1))
              [] 1)).snd.getD
      (0, 0, 0)).fst))
  (m1 : Nat) (e_m1 : m1 = (1 +
    (wvR
          (WvA.mk
            (WdH.mk (Obj.var [AVal.list true 0 fun (x : Nat) => []]) (Obj.var [AVal.int IntKind.i64 0])
              (Obj.var [AVal.int IntKind.i64 0]) s base 0 (AVal.own 5 0 0 1 false) (Obj.arr 3 [] 1))
            [] 1)).fst.length)) : iFun Tryd.prog (layV2.hd Tryd.prog) layV2.fhs 0 16 [.str s, .int .i64 base] [] k = (
  bif
      tst
        (WvOk
            (WvA.mk
              (WdH.mk (Obj.var [AVal.list true 0 fun (x : Nat) => []]) (Obj.var [AVal.int IntKind.i64 0])
                (Obj.var [AVal.int IntKind.i64 0]) s base 0 (AVal.own 5 0 0 1 false) (Obj.arr 3 [] 1))
              [] 1) ∧
          SubTL
              [AVal.str s, AVal.int IntKind.i64 base, AVal.ptr (Oid.hp 0) 0, AVal.ptr (Oid.hp 1) 0, AVal.ptr (Oid.hp 2) 0,
                AVal.ptr (Oid.hp 3) 0]
              (wdV s base) ∧
            ([] : List (List AVal)) = [] ∧
              relAt 3 3 5
                  [Obj.var [AVal.list true 0 fun (x : Nat) => []], Obj.var [AVal.int IntKind.i64 0],
                    Obj.var [AVal.int IntKind.i64 0],
                    Obj.var
                      [AVal.str s, AVal.int IntKind.i64 base, AVal.int IntKind.i64 0,
                        AVal.list true 0 fun (x : Nat) => []],
                    Obj.note 83 4, Obj.arr 3 [] 0, Obj.note 62 0] =
                wdH (Obj.var [AVal.list true 0 fun (x : Nat) => []]) (Obj.var [AVal.int IntKind.i64 0])
                  (Obj.var [AVal.int IntKind.i64 0]) s base 0 [] 1) then
    bif
        (wvR
              (WvA.mk
                (WdH.mk (Obj.var [AVal.list true 0 fun (x : Nat) => []]) (Obj.var [AVal.int IntKind.i64 0])
                  (Obj.var [AVal.int IntKind.i64 0]) s base 0 (AVal.own 5 0 0 1 false) (Obj.arr 3 [] 1))
                [] 1)).snd.isSome then
      k
        (Out.ret
          (AVal.tuple
            [AVal.list true 0 fun (x : Nat) => [],
              AVal.int IntKind.i64
                (base +
                  (↑(m0 +
                        ((wvR
                                    (WvA.mk
                                      (WdH.mk (Obj.var [AVal.list true 0 fun (x : Nat) => []])
                                        (Obj.var [AVal.int IntKind.i64 0]) (Obj.var [AVal.int IntKind.i64 0]) s base 0
                                        (AVal.own 5 0 0 1 false) (Obj.arr 3 [] 1))
                                      [] 1)).snd.getD
                              (0, 0, 0)).snd.fst) :
                    Int)),
              AVal.int IntKind.i64
                ((wvR
                            (WvA.mk
                              (WdH.mk (Obj.var [AVal.list true 0 fun (x : Nat) => []]) (Obj.var [AVal.int IntKind.i64 0])
                                (Obj.var [AVal.int IntKind.i64 0]) s base 0 (AVal.own 5 0 0 1 false) (Obj.arr 3 [] 1))
                              [] 1)).snd.getD
                      (0, 0, 0)).snd.snd])
          [Obj.var [AVal.list true 0 fun (x : Nat) => []],
            Obj.var
              [AVal.int IntKind.i64
                  (base +
                    (↑(m0 +
                          ((wvR
                                      (WvA.mk
                                        (WdH.mk (Obj.var [AVal.list true 0 fun (x : Nat) => []])
                                          (Obj.var [AVal.int IntKind.i64 0]) (Obj.var [AVal.int IntKind.i64 0]) s base 0
                                          (AVal.own 5 0 0 1 false) (Obj.arr 3 [] 1))
                                        [] 1)).snd.getD
                                (0, 0, 0)).snd.fst) :
                      Int))],
            Obj.var
              [AVal.int IntKind.i64
                  ((wvR
                              (WvA.mk
                                (WdH.mk (Obj.var [AVal.list true 0 fun (x : Nat) => []])
                                  (Obj.var [AVal.int IntKind.i64 0]) (Obj.var [AVal.int IntKind.i64 0]) s base 0
                                  (AVal.own 5 0 0 1 false) (Obj.arr 3 [] 1))
                                [] 1)).snd.getD
                        (0, 0, 0)).snd.snd],
            Obj.var
              [AVal.str s, AVal.int IntKind.i64 base, AVal.int IntKind.i64 (↑m0 : Int),
                AVal.own 5 0
                  (wvRows
                      (WvA.mk
                        (WdH.mk (Obj.var [AVal.list true 0 fun (x : Nat) => []]) (Obj.var [AVal.int IntKind.i64 0])
                          (Obj.var [AVal.int IntKind.i64 0]) s base 0 (AVal.own 5 0 0 1 false) (Obj.arr 3 [] 1))
                        [] 1)).length
                  m1 false],
            Obj.note 83 4,
            Obj.arr 3
              (wvRows
                (WvA.mk
                  (WdH.mk (Obj.var [AVal.list true 0 fun (x : Nat) => []]) (Obj.var [AVal.int IntKind.i64 0])
                    (Obj.var [AVal.int IntKind.i64 0]) s base 0 (AVal.own 5 0 0 1 false) (Obj.arr 3 [] 1))
                  [] 1))
              m1,
            Obj.note 62 0])
    else
      k
        (Out.ret
          (AVal.tuple
            [AVal.own 5 0
                (wvRows
                    (WvA.mk
                      (WdH.mk (Obj.var [AVal.list true 0 fun (x : Nat) => []]) (Obj.var [AVal.int IntKind.i64 0])
                        (Obj.var [AVal.int IntKind.i64 0]) s base 0 (AVal.own 5 0 0 1 false) (Obj.arr 3 [] 1))
                      [] 1)).length
                m1 false,
              AVal.int IntKind.i64 base, AVal.int IntKind.i64 0])
          [Obj.var
              [AVal.own 5 0
                  (wvRows
                      (WvA.mk
                        (WdH.mk (Obj.var [AVal.list true 0 fun (x : Nat) => []]) (Obj.var [AVal.int IntKind.i64 0])
                          (Obj.var [AVal.int IntKind.i64 0]) s base 0 (AVal.own 5 0 0 1 false) (Obj.arr 3 [] 1))
                        [] 1)).length
                  m1 false],
            Obj.var [AVal.int IntKind.i64 base], Obj.var [AVal.int IntKind.i64 0],
            Obj.var
              [AVal.str s, AVal.int IntKind.i64 base, AVal.int IntKind.i64 (↑s.length : Int),
                AVal.own 5 0
                  (wvRows
                      (WvA.mk
                        (WdH.mk (Obj.var [AVal.list true 0 fun (x : Nat) => []]) (Obj.var [AVal.int IntKind.i64 0])
                          (Obj.var [AVal.int IntKind.i64 0]) s base 0 (AVal.own 5 0 0 1 false) (Obj.arr 3 [] 1))
                        [] 1)).length
                  m1 false],
            Obj.note 83 4,
            Obj.arr 3
              (wvRows
                (WvA.mk
                  (WdH.mk (Obj.var [AVal.list true 0 fun (x : Nat) => []]) (Obj.var [AVal.int IntKind.i64 0])
                    (Obj.var [AVal.int IntKind.i64 0]) s base 0 (AVal.own 5 0 0 1 false) (Obj.arr 3 [] 1))
                  [] 1))
              m1,
            Obj.note 62 0])
  else none) := by
  subst e_m0 e_m1
  kernel_rfl
theorem freeze_rows {α : Type} {H : Heap} {k sz u : Nat} {f : α → List AVal} {d : α} {l : List α} (hH : H[k]? = some (.arr sz (l.map f) u)) (hp : ∀ a, (f a).mapM (freezeV H 1) = some (f a)) : ∃ v, freezeV H 2 (.own k 0 (l.map f).length u false) = some v ∧ Sub v (encL false f d l) := by
  have hfz := freezeW (len := (l.map f).length) (off := 0) (clip := false) (d := 1) (rows' := l.map f) hH (by simp) (by
    rw [List.drop_zero, List.take_length]
    refine freeze_pures _ 0 _ (fun r hr => ?_)
    obtain ⟨a, _, rfl⟩ := List.mem_map.1 hr
    exact hp a)
  refine ⟨_, hfz, ?_⟩
  show Sub (.list false (l.map f).length _) (.list false l.length _)
  rw [List.length_map]
  refine Sub.list (fun h => h) (fun i hi => ?_)
  have : (l.map f).getD i [] = f (l.getD i d) := by
    simp only [List.getD_eq_getElem?_getD, List.getElem?_map, List.getElem?_eq_getElem hi, Option.map_some, Option.getD_some]
  rw [this]
  exact .refl _
def wordsOf (s : List UInt8) : List WdD := (wdsM s.length s 0).1
def wordsE (s : List UInt8) : Option (Nat × Nat × Int) := (wdsM s.length s 0).2
def wdAt (s : List UInt8) : Nat := ((wordsE s).getD (0, 0, 0)).1 + ((wordsE s).getD (0, 0, 0)).2.1
def wdErr (s : List UInt8) : Int := ((wordsE s).getD (0, 0, 0)).2.2
abbrev encWds (base : Int) (l : List WdD) : AVal := encL false (encWd base) ⟨0, [], 0⟩ l
abbrev wv0 (s : List UInt8) (base : Int) : WvA := ⟨⟨.var [nilList], .var [.int .i64 0], .var [.int .i64 0], s, base, 0, .own 5 0 0 1 false, .arr 3 [] 1⟩, [], 1⟩
theorem wv0_ok {s : List UInt8} {base : Int} (hs : s.length ≤ 1073741824) (h0 : 0 ≤ base) (h1 : base ≤ 1099511627776) : WvOk (wv0 s base) := ⟨⟨hs, h0, h1⟩, ⟨rfl, rfl, rfl⟩, Int.le_refl _, by show (0 : Int) ≤ (s.length : Int); omega, Int.le_refl _, [], rfl⟩
theorem words_good (s : List UInt8) (base : Int) (hs : s.length ≤ 1073741824) (h0 : 0 ≤ base) (h1 : base ≤ 1099511627776) (hb : (wordsE s).isSome = false) : CallOK Tryd.prog 16 [.str s, .int .i64 base] [] (.ret (.tuple [encWds base (wordsOf s), .int .i64 base, .int .i64 0]) []) := by
  have hr : wvRows (wv0 s base) = (wordsOf s).map (encWd base) := rfl
  have call : ∀ k, iFun Tryd.prog (layV2.hd Tryd.prog) layV2.fhs 0 16 [.str s, .int .i64 base] [] k = k (.ret (.tuple [.own 5 0 (wvRows (wv0 s base)).length (1 + (wordsOf s).length) false, .int .i64 base, .int .i64 0])
      [.var [.own 5 0 (wvRows (wv0 s base)).length (1 + (wordsOf s).length) false], .var [.int .i64 base], .var [.int .i64 0], .var [.str s, .int .i64 base, .int .i64 s.length, .own 5 0 (wvRows (wv0 s base)).length (1 + (wordsOf s).length) false], .note wsT 4, .arr 3 (wvRows (wv0 s base)) (1 + (wordsOf s).length), .note wdT 0]) := fun k => by
    rw [words_fun s base k _ rfl (1 + (wordsOf s).length) rfl]
    refine (congrArg (fun c => cond c _ none) (tst_true ⟨wv0_ok hs h0 h1, .refl _, rfl, rfl⟩)).trans ?_
    have hb' : (wvR (wv0 s base)).2.isSome = false := hb
    exact (congrArg (fun c => cond c _ _) hb').trans rfl
  rw [hr] at call
  obtain ⟨v, g1, g2⟩ := freeze_rows (f := encWd base) (d := ⟨0, [], 0⟩) (l := wordsOf s) (k := 5) (sz := 3) (u := 1 + (wordsOf s).length) (H := [.var [.own 5 0 ((wordsOf s).map (encWd base)).length (1 + (wordsOf s).length) false], .var [.int .i64 base], .var [.int .i64 0], .var [.str s, .int .i64 base, .int .i64 s.length, .own 5 0 ((wordsOf s).map (encWd base)).length (1 + (wordsOf s).length) false], .note wsT 4, .arr 3 ((wordsOf s).map (encWd base)) (1 + (wordsOf s).length), .note wdT 0]) rfl (fun a => rfl)
  exact ((layV2_ok.call call).freeze (d := 3) (freeze_t3 g1)).sub (.refl _) ⟨Sub.tuple (.cons g2 (.refl _)), rfl⟩
theorem words_bad (s : List UInt8) (base : Int) (hs : s.length ≤ 1073741824) (h0 : 0 ≤ base) (h1 : base ≤ 1099511627776) (hb : (wordsE s).isSome = true) : CallOK Tryd.prog 16 [.str s, .int .i64 base] [] (.ret (.tuple [nilList, .int .i64 (base + (wdAt s : Int)), .int .i64 (wdErr s)]) []) := by
  have hb' : (wvR (wv0 s base)).2.isSome = true := hb
  have key := fun k => (words_fun s base k _ rfl _ rfl).trans ((congrArg (fun c => cond c _ none) (tst_true ⟨wv0_ok hs h0 h1, .refl _, rfl, rfl⟩)).trans ((congrArg (fun c => cond c _ _) hb').trans (cond_true _ _)))
  exact layV2_ok.callF rfl key
def wordsTold : FSp := mkFS [.s, .i .i64] (fun xs => decide ((aS xs 0).length ≤ 1073741824 ∧ 0 ≤ aI xs 1 ∧ aI xs 1 ≤ 1099511627776))
  (fun xs k => cond (wordsE (aS xs 0)).isSome (k (.ret (.tuple [nilList, .int .i64 (aI xs 1 + (wdAt (aS xs 0) : Int)), .int .i64 (wdErr (aS xs 0))]) [])) (k (.ret (.tuple [encWds (aI xs 1) (wordsOf (aS xs 0)), .int .i64 (aI xs 1), .int .i64 0]) [])))
theorem wordsTold_ok : ∀ xs H k out, wordsTold xs H k = some out → ∃ o, CallOK Tryd.prog 16 xs H o ∧ k o = some out := mkFS_ok fun ys xs e h => by
  obtain ⟨s, n, rfl⟩ : ∃ s n, xs = [.str s, .int .i64 n] := ⟨_, _, e⟩
  replace h : s.length ≤ 1073741824 ∧ 0 ≤ n ∧ n ≤ 1099511627776 := of_decide_eq_true h
  show ∃ o, (∀ k : Out → Ans, cond (wordsE s).isSome _ _ = k o) ∧ _
  cases hb : (wordsE s).isSome with
  | true => exact ⟨_, fun k => rfl, words_bad s n h.1 h.2.1 h.2.2 hb⟩
  | false => exact ⟨_, fun k => rfl, words_good s n h.1 h.2.1 h.2.2 hb⟩
end Go.Mu
set_option linter.unusedVariables false
set_option linter.unusedSimpArgs false
set_option maxRecDepth 100000
namespace Go.Mu
open Go Go.Proofs
abbrev b0P (ad b : AVal) (O : Obj) : Heap := [.var [ad, b], .note bdT 2, O, .note bT 0]
structure b0H where
  x : Bld
abbrev b0H.heap (x : b0H) : Heap := b0P x.x.ad x.x.b (.arr 1 x.x.rows x.x.v)
def b0H.dec (H : Heap) : b0H := ⟨bld H 0 2⟩
theorem b0_ws0 (O : Obj) (k : Out → Ans) : iFun Tryd.prog (layW0.hd Tryd.prog) layW0.fhs 0 92 [.ptr (.hp 0) 0, .str []] (b0P .nilptr .nilX O) k = (
  k
  (Out.ret (AVal.tuple [AVal.int IntKind.i64 0, AVal.nilIface])
      [Obj.var [AVal.ptr (Oid.hp 0) 0, AVal.nilX], Obj.note 98 2, O, Obj.note 5 0])) := by kernel_rfl
theorem b0_ws1 (O : Obj) (k : Out → Ans) : iFun Tryd.prog (layW0.hd Tryd.prog) layW0.fhs 0 92 [.ptr (.hp 0) 0, .str []] (b0P (.ptr (.hp 0) 0) .nilX O) k = (
  k
  (Out.ret (AVal.tuple [AVal.int IntKind.i64 0, AVal.nilIface])
      [Obj.var [AVal.ptr (Oid.hp 0) 0, AVal.nilX], Obj.note 98 2, O, Obj.note 5 0])) := by kernel_rfl
theorem b0_ws2 (l : List UInt8) (n v : Nat) (rows : List (List AVal)) (k : Out → Ans) : iFun Tryd.prog (Lay.nil.hd Tryd.prog) Lay.nil.fhs 0 92 [.ptr (.hp 0) 0, .str l] (b0P .nilptr (.own 2 0 n v false) (.arr 1 rows v)) k = (
 let m0 : Nat := n + (List.map (fun (c : UInt8) => [AVal.int IntKind.u8 (↑c.toNat : Int)]) l).length;
 let m1 : Nat := v + 1;
  bif v == v && n == rows.length && decide ((2 * m0 + 1000) * 1 ≤ 281474976710656) && true then
  k
  (Out.ret (AVal.tuple [AVal.int IntKind.i64 (↑l.length : Int), AVal.nilIface])
  [Obj.var [AVal.ptr (Oid.hp 0) 0, AVal.own 2 0 m0 m1 false], Obj.note 98 2,
  Obj.arr 1 (rows.append (List.map (fun (c : UInt8) => [AVal.int IntKind.u8 (↑c.toNat : Int)]) l)) m1,
  Obj.note 5 0])
  else none) := by kernel_rfl
theorem b0_ws3 (l : List UInt8) (n v : Nat) (rows : List (List AVal)) (k : Out → Ans) : iFun Tryd.prog (Lay.nil.hd Tryd.prog) Lay.nil.fhs 0 92 [.ptr (.hp 0) 0, .str l] (b0P (.ptr (.hp 0) 0) (.own 2 0 n v false) (.arr 1 rows v)) k = (
 let m0 : Nat := n + (List.map (fun (c : UInt8) => [AVal.int IntKind.u8 (↑c.toNat : Int)]) l).length;
 let m1 : Nat := v + 1;
  bif v == v && n == rows.length && decide ((2 * m0 + 1000) * 1 ≤ 281474976710656) && true then
  k
  (Out.ret (AVal.tuple [AVal.int IntKind.i64 (↑l.length : Int), AVal.nilIface])
  [Obj.var [AVal.ptr (Oid.hp 0) 0, AVal.own 2 0 m0 m1 false], Obj.note 98 2,
  Obj.arr 1 (rows.append (List.map (fun (c : UInt8) => [AVal.int IntKind.u8 (↑c.toNat : Int)]) l)) m1,
  Obj.note 5 0])
  else none) := by kernel_rfl
theorem b0_wb2 (c : UInt8) (n v : Nat) (rows : List (List AVal)) (k : Out → Ans) : iFun Tryd.prog (Lay.nil.hd Tryd.prog) Lay.nil.fhs 0 56 [.ptr (.hp 0) 0, .int .u8 c.toNat] (b0P .nilptr (.own 2 0 n v false) (.arr 1 rows v)) k = (
 let m0 : Nat := n + 1;
 let m1 : Nat := v + 1;
  bif v == v && n == rows.length && decide ((2 * m0 + 1000) * 1 ≤ 281474976710656) && true then
  k
  (Out.ret AVal.nilIface
  [Obj.var [AVal.ptr (Oid.hp 0) 0, AVal.own 2 0 m0 m1 false], Obj.note 98 2,
  Obj.arr 1 (rows.append [[AVal.int IntKind.u8 (↑c.toNat : Int)]]) m1, Obj.note 5 0])
  else none) := by kernel_rfl
theorem b0_wb3 (c : UInt8) (n v : Nat) (rows : List (List AVal)) (k : Out → Ans) : iFun Tryd.prog (Lay.nil.hd Tryd.prog) Lay.nil.fhs 0 56 [.ptr (.hp 0) 0, .int .u8 c.toNat] (b0P (.ptr (.hp 0) 0) (.own 2 0 n v false) (.arr 1 rows v)) k = (
 let m0 : Nat := n + 1;
 let m1 : Nat := v + 1;
  bif v == v && n == rows.length && decide ((2 * m0 + 1000) * 1 ≤ 281474976710656) && true then
  k
  (Out.ret AVal.nilIface
  [Obj.var [AVal.ptr (Oid.hp 0) 0, AVal.own 2 0 m0 m1 false], Obj.note 98 2,
  Obj.arr 1 (rows.append [[AVal.int IntKind.u8 (↑c.toNat : Int)]]) m1, Obj.note 5 0])
  else none) := by kernel_rfl
theorem b0_len0 (ad : AVal) (O : Obj) (k : Out → Ans) : iFun Tryd.prog (Lay.nil.hd Tryd.prog) Lay.nil.fhs 0 113 [.ptr (.hp 0) 0] (b0P ad .nilX O) k = (
  k (Out.ret (AVal.int IntKind.i64 0) (b0P ad AVal.nilX O))) := by kernel_rfl
theorem b0_len1 (ad : AVal) (n v : Nat) (O : Obj) (k : Out → Ans) : iFun Tryd.prog (Lay.nil.hd Tryd.prog) Lay.nil.fhs 0 113 [.ptr (.hp 0) 0] (b0P ad (.own 2 0 n v false) O) k = (
  k (Out.ret (AVal.int IntKind.i64 (↑n : Int)) (b0P ad (AVal.own 2 0 n v false) O))) := by kernel_rfl
theorem b0_ws (x : b0H) (l : List UInt8) (hx : x.x.can 0 2) (h : x.x.t.length + l.length ≤ 1099511627776) : CallOK Tryd.prog 92 [.ptr (.hp 0) 0, .str l] x.heap (.ret (.tuple [.int .i64 l.length, .nilIface]) ({ x with x := x.x.add 0 2 l } : b0H).heap) := by
  obtain ⟨⟨ad, b, rows, v⟩⟩ := x
  obtain ⟨h1, h2, h3⟩ := hx
  unfold Bld.add Bld.t
  simp only [Bld.t] at h h1 h2 h3 ⊢
  generalize bytesOf rows = text at *
  subst h2 h3
  cases text with
  | nil =>
    cases l with
    | nil =>
      refine layW0_ok.call (fun k => ?_)
      rcases h1 with rfl | rfl
      · exact b0_ws0 (.arr 1 [] v) k
      · exact b0_ws1 (.arr 1 [] v) k
    | cons c t =>
      refine relAt_ok (i := 0) (c := 1) (j := 2) ?_
      simp only [List.length_nil] at h
      refine Lay.nil_ok.call (fun k => ?_)
      have e3 : wsV [] (c :: t) v = v + 1 + 1 := rfl
      rw [e3]
      generalize hl : c :: t = l at *
      have e4 : bfB 2 ([] ++ l) (v + 1 + 1) = .own 2 0 l.length (v + 1 + 1) false := by rw [← hl]; rfl
      rw [e4]
      rcases h1 with rfl | rfl
      · rw [show relAt 0 1 2 (b0P .nilptr (bfB 2 [] v) (.arr 1 (([] : List UInt8).map byteRow) v)) = b0P .nilptr (.own 2 0 0 (v + 1) false) (.arr 1 [] (v + 1)) from rfl, b0_ws2]
        simp (disch := omega) only [e_map, List.length_map, dT, beq_self_eq_true, Bool.and_true, cond_true, List.append_eq, List.nil_append, Nat.zero_add, List.length_nil, Nat.mul_one, List.map_nil]
      · rw [show relAt 0 1 2 (b0P (.ptr (.hp 0) 0) (bfB 2 [] v) (.arr 1 (([] : List UInt8).map byteRow) v)) = b0P (.ptr (.hp 0) 0) (.own 2 0 0 (v + 1) false) (.arr 1 [] (v + 1)) from rfl, b0_ws3]
        simp (disch := omega) only [e_map, List.length_map, dT, beq_self_eq_true, Bool.and_true, cond_true, List.append_eq, List.nil_append, Nat.zero_add, List.length_nil, Nat.mul_one, List.map_nil]
  | cons c t =>
    refine Lay.nil_ok.call (fun k => ?_)
    have e3 : wsV (c :: t) l v = v + 1 := rfl
    have e4 : bfB 2 ((c :: t) ++ l) (v + 1) = .own 2 0 ((c :: t) ++ l).length (v + 1) false := rfl
    have e5 : bfB 2 (c :: t) v = .own 2 0 (c :: t).length v false := rfl
    rw [e3, e4, e5]
    generalize c :: t = m at *
    rcases h1 with rfl | rfl
    · rw [b0_ws2]
      simp (disch := omega) only [e_map, List.length_map, dT, beq_self_eq_true, Bool.and_true, cond_true, List.append_eq, List.length_append, Nat.mul_one]
    · rw [b0_ws3]
      simp (disch := omega) only [e_map, List.length_map, dT, beq_self_eq_true, Bool.and_true, cond_true, List.append_eq, List.length_append, Nat.mul_one]
theorem b0_wb (x : b0H) (c : UInt8) (hx : x.x.can 0 2) (h : x.x.t.length ≤ 1073741824) : CallOK Tryd.prog 56 [.ptr (.hp 0) 0, .int .u8 c.toNat] x.heap (.ret .nilIface ({ x with x := x.x.add 0 2 [c] } : b0H).heap) := by
  obtain ⟨⟨ad, b, rows, v⟩⟩ := x
  obtain ⟨h1, h2, h3⟩ := hx
  unfold Bld.add Bld.t
  simp only [Bld.t] at h h1 h2 h3 ⊢
  generalize bytesOf rows = text at *
  subst h2 h3
  have e6 : [c].map byteRow = [[.int .u8 c.toNat]] := rfl
  rw [e6]
  cases text with
  | nil =>
    refine relAt_ok (i := 0) (c := 1) (j := 2) ?_
    refine Lay.nil_ok.call (fun k => ?_)
    have e3 : wsV [] [c] v = v + 1 + 1 := rfl
    have e4 : bfB 2 ([] ++ [c]) (v + 1 + 1) = .own 2 0 1 (v + 1 + 1) false := rfl
    rw [e3, e4]
    rcases h1 with rfl | rfl
    · rw [show relAt 0 1 2 (b0P .nilptr (bfB 2 [] v) (.arr 1 (([] : List UInt8).map byteRow) v)) = b0P .nilptr (.own 2 0 0 (v + 1) false) (.arr 1 [] (v + 1)) from rfl, b0_wb2]
      simp only [beq_self_eq_true]
      rfl
    · rw [show relAt 0 1 2 (b0P (.ptr (.hp 0) 0) (bfB 2 [] v) (.arr 1 (([] : List UInt8).map byteRow) v)) = b0P (.ptr (.hp 0) 0) (.own 2 0 0 (v + 1) false) (.arr 1 [] (v + 1)) from rfl, b0_wb3]
      simp only [beq_self_eq_true]
      rfl
  | cons d t =>
    refine Lay.nil_ok.call (fun k => ?_)
    have e3 : wsV (d :: t) [c] v = v + 1 := rfl
    have e4 : bfB 2 ((d :: t) ++ [c]) (v + 1) = .own 2 0 ((d :: t) ++ [c]).length (v + 1) false := rfl
    have e5 : bfB 2 (d :: t) v = .own 2 0 (d :: t).length v false := rfl
    rw [e3, e4, e5]
    generalize d :: t = m at *
    rcases h1 with rfl | rfl
    · rw [b0_wb2]
      simp (disch := omega) only [e_map, List.length_map, dT, beq_self_eq_true, Bool.and_true, cond_true, List.append_eq, List.length_append, Nat.mul_one, List.length_cons, List.length_nil]
    · rw [b0_wb3]
      simp (disch := omega) only [e_map, List.length_map, dT, beq_self_eq_true, Bool.and_true, cond_true, List.append_eq, List.length_append, Nat.mul_one, List.length_cons, List.length_nil]
theorem b0_len (x : b0H) (hx : x.x.can 0 2) : CallOK Tryd.prog 113 [.ptr (.hp 0) 0] x.heap (.ret (.int .i64 x.x.t.length) x.heap) := by
  obtain ⟨⟨ad, b, rows, v⟩⟩ := x
  obtain ⟨h1, h2, h3⟩ := hx
  simp only [Bld.t] at h1 h2 h3 ⊢
  generalize bytesOf rows = text at *
  subst h2 h3
  refine Lay.nil_ok.call (fun k => ?_)
  cases text with
  | nil => exact b0_len0 ad _ k
  | cons c t => exact b0_len1 ad (c :: t).length v _ k
theorem b0_str (x : b0H) (hx : x.x.can 0 2) (h : x.x.t.length ≤ 1099511627776) : CallOK Tryd.prog 58 [.ptr (.hp 0) 0] x.heap (.ret (.str x.x.t) ({ x with x := x.x.dead } : b0H).heap) := by
  obtain ⟨⟨ad, b, rows, v⟩⟩ := x
  obtain ⟨h1, h2, h3⟩ := hx
  unfold Bld.dead Bld.t
  simp only [Bld.t] at h h1 h2 h3 ⊢
  generalize bytesOf rows = text at *
  subst h2 h3
  cases text with
  | nil => exact str_ok0 (cs := [ad, .nilX]) rfl rfl
  | cons c t => exact str_ok (i := 0) (off := 0) (j := 2) (u := v) (cs := [ad, .own 2 0 (c :: t).length v false]) (l := c :: t) rfl rfl rfl rfl (by simp) h
noncomputable def b0_wsTold : FSp := mkF (fun xs H => (b0H.dec H, aS xs 1)) (fun x => x.1.x.can 0 2 ∧ x.1.x.t.length + x.2.length ≤ 1099511627776) (fun x => [.ptr (.hp 0) 0, .str x.2]) (fun x => x.1.heap) (fun x k => k (.ret (.tuple [.int .i64 x.2.length, .nilIface]) ({ x.1 with x := x.1.x.add 0 2 x.2 } : b0H).heap))
noncomputable def b0_wbTold : FSp := mkF (fun xs H => (b0H.dec H, UInt8.ofNat (aI xs 1).toNat)) (fun x => x.1.x.can 0 2 ∧ x.1.x.t.length ≤ 1073741824) (fun x => [.ptr (.hp 0) 0, .int .u8 x.2.toNat]) (fun x => x.1.heap) (fun x k => k (.ret .nilIface ({ x.1 with x := x.1.x.add 0 2 [x.2] } : b0H).heap))
noncomputable def b0_lenTold : FSp := mkF (fun xs H => b0H.dec H) (fun x => x.x.can 0 2) (fun x => [.ptr (.hp 0) 0]) (fun x => x.heap) (fun x k => k (.ret (.int .i64 x.x.t.length) x.heap))
noncomputable def b0_strTold : FSp := mkF (fun xs H => b0H.dec H) (fun x => x.x.can 0 2 ∧ x.x.t.length ≤ 1099511627776) (fun x => [.ptr (.hp 0) 0]) (fun x => x.heap) (fun x k => k (.ret (.str x.x.t) ({ x with x := x.x.dead } : b0H).heap))
noncomputable def b0_lay (L : Lay) : Lay := (((L.addF 92 b0_wsTold).addF 56 b0_wbTold).addF 113 b0_lenTold).addF 58 b0_strTold
theorem b0_ok {L : Lay} (h : L.OK Tryd.prog) : (b0_lay L).OK Tryd.prog :=
  (((h.addF (mkF_ok fun x h => ⟨_, fun k => rfl, b0_ws x.1 x.2 h.1 h.2⟩)).addF (mkF_ok fun x h => ⟨_, fun k => rfl, b0_wb x.1 x.2 h.1 h.2⟩)).addF (mkF_ok fun x h => ⟨_, fun k => rfl, b0_len x h⟩)).addF (mkF_ok fun x h => ⟨_, fun k => rfl, b0_str x h.1 h.2⟩)
end Go.Mu
