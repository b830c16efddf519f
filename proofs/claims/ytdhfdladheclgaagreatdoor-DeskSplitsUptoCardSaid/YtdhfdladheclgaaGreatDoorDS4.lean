/-
  Lemmas on the given program (part 4).
-/
import Derived.Test.YtdhfdladheclgaaGreatDoorDS3
import Derived.Shelf.GgClosure.StringsIndexFunc
import Derived.Lib.TrimUEq
import Derived.Test.YtdhfdladheclgaaGreatDoorProg
import Derived.KernelRfl
import Derived.WalkKit
import Derived.ProofKit
import Derived.Lib.UnsafeStr
import Derived.Shelf.RegionOpenPlain
import Derived.Test.YtdhfdladheclgaaGreatDoorRows
import Derived.Shelf.LaysM
import Derived.Shelf.Strings.BuilderRune
import Derived.Shelf.Strings.BuilderK
import Derived.Shelf.Unicode.Decode
import Derived.Shelf.Unicode.DecodeAny
import Derived.Lib.LaidU8
import Derived.Lib.LaidTab
set_option linter.unusedVariables false
set_option linter.unusedSimpArgs false
set_option maxRecDepth 100000
namespace Go.Mu
open Go Go.Proofs
theorem Lay.OK.nest {P : Program} {L : Lay} (h : L.OK P) {fh : FH} {f id n id' n' : Nat} {l m lx mx l' m' lx' mx' : List Nat} {sp sp' : LSp} (e1 : loopsIn (codeOf P f) = [loopAt id (codeOf P f), loopAt id' (codeOf P f)]) (e2 : loopsIn (loopAt id (codeOf P f)) = [loopAt id' (codeOf P f)]) (e2' : loopsIn (loopAt id' (codeOf P f)) = [])
    (e3 : fh.loops (firstRegion (loopAt id (codeOf P f))) = some (loopSpec n l m lx mx sp)) (e3' : fh.loops (firstRegion (loopAt id' (codeOf P f))) = some (loopSpec n' l' m' lx' mx' sp'))
    (hs : SpOK (lturn P L fh f id l m lx mx) n l m lx mx sp) (hs' : SpOK (lturn P L fh f id' l' m' lx' mx') n' l' m' lx' mx' sp') : (L.addL f fh).OK P := by
  have t' : LoopTold P (loopAt id' (codeOf P f)) (loopSpec n' l' m' lx' mx' sp') := h.told (LOk.of _ (fun d hd => by rw [e2'] at hd; cases hd)) hs'
  have hin : LOk P fh (loopAt id (codeOf P f)) := LOk.of _ (fun d hd sp0 hsp => by
    rw [e2, List.mem_singleton] at hd
    subst hd
    rw [e3', Option.some.injEq] at hsp
    subst hsp; exact t')
  refine h.addL (LOk.of _ (fun d hd sp0 hsp => ?_))
  rw [e1, List.mem_cons, List.mem_singleton] at hd
  rcases hd with rfl | rfl
  · rw [e3, Option.some.injEq] at hsp
    subst hsp; exact h.told hin hs
  · rw [e3', Option.some.injEq] at hsp
    subst hsp; exact t'
def wdM (s : List UInt8) (n : Nat) : Nat := n + wlen (s.drop n)
def ptM : PtW := fun s => wordsF s.length s
theorem drop_c (s : List UInt8) (n : Nat) (h : n < s.length) : s.drop n = s.getD n 0 :: s.drop (n + 1) := by
  rw [List.drop_eq_getElem_cons h, List.getD_eq_getElem?_getD, List.getElem?_eq_getElem h]; rfl
theorem wd_runs (s : List UInt8) (hs : s.length ≤ 1099511627776) (x : AVal) (i : Int) (H : Heap) : ∀ (m n : Nat), s.length - n ≤ m → n ≤ s.length →
    LoopRuns (lturn Tryz.prog Lay.nil (ptFH wdM ptM) 17 5 [0,3,4,5] [] [0,3,4,5] []) 36 [0,3,4,5] [] [0,3,4,5] [] [.str s, x, .int .i64 i, .int .i64 (n : Nat)] [] H (.exit 2) [.str s, x, .int .i64 i, .int .i64 (wdM s n : Nat)] [] H := by
  have stop : ∀ n : Nat, n ≤ s.length → (n < s.length → s.getD n 0 = 32) → LoopRuns (lturn Tryz.prog Lay.nil (ptFH wdM ptM) 17 5 [0,3,4,5] [] [0,3,4,5] []) 36 [0,3,4,5] [] [0,3,4,5] [] [.str s, x, .int .i64 i, .int .i64 (n : Nat)] [] H (.exit 2) [.str s, x, .int .i64 i, .int .i64 (wdM s n : Nat)] [] H := fun n hn h => by
    have e0 : wdM s n = n := by
      unfold wdM
      by_cases hl : n < s.length
      · rw [drop_c s n hl, h hl]; rfl
      · rw [List.drop_eq_nil_of_le (by omega)]; rfl
    rw [e0]
    refine .stop (by simp) (fun D k => (wd_step wdM ptM s x i n H D k).trans ?_)
    by_cases hl : n < s.length
    · simp only [dT (show (n : Int) < (s.length : Int) by omega), dT (show (0 : Int) ≤ (n : Int) by omega), Bool.and_self, Bool.true_or, cond_true, Int.toNat_natCast, h hl]
      rfl
    · simp only [dF (show ¬ (n : Int) < (s.length : Int) by omega), Bool.and_false, Bool.not_false, Bool.or_true, cond_true, cond_false]
  intro m
  induction m with
  | zero => intro n hm hn; exact stop n hn (fun h => by omega)
  | succ m ih =>
    intro n hm hn
    by_cases hl : n < s.length
    case neg => exact stop n hn (fun h => absurd h hl)
    by_cases hc : s.getD n 0 = 32
    · exact stop n hn (fun _ => hc)
    · have q32 : (((s.getD n 0).toNat : Int) != 32) = true := by
        have := eqc (c := s.getD n 0) (n := 32) (by decide)
        simp only [bne]; rw [this]
        simpa using hc
      have w1 : IntKind.i64.wrap ((n : Int) + 1) = ((n + 1 : Nat) : Int) := wrap_add1 (by omega)
      have e0 : wdM s n = wdM s (n + 1) := by
        unfold wdM
        have hn : nb (s.getD n 0) = true := by unfold nb; simpa using hc
        rw [drop_c s n hl]
        unfold wlen
        rw [List.takeWhile_cons, hn]
        simp only [if_true, List.length_cons]
        omega
      rw [e0]
      refine .step (fun D k => (wd_step wdM ptM s x i n H D k).trans ?_) (ih (n + 1) (by omega) (by omega))
      simp only [dT (show (n : Int) < (s.length : Int) by omega), dT (show (0 : Int) ≤ (n : Int) by omega), Bool.and_self, Bool.true_or, cond_true, Int.toNat_natCast, q32, w1]
theorem wdSp_ok : SpOK (lturn Tryz.prog Lay.nil (ptFH wdM ptM) 17 5 [0,3,4,5] [] [0,3,4,5] []) 36 [0,3,4,5] [] [0,3,4,5] [] (wdSp wdM) := mkL_ok fun a h => ⟨_, _, _, _, fun k => rfl, wd_runs a.s h.2 a.x a.i a.H _ a.n (Nat.le_refl _) h.1⟩
noncomputable abbrev ptTurn := lturn Tryz.prog Lay.nil (ptFH wdM ptM) 17 3 [0,3,4] [] [3] []
theorem wordsF_cons (m : Nat) (s : List UInt8) (i : Nat) (h : i < s.length) : wordsF (m + 1) (s.drop i) = if wdM s i = i then wordsF m (s.drop (wdM s i + 1)) else (s.drop i).take (wdM s i - i) :: wordsF m (s.drop (wdM s i + 1)) := by
  have h0 : s.drop i ≠ [] := by rw [drop_c s i h]; simp
  rw [wordsF, if_neg h0]
  unfold wdM
  by_cases hz : wlen (s.drop i) = 0
  · rw [if_pos hz, if_pos (by omega), hz, List.drop_drop]
  · rw [if_neg hz, if_neg (by omega), List.drop_drop, Nat.add_sub_cancel_left, Nat.add_assoc]
theorem wdM_le (s : List UInt8) (i : Nat) (h : i ≤ s.length) : i ≤ wdM s i ∧ wdM s i ≤ s.length := by
  have := wlen_le (s.drop i)
  rw [List.length_drop] at this
  unfold wdM
  omega
theorem cut_eq (s : List UInt8) (i n : Nat) (h : i ≤ n) : List.drop i (List.take n s) = (s.drop i).take (n - i) := by rw [List.drop_take]
theorem pt_own (s : List UInt8) (hs : s.length ≤ 1048576) : ∀ (m i : Nat) (acc : List (List UInt8)), s.length - i ≤ m → 1 ≤ acc.length → acc.length ≤ i →
    LoopRuns ptTurn 36 [0,3,4] [] [3] [] [.str s, .own 0 0 acc.length (acc.length - 1) false, .int .i64 (i : Nat)] [] [.arr 1 (acc.map strRow) (acc.length - 1)] (.exit 0) [.own 0 0 (acc ++ wordsF m (s.drop i)).length ((acc ++ wordsF m (s.drop i)).length - 1) false] [] [.arr 1 ((acc ++ wordsF m (s.drop i)).map strRow) ((acc ++ wordsF m (s.drop i)).length - 1)] := by
  have out : ∀ (m i : Nat) (acc : List (List UInt8)), s.length ≤ i → LoopRuns ptTurn 36 [0,3,4] [] [3] [] [.str s, .own 0 0 acc.length (acc.length - 1) false, .int .i64 (i : Nat)] [] [.arr 1 (acc.map strRow) (acc.length - 1)] (.exit 0) [.own 0 0 (acc ++ wordsF m (s.drop i)).length ((acc ++ wordsF m (s.drop i)).length - 1) false] [] [.arr 1 ((acc ++ wordsF m (s.drop i)).map strRow) ((acc ++ wordsF m (s.drop i)).length - 1)] := fun m i acc hi => by
    rw [List.drop_eq_nil_of_le hi, wordsF_nil, List.append_nil]
    exact .stop (by simp) (fun D k => (pt_s1 wdM ptM s i acc.length (acc.length - 1) (acc.map strRow) D k).trans (by simp only [dF (show ¬ (i : Int) < (s.length : Int) by omega), cond_false]))
  intro m
  induction m with
  | zero => intro i acc hm ha hb; exact out 0 i acc (by omega)
  | succ m ih =>
    intro i acc hm ha hb
    by_cases hl : i < s.length
    case neg => exact out (m + 1) i acc (by omega)
    obtain ⟨p1, p2⟩ := wdM_le s i (by omega)
    have key := fun D k => pt_s1 wdM ptM s i acc.length (acc.length - 1) (acc.map strRow) D k
    simp only [Int.toNat_natCast, dT (show (i : Int) < (s.length : Int) by omega), cond_true] at key
    replace key := fun D k => (key D k).trans ((congrArg (fun c => cond c _ none) (tst_true ⟨⟨by omega, by omega⟩, .refl _, by trivial⟩)).trans (cond_true _ _))
    have w1 : IntKind.i64.wrap (((wdM s i : Nat) : Int) + 1) = ((wdM s i + 1 : Nat) : Int) := wrap_add1 (by omega)
    rw [wordsF_cons m s i hl]
    by_cases hz : wdM s i = i
    · rw [if_pos hz]
      simp only [w1, dF (show ¬ ((wdM s i : Nat) : Int) > (i : Int) by omega), cond_false] at key
      exact .step key (ih (wdM s i + 1) acc (by omega) ha (by omega))
    · rw [if_neg hz]
      have e3 : (acc.map strRow).append [[AVal.str ((s.drop i).take (wdM s i - i))]] = (acc ++ [(s.drop i).take (wdM s i - i)]).map strRow := by rw [List.map_append]; rfl
      simp only [w1, dT (show ((wdM s i : Nat) : Int) > (i : Int) by omega), dT (show (0 : Int) ≤ (i : Int) by omega), dT (show (i : Int) ≤ ((wdM s i : Nat) : Int) by omega), dT (show ((wdM s i : Nat) : Int) ≤ (s.length : Int) by omega), cut_eq s i (wdM s i) p1, e3, List.length_map, beq_self_eq_true, dT (show (2 * (acc.length + 1) + 1000) * 16 ≤ 281474976710656 by omega), Bool.and_self, cond_true] at key
      have ih2 := ih (wdM s i + 1) (acc ++ [(s.drop i).take (wdM s i - i)]) (by omega) (by rw [List.length_append]; simp) (by rw [List.length_append, List.length_singleton]; omega)
      rw [List.append_assoc, List.singleton_append, List.length_append, List.length_singleton, show acc.length + 1 - 1 = acc.length - 1 + 1 by omega] at ih2
      exact .step key ih2
theorem pt_nil (s : List UInt8) (hs : s.length ≤ 1048576) : ∀ (m i : Nat), s.length - i ≤ m →
    (wordsF m (s.drop i) = [] → LoopRuns ptTurn 36 [0,3,4] [] [3] [] [.str s, nilList, .int .i64 (i : Nat)] [] [] (.exit 0) [nilList] [] []) ∧
    (wordsF m (s.drop i) ≠ [] → LoopRuns ptTurn 36 [0,3,4] [] [3] [] [.str s, nilList, .int .i64 (i : Nat)] [] [] (.exit 0) [.own 0 0 (wordsF m (s.drop i)).length ((wordsF m (s.drop i)).length - 1) false] [] [.arr 1 ((wordsF m (s.drop i)).map strRow) ((wordsF m (s.drop i)).length - 1)]) := by
  have out : ∀ (m i : Nat), s.length ≤ i → wordsF m (s.drop i) = [] ∧ LoopRuns ptTurn 36 [0,3,4] [] [3] [] [.str s, nilList, .int .i64 (i : Nat)] [] [] (.exit 0) [nilList] [] [] := fun m i hi => by
    refine ⟨by rw [List.drop_eq_nil_of_le hi, wordsF_nil], .stop (by simp) (fun D k => (pt_s0 wdM ptM s i D k).trans ?_)⟩
    simp only [dF (show ¬ (i : Int) < (s.length : Int) by omega), cond_false]
    rfl
  intro m
  induction m with
  | zero => intro i hm; obtain ⟨o1, o2⟩ := out 0 i (by omega); exact ⟨fun _ => o2, fun h => absurd o1 h⟩
  | succ m ih =>
    intro i hm
    by_cases hl : i < s.length
    case neg => obtain ⟨o1, o2⟩ := out (m + 1) i (by omega); exact ⟨fun _ => o2, fun h => absurd o1 h⟩
    obtain ⟨p1, p2⟩ := wdM_le s i (by omega)
    have key := fun D k => pt_s0 wdM ptM s i D k
    simp only [Int.toNat_natCast, dT (show (i : Int) < (s.length : Int) by omega), cond_true] at key
    replace key := fun D k => (key D k).trans ((congrArg (fun c => cond c _ none) (tst_true ⟨⟨by omega, by omega⟩, .refl _, by trivial⟩)).trans (cond_true _ _))
    have w1 : IntKind.i64.wrap (((wdM s i : Nat) : Int) + 1) = ((wdM s i + 1 : Nat) : Int) := wrap_add1 (by omega)
    rw [wordsF_cons m s i hl]
    by_cases hz : wdM s i = i
    · rw [if_pos hz]
      simp only [w1, dF (show ¬ ((wdM s i : Nat) : Int) > (i : Int) by omega), cond_false] at key
      obtain ⟨i1, i2⟩ := ih (wdM s i + 1) (by omega)
      exact ⟨fun h => .step key (i1 h), fun h => .step key (i2 h)⟩
    · rw [if_neg hz]
      refine ⟨fun h => (by cases h), fun _ => ?_⟩
      simp only [w1, dT (show ((wdM s i : Nat) : Int) > (i : Int) by omega), dT (show (0 : Int) ≤ (i : Int) by omega), dT (show (i : Int) ≤ ((wdM s i : Nat) : Int) by omega), dT (show ((wdM s i : Nat) : Int) ≤ (s.length : Int) by omega), cut_eq s i (wdM s i) p1, Bool.and_self, cond_true] at key
      have ih2 := pt_own s hs m (wdM s i + 1) [(s.drop i).take (wdM s i - i)] (by omega) (by simp) (by show 1 ≤ _; omega)
      rw [List.singleton_append] at ih2
      exact .step key ih2
theorem ptSp_ok : SpOK ptTurn 36 [0,3,4] [] [3] [] (ptSp ptM) := mkL_ok fun a h => by
  obtain ⟨s, i⟩ := a
  obtain ⟨h1, h2⟩ := h
  simp only at h1 h2
  subst h1
  obtain ⟨r1, r2⟩ := pt_nil s h2 s.length 0 (by omega)
  rw [List.drop_zero] at r1 r2
  show ∃ e vs bs H', (∀ k : AExit → List AVal → List (List AVal) → Heap → Ans, cond (ptM s == []) _ _ = k e vs bs H') ∧ _
  by_cases h0 : wordsF s.length s = []
  · have hb : (ptM s == []) = true := by unfold ptM; rw [h0]; rfl
    rw [hb]
    exact ⟨_, _, _, _, fun k => rfl, r1 h0⟩
  · have hb : (ptM s == []) = false := by unfold ptM; simpa using h0
    rw [hb]
    exact ⟨_, _, _, _, fun k => rfl, r2 h0⟩
theorem layPt_ok : (layPt wdM ptM).OK Tryz.prog := Lay.nil_ok.nest (id := 3) (id' := 5) (by kernel_rfl) (by kernel_rfl) (by kernel_rfl) (by kernel_rfl) (by kernel_rfl) ptSp_ok wdSp_ok
theorem pt_ok (s : List UInt8) (hs : s.length ≤ 1048576) : CallOK Tryz.prog 17 [.str s] [] (.ret (encL false encS [] (wordsF s.length s)) []) := by
  have key := fun k => (pt_fun wdM ptM s k).trans ((congrArg (fun c => cond c _ none) (tst_true ⟨⟨rfl, hs⟩, .refl _, by trivial⟩)).trans (cond_true _ _))
  by_cases h0 : wordsF s.length s = []
  · have hb : (ptM s == []) = true := by unfold ptM; rw [h0]; rfl
    rw [hb] at key
    have hc : CallOK Tryz.prog 17 [.str s] [] (.ret (.list true 0 fun (x : Nat) => []) []) := layPt_ok.callF (G := []) rfl key
    rw [h0]
    exact hc.sub (.refl _) ⟨Sub.list (fun h => by cases h) (fun i hi => by omega), rfl⟩
  · have hb : (ptM s == []) = false := by unfold ptM; simpa using h0
    rw [hb] at key
    exact own_told (W := wordsF s.length s) (rows := (ptM s).map strRow) (by rw [List.length_map]; exact Nat.le_of_eq (Nat.zero_add _)) (by rw [List.drop_zero, List.take_of_length_le (by rw [List.length_map]; exact Nat.le_refl _)]; rfl) (layPt_ok.call key)
end Go.Mu
set_option linter.unusedVariables false
set_option linter.unusedSimpArgs false
set_option maxRecDepth 100000
namespace Go.Mu
open Go Go.Proofs
noncomputable def lwSp : LSp := mkL (fun vs _ H => (decL decS (vs.getD 0 .undef), (aI vs 2).toNat, H)) (fun x => x.2.1 = 0 ∧ x.1.length ≤ 1099511627776) (fun x => [encL false encS [] x.1, encL false encS [] x.1, .int .i64 (x.2.1 : Nat)]) (fun _ => []) (fun x => x.2.2)
  (fun x k => k (.exit 0) [.undef, encL false encS [] x.1, encL false encS [] x.1] [] x.2.2)
noncomputable def lwFH : FH := .of [(3, loopSpec 39 [3,4,5] [] [2,3,4] [] lwSp)]
def alive37Told : FSp := mkFS [] (fun _ => true) (fun _ k => k (.ret (.bool true) []))
def partsTold : FSp := mkFS [.s] (fun xs => decide ((aS xs 0).length ≤ 1048576)) (fun xs k => k (.ret (encL false encS [] (wordsF (aS xs 0).length (aS xs 0))) []))
theorem partsTold_ok : ∀ xs H k out, partsTold xs H k = some out → ∃ o, CallOK Tryz.prog 17 xs H o ∧ k o = some out := mkFS_ok fun ys xs e h => by
  obtain ⟨s, rfl⟩ : ∃ s, xs = [.str s] := ⟨_, e⟩
  exact ⟨_, fun k => rfl, pt_ok s (of_decide_eq_true h)⟩
noncomputable def layLw0 : Lay := ((Lay.nil.addF 16 deskSTold).addF 17 partsTold).addF 18 alive37Told
theorem lw_step (l : List (List UInt8)) (i : Int) (H : Heap) (D : List (FuncId × List AVal)) (k : Kont) : lturn Tryz.prog layLw0 lwFH 6 3 [3,4,5] [] [2,3,4] [] (stL 39 [3,4,5] [encL false encS [] l, encL false encS [] l, .int .i64 i] [] [] H D) k = (
 let n0 : Int := (↑l.length : Int);
 let c1 : Bool := decide (i < n0);
 let c2 : Bool := decide (i ≥ n0);
 let c3 : Bool := decide (0 ≤ i) && c1 || !!c2;
 let l4 : List UInt8 := l.getD i.toNat [];
  bif c1 then
  bif c3 then
  bif c3 then
  bif bif c2 then true else !l4 == l4 then
  k AExit.ret
  (stL 39 [2, 3, 4]
  [AVal.bool false, AVal.list false l.length fun (i : Nat) => [AVal.str (l.getD i [])],
  AVal.list false l.length fun (i : Nat) => [AVal.str (l.getD i [])]]
  [] [] H D)
  else
  k AExit.normal
  (stL 39 [3, 4, 5]
  [AVal.list false l.length fun (i : Nat) => [AVal.str (l.getD i [])],
  AVal.list false l.length fun (i : Nat) => [AVal.str (l.getD i [])],
  AVal.int IntKind.i64 (IntKind.i64.wrap (i + 1))]
  [] [] H D)
  else none
  else none
  else
  k (AExit.exit 0)
  (stL 39 [2, 3, 4]
  [AVal.undef, AVal.list false l.length fun (i : Nat) => [AVal.str (l.getD i [])],
  AVal.list false l.length fun (i : Nat) => [AVal.str (l.getD i [])]]
        [] [] H D)) := by kernel_rfl
noncomputable def layLw : Lay := layLw0.addL 6 lwFH
theorem lw_fun (s : List UInt8) (k : Out → Ans) : iFun Tryz.prog (layLw.hd Tryz.prog) layLw.fhs 0 6 [.str s] [] k = (
 let c0 : Bool := decide (s.length ≤ 1048576);
 let m1 : Nat :=
  (decL decS
  (AVal.list false (wordsF s.length s).length fun (i : Nat) => [AVal.str ((wordsF s.length s).getD i [])])).length;
 let n2 : Int := (↑m1 : Int);
  bif c0 then
  bif c0 then
  bif
  tst
  ((Int.toNat 0 = 0 ∧ m1 ≤ 1099511627776) ∧
  SubTL
  [AVal.list false (wordsF s.length s).length fun (i : Nat) => [AVal.str ((wordsF s.length s).getD i [])],
  AVal.list false (wordsF s.length s).length fun (i : Nat) =>
  [AVal.str ((wordsF s.length s).getD i [])],
  AVal.int IntKind.i64 0]
  [AVal.list false m1 fun (i : Nat) =>
  [AVal.str
  ((decL decS
  (AVal.list false (wordsF s.length s).length fun (i : Nat) =>
  [AVal.str ((wordsF s.length s).getD i [])])).getD
  i [])],
  AVal.list false m1 fun (i : Nat) =>
  [AVal.str
  ((decL decS
  (AVal.list false (wordsF s.length s).length fun (i : Nat) =>
  [AVal.str ((wordsF s.length s).getD i [])])).getD
  i [])],
  AVal.int IntKind.i64 (↑(Int.toNat 0) : Int)] ∧
  ([] : List (List AVal)) = [] ∧ ([] : Heap) = []) then
  k (Out.ret (AVal.bool (bif n2 == n2 then true else false)) [])
  else none
  else none
  else none) := by kernel_rfl
end Go.Mu
set_option linter.unusedVariables false
set_option linter.unusedSimpArgs false
set_option maxRecDepth 100000
namespace Go.Mu
open Go Go.Proofs
theorem lwSp_ok : SpOK (lturn Tryz.prog layLw0 lwFH 6 3 [3,4,5] [] [2,3,4] []) 39 [3,4,5] [] [2,3,4] [] lwSp := mkL_ok fun a h => by
  obtain ⟨l, i, H⟩ := a
  obtain ⟨h1, h2⟩ := h
  simp only at h1 h2
  subst h1
  refine ⟨_, _, _, _, fun k => rfl, ?_⟩
  exact seq_runs (fun i => [encL false encS [] l, encL false encS [] l, .int .i64 (i : Nat)]) (fun _ => []) (fun _ => H) l.length (e := .exit 0) (by simp)
    (fun i hi D k => by
      have w1 : IntKind.i64.wrap ((i : Int) + 1) = ((i + 1 : Nat) : Int) := wrap_add1 (by omega)
      refine (lw_step l i H D k).trans ?_
      simp only [w1, dT (show (i : Int) < (l.length : Int) by omega), dF (show ¬ (i : Int) ≥ (l.length : Int) by omega), dT (show (0 : Int) ≤ (i : Int) by omega), Bool.and_self, Bool.true_or, beq_self_eq_true, Bool.not_true, cond_true, cond_false]
      rfl)
    (fun D k => by
      refine (lw_step l (l.length : Nat) H D k).trans ?_
      simp only [dF (show ¬ ((l.length : Nat) : Int) < (l.length : Int) by omega), cond_false]
      rfl)
theorem layLw_ok (ha : ∀ xs H k out, alive37Told xs H k = some out → ∃ o, CallOK Tryz.prog 18 xs H o ∧ k o = some out) : layLw.OK Tryz.prog :=
  (((Lay.nil_ok.addF deskSTold_ok).addF partsTold_ok).addF ha : layLw0.OK Tryz.prog).loop1 (id := 3) (by kernel_rfl) (by kernel_rfl) (by kernel_rfl) lwSp_ok
end Go.Mu
set_option linter.unusedVariables false
set_option linter.unusedSimpArgs false
set_option maxRecDepth 100000
namespace Go.Proofs
open Go.Shelf
end Go.Proofs
namespace Go.Mu
open Go Go.Proofs Go.Shelf Go.RowKit
variable {P : Program}
end Go.Mu
set_option linter.unusedVariables false
set_option linter.unusedSimpArgs false
set_option maxRecDepth 100000
namespace Go.Mu
open Go Go.Proofs
def blk (c : UInt8) : Bool := c == 32 || c == 9 || c == 10 || c == 12 || c == 13
end Go.Mu
set_option linter.unusedVariables false
set_option linter.unusedSimpArgs false
set_option maxRecDepth 100000
namespace Go.Mu
open Go Go.Proofs
/- trims -/
def trimsA (s : List UInt8) : Bool := decide (1 < s.length) && s.getD 0 0 == 45 && blk (s.getD 1 0)
theorem hA (u : List UInt8) : (decide ((u.length : Int) > 1) && u.getD 0 0 == 45 && blk (u.getD 1 0)) = trimsA u := by
  unfold trimsA
  rw [show decide ((u.length : Int) > 1) = decide (1 < u.length) from decide_eq_decide.2 (by omega)]
end Go.Mu
set_option linter.unusedVariables false
set_option linter.unusedSimpArgs false
namespace Go.Mu
open Go
variable {P : Program} {w w' : World} {E E' : Env} {H H' G : Heap} {β : Nat → Option Nat} {a : Act}
section
variable {sz u u0 : Nat} {rows rows0 : List (List AVal)}
end
end Go.Mu
set_option linter.unusedVariables false
set_option linter.unusedSimpArgs false
set_option maxRecDepth 100000
namespace Go.Mu
open Go Go.Proofs
section
variable {P : Program} {w w' : World} {E E' : Env} {H H' : Heap}
theorem Post.pre {E1 : Env} {H1 : Heap} {o : Out} (ev : Evo No w E H w E1 H1) {e : Ending} {w' : World} (h : Post w E1 H1 o e w') : Post w E H o e w' := by
  cases o with
  | ret v H' =>
    cases e with
    | returned c => obtain ⟨E', g1, g2, g3⟩ := h; exact ⟨E', ev.trans g1 (fun x hx => hx.elim), g2, g3⟩
    | panicked _ => exact h.elim
    | outgrown => exact h.elim
  | panic p H' =>
    cases e with
    | returned _ => exact h.elim
    | panicked ch => obtain ⟨E', c, g0, g1, g2, g3⟩ := h; exact ⟨E', c, g0, ev.trans g1 (fun x hx => hx.elim), g2, g3⟩
    | outgrown => exact h.elim
theorem kill (hs : Sim w E H) {j sz u : Nat} {rows : List (List AVal)} (hj : H[j]? = some (.arr sz rows u)) (hsz : w'.heap.size = w.heap.size) (hb : ∀ b, b ≠ E.φ j ∨ E.cap j = 0 → w'.heap[b]? = w.heap[b]?) (h1 : w'.tape = w.tape) (h2 : w'.os = w.os) (h3 : w'.output = w.output) :
    Evo No w E H w' { E with cap := upd E.cap j 0 } (H.set j (.arr sz [] (u + 1))) ∧ Sim w' { E with cap := upd E.cap j 0 } (H.set j (.arr sz [] (u + 1))) := by
  have hlt := get_lt hj
  have hi := fun l => isVar_setArr (new := []) (u' := u + 1) hj l
  have ha := fun l => arrInfo_setArr (new := []) (u' := u + 1) hj l
  have ce : ∀ l, l ≠ j → upd E.cap j 0 l = E.cap l := fun l hl => upd_other _ _ hl
  have hnv : isVar H j = false := by simp [isVar, hj]
  have hlive : ∀ l, live { E with cap := upd E.cap j 0 } (H.set j (.arr sz [] (u + 1))) l → live E H l ∧ l ≠ j := fun l hl => by
    by_cases e : l = j
    · subst e
      rcases hl with hl | ⟨_, hl⟩
      · rw [hi, hnv] at hl; cases hl
      · simp at hl
    · refine ⟨?_, e⟩
      simp only [live, hi, ha, if_neg e, ce l e] at hl
      exact hl
  have same : ∀ l, live E H l → l ≠ j → w'.heap[E.φ l]? = w.heap[E.φ l]? := fun l hl hne => by
    by_cases hc : E.cap j = 0
    · exact hb _ (.inr hc)
    · exact hb _ (.inl (fun e => hne (hs.inj l j hl (.inr ⟨⟨sz, u, arr_of_get hj⟩, hc⟩) e)))
  have imm : ∀ b, E.imm b → w'.heap[b]? = w.heap[b]? := fun b hbi => by
    by_cases hc : E.cap j = 0
    · exact hb _ (.inr hc)
    · exact hb _ (.inl (fun e => (hs.apart j (.inr ⟨⟨sz, u, arr_of_get hj⟩, hc⟩)).1 (e ▸ hbi)))
  have ev : Evo No w E H w' { E with cap := upd E.cap j 0 } (H.set j (.arr sz [] (u + 1))) := by
    refine ⟨by omega, fun b _ _ hk => ?_, fun b hbi => ⟨hbi, imm b hbi⟩, fun b hbi => .inl hbi, fun l hl => ⟨by rw [hi]; exact hl, rfl⟩, fun l sz' u' hl => ?_, fun l hl => .inr ⟨(hlive l hl).1, rfl⟩, by simp, h1, h2, h3⟩
    · by_cases hc : E.cap j = 0
      · exact hb _ (.inr hc)
      · exact hb _ (.inl (fun e => hk j (.inr ⟨⟨sz, u, arr_of_get hj⟩, hc⟩) e.symm))
    · by_cases e : l = j
      · subst e
        rw [arr_of_get hj] at hl
        simp only [Option.some.injEq, Prod.mk.injEq] at hl
        obtain ⟨rfl, rfl⟩ := hl
        exact ⟨u + 1, by rw [ha, if_pos rfl], by omega, fun h => by omega⟩
      · exact ⟨u', by rw [ha, if_neg e]; exact hl, Nat.le_refl _, fun _ => ⟨ce l e, fun _ => rfl⟩⟩
  have hse := ev.sees
  refine ⟨ev, fun b hbi => by rw [hsz]; exact hs.immLt b hbi, fun l cs hc => ?_, fun l sz' rw' u' hc => ?_, fun l hl => ⟨(hs.apart l (hlive l hl).1).1, by rw [hsz]; exact (hs.apart l (hlive l hl).1).2⟩, fun x y hx hy he => hs.inj x y (hlive x hx).1 (hlive y hy).1 he, fun m t n hm hl => ?_, hs.glob.mono hse.imm⟩
  · by_cases e : l = j
    · subst e; rw [List.getElem?_set_self hlt] at hc; simp at hc
    · rw [List.getElem?_set_ne (Ne.symm e)] at hc
      exact (hs.var l cs hc).mono hse (same l (.inl (var_of_get hc)) e)
  · by_cases e : l = j
    · subst e
      rw [List.getElem?_set_self hlt] at hc
      simp only [Option.some.injEq, Obj.arr.injEq] at hc
      obtain ⟨rfl, rfl, rfl⟩ := hc
      exact ⟨(hs.arr l sz rows u hj).1, Nat.zero_le _, fun r hr => by simp at hr, fun hcap => by simp at hcap⟩
    · rw [List.getElem?_set_ne (Ne.symm e)] at hc
      obtain ⟨g1, g2, g3, g4⟩ := hs.arr l sz' rw' u' hc
      refine ⟨g1, by simp only [ce l e]; exact g2, g3, fun hcap => ?_⟩
      simp only [ce l e] at hcap ⊢
      exact (g4 hcap).mono hse (same l (.inr ⟨⟨sz', u', arr_of_get hc⟩, hcap⟩) e)
  · obtain ⟨g1, g2⟩ := hlive _ hl
    exact (hs.note m t n (get_set_note (fun t n e => by cases e) hm) g1).same (same _ g1 g2)
def isNilL : AVal → Bool
  | .nilX => true
  | .list true 0 _ => true
  | _ => false
theorem isNilL_rep {v : AVal} {c : Value} (h : isNilL v = true) (r : Rep w E H v c) : ∃ a, c = .slice a 0 0 := by
  unfold isNilL at h
  split at h
  · exact ⟨none, rep_nilX r⟩
  · obtain ⟨ad, cap, rfl, hle, hfull, _⟩ := rep_list r
    have := hfull rfl
    subst this
    exact ⟨ad, rfl⟩
  · cases h
theorem relink (hs : Sim w E H) {i c j sz u : Nat} {cs : List AVal} {nx : AVal} {rows : List (List AVal)} (hi : H[i]? = some (.var cs)) (hc : cs[c]? = some nx) (hnx : isNilL nx = true) (hj : H[j]? = some (.arr sz rows u)) :
    Evo No w E H w { E with cap := upd E.cap j 0 } ((H.set j (.arr sz [] (u + 1))).set i (.var (cs.set c (.own j 0 0 (u + 1) false)))) ∧ Sim w { E with cap := upd E.cap j 0 } ((H.set j (.arr sz [] (u + 1))).set i (.var (cs.set c (.own j 0 0 (u + 1) false)))) := by
  obtain ⟨ev, sim⟩ := kill (w' := w) hs hj rfl (fun _ _ => rfl) rfl rfl rfl
  have hij : i ≠ j := fun e => by subst e; rw [hi] at hj; cases hj
  have hi1 : (H.set j (.arr sz [] (u + 1)))[i]? = some (.var cs) := by rw [List.getElem?_set_ne (Ne.symm hij)]; exact hi
  obtain ⟨k1, k2⟩ := set_same_var (new := cs.set c (.own j 0 0 (u + 1) false)) hi1
  have hinfo : arrInfo ((H.set j (.arr sz [] (u + 1))).set i (.var (cs.set c (.own j 0 0 (u + 1) false)))) j = some (sz, u + 1) := by
    rw [k2, arrInfo_setArr hj, if_pos rfl]
  have hse : Sees w { E with cap := upd E.cap j 0 } (H.set j (.arr sz [] (u + 1))) w { E with cap := upd E.cap j 0 } ((H.set j (.arr sz [] (u + 1))).set i (.var (cs.set c (.own j 0 0 (u + 1) false)))) :=
    ⟨fun b hb => ⟨hb, rfl⟩, fun k hk => ⟨by rw [k1]; exact hk, rfl⟩, fun k sz' u' hk => ⟨u', by rw [k2]; exact hk, Nat.le_refl _, fun _ => ⟨rfl, fun _ => rfl⟩⟩⟩
  have sim2 := sim.set (w' := w) (k := i) (obj := .var (cs.set c (.own j 0 0 (u + 1) false))) k1 k2 hse (Nat.le_refl _) (fun _ _ _ => rfl) (fun cs' e => by
    cases e
    obtain ⟨ds, ty, fr, b1, b2, b3, b4⟩ := sim.var i cs hi1
    refine ⟨ds, ty, fr, b1, by simpa using b2, by simpa using b3, fun m v hm => ?_⟩
    replace hm : (cs.set c (.own j 0 0 (u + 1) false))[m]? = some v := hm
    rw [List.getElem?_set] at hm
    by_cases e : c = m
    · subst e
      have hlt : c < cs.length := (List.getElem?_eq_some_iff.1 hc).1
      simp only [if_true, if_pos hlt, Option.some.injEq] at hm
      subst hm
      obtain ⟨x, x1, x2, x3⟩ := b4 c _ hc
      obtain ⟨ad, rfl⟩ := isNilL_rep hnx x3
      exact ⟨_, x1, x2, .own j 0 0 (u + 1) false ad 0 sz (u + 1) hinfo (Nat.le_refl _) (fun _ => ⟨Nat.le_refl _, fun _ => rfl, fun _ _ => by simp, by simp, fun h => by simp at h⟩)⟩
    · rw [if_neg e] at hm
      obtain ⟨x, x1, x2, x3⟩ := b4 m v hm
      exact ⟨x, x1, x2, x3.mono hse⟩) (fun _ _ _ e => by cases e) (fun _ _ e => by cases e) (fun _ _ h => h)
  refine ⟨ev.trans (Y := No) ⟨Nat.le_refl _, fun _ _ _ _ => rfl, fun b hb => ⟨hb, rfl⟩, fun b hb => .inl hb, fun k hk => ⟨by rw [k1]; exact hk, rfl⟩, fun k sz' u' hk => ⟨u', by rw [k2]; exact hk, Nat.le_refl _, fun _ => ⟨rfl, fun _ => rfl⟩⟩, fun k hk => .inr ⟨(live_congr k1 k2 k).1 hk, rfl⟩, by simp, rfl, rfl, rfl⟩ (fun x hx => hx.elim), sim2⟩
def relAt (i c j : Nat) (H : Heap) : Heap := match H[i]?, H[j]? with
  | some (.var cs), some (.arr sz rows u) => match cs[c]? with
    | some x => cond (isNilL x) ((H.set j (.arr sz [] (u + 1))).set i (.var (cs.set c (.own j 0 0 (u + 1) false)))) H
    | _ => H
  | _, _ => H
theorem CallOK.relink {f : FuncId} {xs : List AVal} {o : Out} {i c j sz u : Nat} {cs : List AVal} {nx : AVal} {rows : List (List AVal)} (hi : H[i]? = some (.var cs)) (hc : cs[c]? = some nx) (hnx : isNilL nx = true) (hj : H[j]? = some (.arr sz rows u))
    (h : CallOK P f xs ((H.set j (.arr sz [] (u + 1))).set i (.var (cs.set c (.own j 0 0 (u + 1) false)))) o) : CallOK P f xs H o := by
  intro w E ys sim hlen hr
  obtain ⟨ev, sim2⟩ := Mu.relink sim hi hc hnx hj
  exact Calls.mono (h w _ ys sim2 hlen (fun m hm => (hr m hm).mono ev.sees)) (fun e w' hp => hp.pre ev)
end
theorem relAt_ok {P : Program} {f : FuncId} {xs : List AVal} {H : Heap} {o : Out} {i c j : Nat} (h : CallOK P f xs (relAt i c j H) o) : CallOK P f xs H o := by
  unfold relAt at h
  split at h
  · rename_i h1 h2
    split at h
    · rename_i x h3
      rw [Bool.cond_eq_ite] at h
      split at h
      · rename_i h4
        exact CallOK.relink h1 h3 h4 h2 h
      · exact h
    · exact h
  · exact h
/- String -/
theorem freeze_other {w : World} {g n b : Nat} (h : b ≠ g) : (w.freeze ⟨g, 0, none⟩ n).heap[b]? = w.heap[b]? := by
  unfold World.freeze
  split
  · rfl
  · simp [Array.getElem?_modify, Ne.symm h]
theorem freeze_size {w : World} {g n : Nat} : (w.freeze ⟨g, 0, none⟩ n).heap.size = w.heap.size := by
  unfold World.freeze
  split
  · rfl
  · simp
theorem freeze_rest {w : World} {g n : Nat} : (w.freeze ⟨g, 0, none⟩ n).tape = w.tape ∧ (w.freeze ⟨g, 0, none⟩ n).os = w.os ∧ (w.freeze ⟨g, 0, none⟩ n).output = w.output := by
  unfold World.freeze
  split <;> exact ⟨rfl, rfl, rfl⟩
theorem str_walk {w w1 : World} {b off n cap : Nat} {ad : Option Addr} {pv : Option Addr} {s : ByteArray} (hc : w.cell? ⟨b, off + 1, none⟩ = some (.slice ad n cap))
    (hSD : (Builtin.unsafeSliceData_ #[59] 94 #[.slice ad n cap]).run Tryz.prog w.drew = .ok (.pointer pv) w.drew)
    (hUS : (Builtin.unsafeString_ #[94, 3] 9 #[.pointer pv, .int .i64 n]).run Tryz.prog w.drew = .ok (.string s) w1) :
    Calls Tryz.prog 33 #[.pointer (some ⟨b, off, none⟩)] w fun e w' => e = .returned (.string s) ∧ w' = w1 := by
  have c1 : w.drew.cell? ⟨b, off + 1, none⟩ = some (.slice ad n cap) := hc
  have mixed : Tryz.prog.follows Departure.mixedOrders = true := by kernel_rfl
  go_enter Tryz.func33, Tryz.ntmps33
  go_wp2
  go_region_o
  all_goals (go_wp2; go_ret; exact ⟨rfl, rfl⟩)
end Go.Mu
set_option linter.unusedVariables false
set_option linter.unusedSimpArgs false
set_option maxRecDepth 100000
namespace Go.Mu
open Go Go.Proofs
abbrev bT : Nat := 5
theorem str_ok {H : Heap} {i off j u : Nat} {cs : List AVal} {l : List UInt8} (hi : H[i]? = some (.var cs)) (hc : cs[off + 1]? = some (.own j 0 l.length u false)) (hj : H[j]? = some (.arr 1 (l.map byteRow) u)) (hn : H[j + 1]? = some (.note bT 0)) (h0 : l ≠ []) (hb : l.length ≤ 1099511627776) :
    CallOK Tryz.prog 33 [.ptr (.hp i) off] H (.ret (.str l) (H.set j (.arr 1 [] (u + 1)))) := by
  intro w E ys sim hlen hr
  obtain ⟨y, rfl⟩ : ∃ y, ys = [y] := by
    match ys, hlen with
    | [y], _ => exact ⟨y, rfl⟩
  obtain ⟨e0, hv⟩ := rep_ptrH (hr 0 (by simp))
  replace e0 : y = .pointer (some ⟨E.φ i, off, none⟩) := e0
  subst e0
  obtain ⟨ds, ty, fr, b1, b2, b3, b4⟩ := sim.var i cs hi
  obtain ⟨c, c1, c2, c3⟩ := b4 (off + 1) _ hc
  obtain ⟨ad, cap, sz', u', rfl, ha, hle, hsh⟩ := rep_own c3
  rw [arr_of_get hj] at ha
  simp only [Option.some.injEq, Prod.mk.injEq] at ha
  obtain ⟨rfl, rfl⟩ := ha
  obtain ⟨s1, s2, s3, s4, s5⟩ := hsh rfl
  have hl0 : l.length ≠ 0 := by simpa using h0
  have hcap : E.cap j ≠ 0 := by omega
  have had := s5 hcap (.inl hl0)
  simp only [Nat.zero_mul] at had
  subst had
  obtain ⟨a1, a2, a3, a4⟩ := sim.arr j 1 _ u hj
  obtain ⟨es, ety, efr, g1, g2, g3, g4⟩ := a4 hcap
  have hlv : live E H j := .inr ⟨⟨1, u, arr_of_get hj⟩, hcap⟩
  obtain ⟨ns, nfr, n1, n2⟩ := sim.note (j + 1) bT 0 hn hlv
  simp only [Nat.add_sub_cancel] at n1
  rw [g1] at n1
  simp only [Option.some.injEq, Obj.cells.injEq] at n1
  obtain ⟨rfl, rfl, rfl⟩ := n1
  have hcell : w.cell? ⟨E.φ i, off + 1, none⟩ = some (.slice (some ⟨E.φ j, 0, none⟩) l.length cap) := by
    simp only [World.cell?, b1]; exact c1
  have hbytes : ∀ (k : Nat) (x : UInt8), l[k]? = some x → w.drew.cell? ((⟨E.φ j, 0, none⟩ : Addr).add k) = some (.int .u8 x.toNat) := fun k x hx => by
    obtain ⟨d, d1, d2, d3⟩ := g4 k (.int .u8 x.toNat) (by
      unfold cellAt
      simp only [Nat.div_one, Nat.mod_one, List.getElem?_map, hx, Option.map_some, Option.bind_some]
      rfl)
    have hd : d = .int .u8 x.toNat := by
      cases d3 with
      | pure _ _ h => cases h; rfl
    subst hd
    have : w.drew.heap[E.φ j]? = some (.cells es bT efr) := g1
    simp only [World.cell?, addr_add, Nat.zero_add, this]
    exact d1
  have hkl : l.length ≤ es.size := by simp at a2; omega
  have walk := str_walk (w := w) (b := E.φ i) (off := off) (pv := some ⟨E.φ j, 0, none⟩) (s := ⟨l.toArray⟩) (w1 := w.drew.freeze ⟨E.φ j, 0, none⟩ l.length) hcell
    (Lib.run_unsafeSliceData_row _ _ _ _ _ _ (show cap ≠ 0 by omega))
    (Lib.run_unsafeString_row (w := w.drew) 94 3 9 bT (by kernel_rfl) (by kernel_rfl) (E.φ j) es.size (by
      have : w.drew.heap[E.φ j]? = some (.cells es bT efr) := g1
      simp [World.shape?, this]) l h0 hkl (by omega) hbytes)
  refine Calls.mono walk (fun e w' hp => ?_)
  obtain ⟨rfl, rfl⟩ := hp
  obtain ⟨f1, f2, f3⟩ := freeze_rest (w := w.drew) (g := E.φ j) (n := l.length)
  obtain ⟨ev, sim'⟩ := kill (w' := w.drew.freeze ⟨E.φ j, 0, none⟩ l.length) sim hj freeze_size (fun b hb => by
    rcases hb with hb | hb
    · exact freeze_other (w := w.drew) hb
    · exact absurd hb hcap) f1 f2 f3
  exact ⟨_, ev, sim', .pure _ _ (by have := RepP.str (w := w.drew.freeze ⟨E.φ j, 0, none⟩ l.length) (imm := E.imm) ⟨l.toArray⟩; simpa using this)⟩
def bytesOf (rows : List (List AVal)) : List UInt8 := rows.map byteOf
theorem byteOf_row (c : UInt8) : byteOf (byteRow c) = c := by
  simp [byteOf, byteRow, intOf]
theorem bytesOf_map (l : List UInt8) : bytesOf (l.map byteRow) = l := by
  unfold bytesOf
  rw [List.map_map]
  conv => rhs; rw [← List.map_id l]
  exact List.map_congr_left (fun a _ => byteOf_row a)
noncomputable def strTold : FSp := fun xs H k => match xs with
  | [.ptr (.hp i) off] => match H[i]? with
    | some (.var cs) => match cs[off + 1]? with
      | some (.own j 0 n u false) => match H[j]?, H[j + 1]? with
        | some (.arr 1 rows v), some (.note t 0) => cond (tst (v = u ∧ t = bT ∧ n = rows.length ∧ rows = (bytesOf rows).map byteRow ∧ 0 < n ∧ n ≤ 1099511627776)) (k (.ret (.str (bytesOf rows)) (H.set j (.arr 1 [] (u + 1))))) none
        | _, _ => none
      | _ => none
    | _ => none
  | _ => none
theorem strTold_ok (xs : List AVal) (H : Heap) (k : Out → Ans) (out : Out) (ho : strTold xs H k = some out) : ∃ o, CallOK Tryz.prog 33 xs H o ∧ k o = some out := by
  unfold strTold at ho
  split at ho
  case h_2 => simp at ho
  rename_i i off
  split at ho
  case h_2 => simp at ho
  rename_i cs hi
  split at ho
  case h_2 => simp at ho
  rename_i j n u hc
  split at ho
  case h_2 => simp at ho
  rename_i rows v t hj hn
  rw [Bool.cond_eq_ite] at ho
  split at ho
  case isFalse => simp at ho
  rename_i ht
  obtain ⟨rfl, rfl, rfl, hr, h0, hb⟩ := of_tst ht
  generalize bytesOf rows = l at *
  subst hr
  rw [List.length_map] at h0 hb hc
  exact ⟨_, str_ok hi hc hj hn (by intro e; subst e; simp at h0) hb, ho⟩
end Go.Mu
set_option linter.unusedVariables false
set_option linter.unusedSimpArgs false
set_option maxRecDepth 100000
set_option maxHeartbeats 2000000
namespace Go.Mu
open Go Go.Proofs
structure ItemD where
  kind : Int
  text : List UInt8
  at_ : Int
structure SpH where
  U0 : Obj
  U1 : Obj
  U2 : Obj
  s : List UInt8
  o : AVal
  ad : AVal
  b : AVal
  a : Int
  tr : Bool
  O : Obj
  rows : List (List AVal)
  v : Nat
end Go.Mu
set_option linter.unusedVariables false
set_option linter.unusedSimpArgs false
set_option maxRecDepth 100000
namespace Go.Mu
open Go Go.Proofs
structure WdH where
  U0 : Obj
  U1 : Obj
  U2 : Obj
  s : List UInt8
  base : Int
  a : Int
  o : AVal
  O : Obj
end Go.Mu
set_option linter.unusedVariables false
set_option linter.unusedSimpArgs false
set_option maxRecDepth 100000
namespace Go.Mu
open Go Go.Proofs
theorem wrapU {n : Int} (h1 : 0 ≤ n) (h2 : n ≤ 18446744073709551615) : IntKind.u64.wrap n = n := by
  simp [IntKind.wrap, IntKind.signed, IntKind.bits]
  omega
theorem wrapB {n : Int} (h1 : 0 ≤ n) (h2 : n ≤ 255) : IntKind.u8.wrap n = n := by
  simp [IntKind.wrap, IntKind.signed, IntKind.bits]
  omega
structure NuA where
  b : Bool
  n : Nat
  f : Bool
  l : List UInt8
  i : Nat
  H : Heap
end Go.Mu
set_option linter.unusedVariables false
set_option linter.unusedSimpArgs false
set_option maxRecDepth 100000
namespace Go.Mu
open Go Go.Proofs
def digsF : Nat → Nat → List UInt8 → List UInt8
  | 0, _, t => t
  | f + 1, u, t => bif u / 10 == 0 then UInt8.ofNat (48 + u % 10) :: t else digsF f (u / 10) (UInt8.ofNat (48 + u % 10) :: t)
structure PrA where
  n : Int
  at_ : Nat
  u : Nat
  t : List UInt8
def prRows (m : Nat) (t : List UInt8) : List (List AVal) := List.replicate m (byteRow 0) ++ t.map byteRow
abbrev prH (at_ : Nat) (t : List UInt8) : Heap := [.arr 1 (prRows at_ t) 0]
def prIn (H : Heap) (at_ : Nat) : List UInt8 := bytesOf ((rowsO (H.getD 0 (.var []))).drop at_)
def prOut (at_ : Int) (u : Int) (t : List UInt8) : List UInt8 := digsF (at_.toNat - 1) u.toNat t
noncomputable def prSp : LSp := mkL (fun vs _ H => PrA.mk (aI vs 0) (aI vs 2).toNat (aI vs 3).toNat (prIn H (aI vs 2).toNat)) (fun a => a.at_ + a.t.length = 20 ∧ a.u < 10 ^ (a.at_ - 1) ∧ 1 < a.at_) (fun a => [.int .i64 a.n, .eptr 0 0 0 0, .int .i64 a.at_, .int .u64 a.u]) (fun _ => []) (fun a => prH a.at_ a.t)
  (fun a k => k (.exit 0) [.int .i64 a.n, .eptr 0 0 0 0, .int .i64 (20 - (prOut a.at_ a.u a.t).length : Nat)] [] (prH (20 - (prOut a.at_ a.u a.t).length) (prOut a.at_ a.u a.t)))
noncomputable def prFH : FH := { FH.of [(5, loopSpec 34 [0,3,4,5] [] [0,3,4] [] prSp)] with arrs := [3] }
theorem pr_step (n at_ u : Int) (rows : List (List AVal)) (D : List (FuncId × List AVal)) (k : Kont) : lturn Tryz.prog Lay.nil prFH 19 5 [0,3,4,5] [] [0,3,4] [] (stL 34 [0,3,4,5] [.int .i64 n, .eptr 0 0 0 0, .int .i64 at_, .int .u64 u] [] [] [.arr 1 rows 0] D) k = (
 let c0 : Bool := !(u == u && false);
 let n1 : Int := IntKind.i64.wrap (at_ - 1);
 let m2 : Nat := n1.toNat;
 let n3 : Int := IntKind.u64.wrap (u.tdiv 10);
  bif c0 then
  bif decide (0 ≤ n1) && decide (n1 < 20) then
  bif decide (m2 < rows.length) && true then
  bif c0 then
  bif n3 == 0 then
  k (AExit.exit 0)
  (stL 34 [0, 3, 4] [AVal.int IntKind.i64 n, AVal.eptr 0 0 0 0, AVal.int IntKind.i64 n1] [] []
  [Obj.arr 1
  (rows.set m2
  ((rows.getD m2 []).set 0
  (AVal.int IntKind.u8 (IntKind.u8.wrap (IntKind.u64.wrap (48 + u.tmod 10))))))
  0]
  D)
  else
  k AExit.normal
  (stL 34 [0, 3, 4, 5]
  [AVal.int IntKind.i64 n, AVal.eptr 0 0 0 0, AVal.int IntKind.i64 n1, AVal.int IntKind.u64 n3] [] []
  [Obj.arr 1
  (rows.set m2
  ((rows.getD m2 []).set 0
  (AVal.int IntKind.u8 (IntKind.u8.wrap (IntKind.u64.wrap (48 + u.tmod 10))))))
  0]
  D)
  else none
  else none
  else none
  else none) := by kernel_rfl
theorem set_rep {α : Type} (x y : α) (l : List α) : ∀ m : Nat, (List.replicate (m + 1) x ++ l).set m y = List.replicate m x ++ y :: l
  | 0 => rfl
  | m + 1 => by
    rw [List.replicate_succ, List.cons_append, List.set_cons_succ, set_rep x y l m]
    rfl
theorem getD_rep {α : Type} (x d : α) (l : List α) (m : Nat) : (List.replicate (m + 1) x ++ l).getD m d = x := by
  rw [List.getD_eq_getElem?_getD, List.getElem?_append_left (by simp), List.getElem?_replicate]
  simp
theorem prRows_len (m : Nat) (t : List UInt8) : (prRows m t).length = m + t.length := by simp [prRows]
theorem prRows_set (m : Nat) (t : List UInt8) (c : UInt8) : (prRows (m + 1) t).set m (((prRows (m + 1) t).getD m []).set 0 (.int .u8 c.toNat)) = prRows m (c :: t) := by
  unfold prRows
  rw [getD_rep, set_rep]
  rfl
theorem prRows_drop (m : Nat) (t : List UInt8) : (prRows m t).drop m = t.map byteRow := by simp [prRows]
theorem dig_val (u : Nat) : IntKind.u8.wrap (IntKind.u64.wrap (48 + (u : Int).tmod 10)) = ((UInt8.ofNat (48 + u % 10)).toNat : Int) := by
  have e : (u : Int).tmod 10 = ((u % 10 : Nat) : Int) := rfl
  have h : u % 10 < 10 := Nat.mod_lt _ (by decide)
  rw [e, wrapU (by omega) (by omega), wrapB (by omega) (by omega), UInt8.toNat_ofNat', Nat.mod_eq_of_lt (show 48 + u % 10 < 2 ^ 8 by omega)]
  omega
theorem pr_runs (n : Int) : ∀ (m u : Nat) (t : List UInt8), m + 2 + t.length = 20 → u < 10 ^ (m + 1) →
    LoopRuns (lturn Tryz.prog Lay.nil prFH 19 5 [0,3,4,5] [] [0,3,4] []) 34 [0,3,4,5] [] [0,3,4] [] [.int .i64 n, .eptr 0 0 0 0, .int .i64 ((m + 2 : Nat) : Int), .int .u64 u] [] (prH (m + 2) t) (.exit 0)
      [.int .i64 n, .eptr 0 0 0 0, .int .i64 (20 - (digsF (m + 1) u t).length : Nat)] [] (prH (20 - (digsF (m + 1) u t).length) (digsF (m + 1) u t)) := by
  intro m
  induction m with
  | zero =>
    intro u t hl hu
    have key := fun D k => pr_step n ((0 + 2 : Nat) : Int) u (prRows (0 + 2) t) D k
    have e1 : IntKind.i64.wrap (((0 + 2 : Nat) : Int) - 1) = ((0 + 1 : Nat) : Int) := by rw [wrap_of (by omega) (by omega)]; omega
    have e2 : ((u : Int).tdiv 10) = ((u / 10 : Nat) : Int) := rfl
    have h10 : u / 10 = 0 := by omega
    have e3 : IntKind.u64.wrap ((u / 10 : Nat) : Int) = ((u / 10 : Nat) : Int) := wrapU (by omega) (by omega)
    have e4 : (prRows (0 + 2) t).length = 20 := by rw [prRows_len]; omega
    simp only [e1, e2, e3, dig_val, Int.toNat_natCast, e4, prRows_set, h10] at key
    simp (disch := omega) only [dT, cond_true, Bool.and_true, Bool.and_self, Bool.and_false, Bool.not_false] at key
    have e5 : digsF (0 + 1) u t = UInt8.ofNat (48 + u % 10) :: t := by rw [digsF, h10]; rfl
    have e6 : 20 - (UInt8.ofNat (48 + u % 10) :: t).length = 0 + 1 := by rw [List.length_cons]; omega
    rw [e5, e6]
    exact .stop (by simp) key
  | succ m ih =>
    intro u t hl hu
    have key := fun D k => pr_step n ((m + 1 + 2 : Nat) : Int) u (prRows (m + 1 + 2) t) D k
    have hb : 10 ^ (m + 1 + 1) ≤ 10 ^ 19 := Nat.pow_le_pow_right (by decide) (by omega)
    have e1 : IntKind.i64.wrap (((m + 1 + 2 : Nat) : Int) - 1) = ((m + 1 + 1 : Nat) : Int) := by rw [wrap_of (by omega) (by omega)]; omega
    have e2 : ((u : Int).tdiv 10) = ((u / 10 : Nat) : Int) := rfl
    have e3 : IntKind.u64.wrap ((u / 10 : Nat) : Int) = ((u / 10 : Nat) : Int) := wrapU (by omega) (by omega)
    have e4 : (prRows (m + 1 + 2) t).length = 20 := by rw [prRows_len]; omega
    simp only [e1, e2, e3, dig_val, Int.toNat_natCast, e4, prRows_set] at key
    simp (disch := omega) only [dT, cond_true, Bool.and_true, Bool.and_self, Bool.and_false, Bool.not_false] at key
    rw [digsF]
    by_cases h10 : u / 10 = 0
    · simp only [h10] at key ⊢
      have e6 : 20 - (UInt8.ofNat (48 + u % 10) :: t).length = m + 1 + 1 := by rw [List.length_cons]; omega
      show LoopRuns _ _ _ _ _ _ _ _ _ _ [_, _, .int .i64 (20 - (UInt8.ofNat (48 + u % 10) :: t).length : Nat)] _ (prH (20 - (UInt8.ofNat (48 + u % 10) :: t).length) (UInt8.ofNat (48 + u % 10) :: t))
      rw [e6]
      exact .stop (by simp) key
    · have e7 : (((u / 10 : Nat) : Int) == 0) = false := by simp; omega
      have e8 : (u / 10 == 0) = false := by simpa using h10
      simp only [e7, cond_false] at key
      rw [e8]
      have hu2 : u / 10 < 10 ^ (m + 1) := by rw [Nat.pow_succ] at hu; omega
      exact .step key (ih (u / 10) (UInt8.ofNat (48 + u % 10) :: t) (by rw [List.length_cons]; omega) hu2)
theorem prSp_ok : SpOK (lturn Tryz.prog Lay.nil prFH 19 5 [0,3,4,5] [] [0,3,4] []) 34 [0,3,4,5] [] [0,3,4] [] prSp := mkL_ok fun a h => by
  obtain ⟨n, at_, u, t⟩ := a
  obtain ⟨h1, h2, h3⟩ := h
  simp only at h1 h2 h3
  obtain ⟨m, rfl⟩ : ∃ m, at_ = m + 2 := ⟨at_ - 2, by omega⟩
  exact ⟨_, _, _, _, fun k => rfl, pr_runs n m u t h1 h2⟩
noncomputable def layPr : Lay := Lay.nil.addL 19 prFH
theorem layPr_ok : layPr.OK Tryz.prog := Lay.nil_ok.loop1 (id := 5) (by kernel_rfl) (by kernel_rfl) (by kernel_rfl) prSp_ok
theorem pr_fun (n : Int) (k : Out → Ans) (c0 : Bool) (e_c0 : c0 = (decide (n < 0)))
  (n1 : Int) (e_n1 : n1 = (IntKind.u64.wrap (0 - IntKind.u64.wrap n)))
  (m2 : Nat) (e_m2 : m2 = (n1.toNat))
  (n3 : Int) (e_n3 : n3 = ((↑m2 : Int)))
  (l4 : List UInt8) (e_l4 : l4 = (prOut (↑(Int.toNat 20) : Int) n3
    (prIn
      [Obj.arr 1
          [[AVal.int IntKind.u8 0], [AVal.int IntKind.u8 0], [AVal.int IntKind.u8 0], [AVal.int IntKind.u8 0],
            [AVal.int IntKind.u8 0], [AVal.int IntKind.u8 0], [AVal.int IntKind.u8 0], [AVal.int IntKind.u8 0],
            [AVal.int IntKind.u8 0], [AVal.int IntKind.u8 0], [AVal.int IntKind.u8 0], [AVal.int IntKind.u8 0],
            [AVal.int IntKind.u8 0], [AVal.int IntKind.u8 0], [AVal.int IntKind.u8 0], [AVal.int IntKind.u8 0],
            [AVal.int IntKind.u8 0], [AVal.int IntKind.u8 0], [AVal.int IntKind.u8 0], [AVal.int IntKind.u8 0]]
          0]
      (Int.toNat 20))))
  (m5 : Nat) (e_m5 : m5 = (20 - l4.length))
  (m6 : Nat) (e_m6 : m6 = ((prRows m5 l4).length))
  (c7 : Bool) (e_c7 : c7 = (decide (20 ≤ m6)))
  (n8 : Int) (e_n8 : n8 = ((↑m5 : Int)))
  (n9 : Int) (e_n9 : n9 = (IntKind.i64.wrap (n8 - 1)))
  (c10 : Bool) (e_c10 : c10 = (decide (0 ≤ n9)))
  (c11 : Bool) (e_c11 : c11 = (decide (n9 ≤ 20)))
  (m12 : Nat) (e_m12 : m12 = (n9.toNat))
  (m13 : Nat) (e_m13 : m13 = ((20 - n9).toNat))
  (m14 : Nat) (e_m14 : m14 = (((prRows m5 l4).set m12 (((prRows m5 l4).getD m12 []).set 0 (AVal.int IntKind.u8 45))).length))
  (m15 : Nat) (e_m15 : m15 = (n8.toNat))
  (m16 : Nat) (e_m16 : m16 = ((20 - n8).toNat))
  (n17 : Int) (e_n17 : n17 = ((↑(IntKind.u64.wrap n).toNat : Int)))
  (l18 : List UInt8) (e_l18 : l18 = (prOut (↑(Int.toNat 20) : Int) n17
    (prIn
      [Obj.arr 1
          [[AVal.int IntKind.u8 0], [AVal.int IntKind.u8 0], [AVal.int IntKind.u8 0], [AVal.int IntKind.u8 0],
            [AVal.int IntKind.u8 0], [AVal.int IntKind.u8 0], [AVal.int IntKind.u8 0], [AVal.int IntKind.u8 0],
            [AVal.int IntKind.u8 0], [AVal.int IntKind.u8 0], [AVal.int IntKind.u8 0], [AVal.int IntKind.u8 0],
            [AVal.int IntKind.u8 0], [AVal.int IntKind.u8 0], [AVal.int IntKind.u8 0], [AVal.int IntKind.u8 0],
            [AVal.int IntKind.u8 0], [AVal.int IntKind.u8 0], [AVal.int IntKind.u8 0], [AVal.int IntKind.u8 0]]
          0]
      (Int.toNat 20))))
  (m19 : Nat) (e_m19 : m19 = (20 - l18.length))
  (m20 : Nat) (e_m20 : m20 = ((prRows m19 l18).length))
  (c21 : Bool) (e_c21 : c21 = (decide (20 ≤ m20)))
  (n22 : Int) (e_n22 : n22 = ((↑m19 : Int)))
  (n23 : Int) (e_n23 : n23 = (IntKind.i64.wrap (n22 - 1)))
  (c24 : Bool) (e_c24 : c24 = (decide (0 ≤ n23)))
  (c25 : Bool) (e_c25 : c25 = (decide (n23 ≤ 20)))
  (m26 : Nat) (e_m26 : m26 = (n23.toNat))
  (m27 : Nat) (e_m27 : m27 = ((20 - n23).toNat))
  (m28 : Nat) (e_m28 : m28 = (((prRows m19 l18).set m26 (((prRows m19 l18).getD m26 []).set 0 (AVal.int IntKind.u8 45))).length))
  (m29 : Nat) (e_m29 : m29 = (n22.toNat))
  (m30 : Nat) (e_m30 : m30 = ((20 - n22).toNat)) : iFun Tryz.prog (layPr.hd Tryz.prog) layPr.fhs 0 19 [.int .i64 n] [] k = (
  bif c0 then
  bif
  tst
  ((Int.toNat 20 + 0 = 20 ∧ m2 < 10 ^ (Int.toNat 20 - 1) ∧ 1 < Int.toNat 20) ∧
  SubTL [AVal.int IntKind.i64 n, AVal.eptr 0 0 0 0, AVal.int IntKind.i64 20, AVal.int IntKind.u64 n1]
  [AVal.int IntKind.i64 n, AVal.eptr 0 0 0 0, AVal.int IntKind.i64 (↑(Int.toNat 20) : Int),
  AVal.int IntKind.u64 n3] ∧
  ([] : List (List AVal)) = [] ∧
  [Obj.arr 1
  [[AVal.int IntKind.u8 0], [AVal.int IntKind.u8 0], [AVal.int IntKind.u8 0], [AVal.int IntKind.u8 0],
  [AVal.int IntKind.u8 0], [AVal.int IntKind.u8 0], [AVal.int IntKind.u8 0],
  [AVal.int IntKind.u8 0], [AVal.int IntKind.u8 0], [AVal.int IntKind.u8 0],
  [AVal.int IntKind.u8 0], [AVal.int IntKind.u8 0], [AVal.int IntKind.u8 0],
  [AVal.int IntKind.u8 0], [AVal.int IntKind.u8 0], [AVal.int IntKind.u8 0],
  [AVal.int IntKind.u8 0], [AVal.int IntKind.u8 0], [AVal.int IntKind.u8 0],
  [AVal.int IntKind.u8 0]]
  0] =
  prH (Int.toNat 20)
  (prIn
  [Obj.arr 1
  [[AVal.int IntKind.u8 0], [AVal.int IntKind.u8 0], [AVal.int IntKind.u8 0],
  [AVal.int IntKind.u8 0], [AVal.int IntKind.u8 0], [AVal.int IntKind.u8 0],
  [AVal.int IntKind.u8 0], [AVal.int IntKind.u8 0], [AVal.int IntKind.u8 0],
  [AVal.int IntKind.u8 0], [AVal.int IntKind.u8 0], [AVal.int IntKind.u8 0],
  [AVal.int IntKind.u8 0], [AVal.int IntKind.u8 0], [AVal.int IntKind.u8 0],
  [AVal.int IntKind.u8 0], [AVal.int IntKind.u8 0], [AVal.int IntKind.u8 0],
  [AVal.int IntKind.u8 0], [AVal.int IntKind.u8 0]]
  0]
  (Int.toNat 20))) then
  bif c0 then
  bif c7 && c10 && c11 && true then
  bif decide (m12 < m6) && true && decide (0 < m13) then
  bif decide (20 ≤ m14) && c10 && c11 && true then
  bif
  decide (m12 + m13 ≤ m14) &&
  (List.take m13
  (List.drop m12
  ((prRows m5 l4).set m12 (((prRows m5 l4).getD m12 []).set 0 (AVal.int IntKind.u8 45))))).all
  fun (r : List AVal) =>
  match r with
  | [v] => isInt IntKind.u8 v
  | x => false then
  k
  (Out.ret
  (AVal.str
  (List.map (fun (r : List AVal) => UInt8.ofNat (intOf (r.getD 0 AVal.undef)).toNat)
  (List.take m13
  (List.drop m12
  ((prRows m5 l4).set m12 (((prRows m5 l4).getD m12 []).set 0 (AVal.int IntKind.u8 45)))))))
  [Obj.arr 1 ((prRows m5 l4).set m12 (((prRows m5 l4).getD m12 []).set 0 (AVal.int IntKind.u8 45))) 0])
  else none
  else none
  else none
  else none
  else
  bif c7 && true && decide (n8 ≤ 20) && true then
  bif
  decide (m15 + m16 ≤ m6) &&
  (List.take m16 (List.drop m15 (prRows m5 l4))).all fun (r : List AVal) =>
  match r with
  | [v] => isInt IntKind.u8 v
  | x => false then
  k
  (Out.ret
  (AVal.str
  (List.map (fun (r : List AVal) => UInt8.ofNat (intOf (r.getD 0 AVal.undef)).toNat)
  (List.take m16 (List.drop m15 (prRows m5 l4)))))
  (prH m5 l4))
  else none
  else none
  else none
  else
  bif
  tst
  ((Int.toNat 20 + 0 = 20 ∧ (IntKind.u64.wrap n).toNat < 10 ^ (Int.toNat 20 - 1) ∧ 1 < Int.toNat 20) ∧
  SubTL
  [AVal.int IntKind.i64 n, AVal.eptr 0 0 0 0, AVal.int IntKind.i64 20,
  AVal.int IntKind.u64 (IntKind.u64.wrap n)]
  [AVal.int IntKind.i64 n, AVal.eptr 0 0 0 0, AVal.int IntKind.i64 (↑(Int.toNat 20) : Int),
  AVal.int IntKind.u64 n17] ∧
  ([] : List (List AVal)) = [] ∧
  [Obj.arr 1
  [[AVal.int IntKind.u8 0], [AVal.int IntKind.u8 0], [AVal.int IntKind.u8 0], [AVal.int IntKind.u8 0],
  [AVal.int IntKind.u8 0], [AVal.int IntKind.u8 0], [AVal.int IntKind.u8 0],
  [AVal.int IntKind.u8 0], [AVal.int IntKind.u8 0], [AVal.int IntKind.u8 0],
  [AVal.int IntKind.u8 0], [AVal.int IntKind.u8 0], [AVal.int IntKind.u8 0],
  [AVal.int IntKind.u8 0], [AVal.int IntKind.u8 0], [AVal.int IntKind.u8 0],
  [AVal.int IntKind.u8 0], [AVal.int IntKind.u8 0], [AVal.int IntKind.u8 0],
  [AVal.int IntKind.u8 0]]
  0] =
  prH (Int.toNat 20)
  (prIn
  [Obj.arr 1
  [[AVal.int IntKind.u8 0], [AVal.int IntKind.u8 0], [AVal.int IntKind.u8 0],
  [AVal.int IntKind.u8 0], [AVal.int IntKind.u8 0], [AVal.int IntKind.u8 0],
  [AVal.int IntKind.u8 0], [AVal.int IntKind.u8 0], [AVal.int IntKind.u8 0],
  [AVal.int IntKind.u8 0], [AVal.int IntKind.u8 0], [AVal.int IntKind.u8 0],
  [AVal.int IntKind.u8 0], [AVal.int IntKind.u8 0], [AVal.int IntKind.u8 0],
  [AVal.int IntKind.u8 0], [AVal.int IntKind.u8 0], [AVal.int IntKind.u8 0],
  [AVal.int IntKind.u8 0], [AVal.int IntKind.u8 0]]
  0]
  (Int.toNat 20))) then
  bif c0 then
  bif c21 && c24 && c25 && true then
  bif decide (m26 < m20) && true && decide (0 < m27) then
  bif decide (20 ≤ m28) && c24 && c25 && true then
  bif
  decide (m26 + m27 ≤ m28) &&
  (List.take m27
  (List.drop m26
  ((prRows m19 l18).set m26
  (((prRows m19 l18).getD m26 []).set 0 (AVal.int IntKind.u8 45))))).all
  fun (r : List AVal) =>
  match r with
  | [v] => isInt IntKind.u8 v
  | x => false then
  k
  (Out.ret
  (AVal.str
  (List.map (fun (r : List AVal) => UInt8.ofNat (intOf (r.getD 0 AVal.undef)).toNat)
  (List.take m27
  (List.drop m26
  ((prRows m19 l18).set m26 (((prRows m19 l18).getD m26 []).set 0 (AVal.int IntKind.u8 45)))))))
  [Obj.arr 1 ((prRows m19 l18).set m26 (((prRows m19 l18).getD m26 []).set 0 (AVal.int IntKind.u8 45)))
  0])
  else none
  else none
  else none
  else none
  else
  bif c21 && true && decide (n22 ≤ 20) && true then
  bif
  decide (m29 + m30 ≤ m20) &&
  (List.take m30 (List.drop m29 (prRows m19 l18))).all fun (r : List AVal) =>
  match r with
  | [v] => isInt IntKind.u8 v
  | x => false then
  k
  (Out.ret
  (AVal.str
  (List.map (fun (r : List AVal) => UInt8.ofNat (intOf (r.getD 0 AVal.undef)).toNat)
  (List.take m30 (List.drop m29 (prRows m19 l18)))))
  (prH m19 l18))
  else none
  else none
  else none) := by
  subst e_c0 e_n1 e_m2 e_n3 e_l4 e_m5 e_m6 e_c7 e_n8 e_n9 e_c10 e_c11 e_m12 e_m13 e_m14 e_m15 e_m16 e_n17 e_l18 e_m19 e_m20 e_c21 e_n22 e_n23 e_c24 e_c25 e_m26 e_m27 e_m28 e_m29 e_m30
  kernel_rfl
def printM (n : Int) : List UInt8 := bif decide (n < 0) then 45 :: digsF 19 n.natAbs [] else digsF 19 n.natAbs []
theorem digsF_len : ∀ (f u : Nat) (t : List UInt8), (digsF f u t).length ≤ t.length + f
  | 0, u, t => Nat.le_refl _
  | f + 1, u, t => by
    rw [digsF]
    cases u / 10 == 0 with
    | true => simp
    | false =>
      have := digsF_len f (u / 10) (UInt8.ofNat (48 + u % 10) :: t)
      simp only [cond_false]
      rw [List.length_cons] at this
      omega
theorem all_map (t : List UInt8) : ((t.map byteRow).all fun (r : List AVal) => match r with | [v] => isInt IntKind.u8 v | x => false) = true := by
  rw [List.all_map, List.all_eq_true]
  intro c hc
  rfl
theorem back_map (t : List UInt8) : List.map (fun (r : List AVal) => UInt8.ofNat (intOf (r.getD 0 AVal.undef)).toNat) (t.map byteRow) = t := bytesOf_map t
theorem pr_neg (n : Int) (h : -9223372036854775808 ≤ n) (h0 : n < 0) (k : Out → Ans) : ∃ G, ∀ k, iFun Tryz.prog (layPr.hd Tryz.prog) layPr.fhs 0 19 [.int .i64 n] [] k = k (.ret (.str (45 :: digsF 19 n.natAbs [])) G) := by
  have hL := digsF_len 19 n.natAbs []
  obtain ⟨L, e⟩ : ∃ L, L = digsF 19 n.natAbs [] := ⟨_, rfl⟩
  rw [← e] at hL ⊢
  simp only [List.length_nil, Nat.zero_add] at hL
  obtain ⟨m, hm⟩ : ∃ m, 20 - L.length = m + 1 := ⟨19 - L.length, by omega⟩
  have hw : IntKind.u64.wrap (0 - IntKind.u64.wrap n) = (n.natAbs : Int) := by
    simp [IntKind.wrap, IntKind.signed, IntKind.bits]
    omega
  have e1 : IntKind.i64.wrap (((m + 1 : Nat) : Int) - 1) = ((m : Nat) : Int) := by rw [wrap_of (by omega) (by omega)]; omega
  refine ⟨[.arr 1 (prRows m (45 :: L)) 0], fun k => (pr_fun n k true (dT h0).symm _ hw.symm n.natAbs (Int.toNat_natCast _).symm _ rfl L e (m + 1) hm.symm 20 (by rw [prRows_len]; omega) true rfl ((m + 1 : Nat) : Int) rfl (m : Int) e1.symm true (dT (by omega)).symm true (dT (by omega)).symm m (Int.toNat_natCast _).symm (L.length + 1) (by omega) 20 (by rw [List.length_set, prRows_len]; omega) (m + 1) (Int.toNat_natCast _).symm L.length (by omega) _ rfl _ rfl _ rfl _ rfl _ rfl _ rfl _ rfl _ rfl _ rfl _ rfl _ rfl _ rfl _ rfl _ rfl).trans ?_⟩
  · have hu : n.natAbs < 10 ^ (Int.toNat 20 - 1) := by
      show n.natAbs < 10 ^ 19
      omega
    rw [tst_true ⟨⟨rfl, hu, by decide⟩, .refl _, rfl, rfl⟩]
    have e2 : (prRows (m + 1) L).set m (((prRows (m + 1) L).getD m []).set 0 (.int .u8 45)) = prRows m (45 :: L) := prRows_set m L 45
    have e3 : List.take (L.length + 1) ((45 :: L).map byteRow) = (45 :: L).map byteRow := List.take_of_length_le (by simp)
    rw [e2, prRows_drop, e3, all_map, back_map]
    simp (disch := omega) only [dT, cond_true, Bool.and_true, Bool.and_self]
theorem pr_pos (n : Int) (h : n ≤ 9223372036854775807) (h0 : ¬ n < 0) : ∃ G, ∀ k, iFun Tryz.prog (layPr.hd Tryz.prog) layPr.fhs 0 19 [.int .i64 n] [] k = k (.ret (.str (digsF 19 n.natAbs [])) G) := by
  have hL := digsF_len 19 n.natAbs []
  obtain ⟨L, e⟩ : ∃ L, L = digsF 19 n.natAbs [] := ⟨_, rfl⟩
  rw [← e] at hL ⊢
  simp only [List.length_nil, Nat.zero_add] at hL
  have hw : IntKind.u64.wrap n = (n.natAbs : Int) := by rw [wrapU (by omega) (by omega)]; omega
  obtain ⟨m, hm⟩ : ∃ m, 20 - L.length = m := ⟨_, rfl⟩
  have hw2 : ((IntKind.u64.wrap n).toNat : Int) = (n.natAbs : Int) := by rw [hw]; rfl
  refine ⟨prH m L, fun k => (pr_fun n k false (dF h0).symm _ rfl _ rfl _ rfl _ rfl _ rfl _ rfl _ rfl _ rfl _ rfl _ rfl _ rfl _ rfl _ rfl _ rfl _ rfl _ rfl (n.natAbs : Int) hw2.symm L e m hm.symm 20 (by rw [prRows_len]; omega) true rfl (m : Int) rfl _ rfl _ rfl _ rfl _ rfl _ rfl _ rfl m (Int.toNat_natCast _).symm L.length (by omega)).trans ?_⟩
  · have hu : (IntKind.u64.wrap n).toNat < 10 ^ (Int.toNat 20 - 1) := by
      show (IntKind.u64.wrap n).toNat < 10 ^ 19
      rw [hw]; omega
    rw [hw] at hu
    rw [cond_false, hw]
    rw [tst_true ⟨⟨rfl, hu, by decide⟩, .refl _, rfl, rfl⟩]
    have e3 : List.take L.length (L.map byteRow) = L.map byteRow := List.take_of_length_le (by simp)
    rw [prRows_drop, e3, all_map, back_map]
    simp (disch := omega) only [dT, cond_true, cond_false, Bool.and_true, Bool.and_self]
theorem pr_ok (n : Int) (h1 : -9223372036854775808 ≤ n) (h2 : n ≤ 9223372036854775807) : CallOK Tryz.prog 19 [.int .i64 n] [] (.ret (.str (printM n)) []) := by
  unfold printM
  by_cases h0 : n < 0
  · rw [dT h0]
    obtain ⟨G, h⟩ := pr_neg n h1 h0 (fun _ => none)
    exact layPr_ok.callF (G := G) rfl h
  · rw [dF h0]
    obtain ⟨G, h⟩ := pr_pos n h2 h0
    exact layPr_ok.callF (G := G) rfl h
def prTold : FSp := mkFS [.i .i64] (fun xs => decide (-9223372036854775808 ≤ aI xs 0 ∧ aI xs 0 ≤ 9223372036854775807)) (fun xs k => k (.ret (.str (printM (aI xs 0))) []))
theorem prTold_ok : ∀ xs H k out, prTold xs H k = some out → ∃ o, CallOK Tryz.prog 19 xs H o ∧ k o = some out := mkFS_ok fun ys xs e h => by
  obtain ⟨n, rfl⟩ : ∃ n, xs = [.int .i64 n] := ⟨_, e⟩
  replace h : -9223372036854775808 ≤ n ∧ n ≤ 9223372036854775807 := of_decide_eq_true h
  exact ⟨_, fun k => rfl, pr_ok n h.1 h.2⟩
end Go.Mu
set_option linter.unusedVariables false
set_option linter.unusedSimpArgs false
set_option maxRecDepth 100000
namespace Go.Mu
open Go Go.Proofs
abbrev ssL (f : Bool) (l : List (List UInt8)) : AVal := encL f encS [] l
def idxS (l : List (List UInt8)) (s : List UInt8) : Int := bif l.any (fun x => s == x) then ((l.findIdx (fun x => s == x) : Nat) : Int) else -1
structure IyA where
  f : Bool
  l : List (List UInt8)
  s : List UInt8
  H : Heap
noncomputable def ixsSp : LSp := mkL (fun vs _ H => IyA.mk (fullOf (vs.getD 0 .undef)) (decL decS (vs.getD 0 .undef)) (aS vs 1) H) (fun a => a.l.length ≤ 1099511627776) (fun a => [ssL a.f a.l, .str a.s, .int .i64 a.l.length, .int .i64 0]) (fun _ => []) (fun a => a.H)
  (fun a k => cond (a.l.any (fun x => a.s == x)) (k .ret [.int .i64 (a.l.findIdx (fun x => a.s == x) : Nat)] [] a.H) (k (.exit 0) [.undef] [] a.H))
noncomputable def ixsFH : FH := .of [(2, loopSpec 19 [0,1,7,8] [] [4] [] ixsSp)]
theorem ixs_step (f : Bool) (l : List (List UInt8)) (s : List UInt8) (n i : Int) (H : Heap) (D : List (FuncId × List AVal)) (k : Kont) : lturn Tryz.prog Lay.nil ixsFH 104 2 [0,1,7,8] [] [4] [] (stL 19 [0,1,7,8] [ssL f l, .str s, .int .i64 n, .int .i64 i] [] [] H D) k = (
  bif decide (i < n) then
  bif decide (0 ≤ i) && decide (i < (↑l.length : Int)) then
  bif s == l.getD i.toNat [] then k AExit.ret (stL 19 [4] [AVal.int IntKind.i64 i] [] [] H D)
  else
  k AExit.normal
  (stL 19 [0, 1, 7, 8]
  [AVal.list f l.length fun (i : Nat) => [AVal.str (l.getD i [])], AVal.str s, AVal.int IntKind.i64 n,
  AVal.int IntKind.i64 (IntKind.i64.wrap (i + 1))]
  [] [] H D)
  else none
  else k (AExit.exit 0) (stL 19 [4] [AVal.undef] [] [] H D)) := by kernel_rfl
theorem ixsSp_ok : SpOK (lturn Tryz.prog Lay.nil ixsFH 104 2 [0,1,7,8] [] [4] []) 19 [0,1,7,8] [] [4] [] ixsSp := mkL_ok fun a h => by
  obtain ⟨f, l, s, H⟩ := a
  replace h : l.length ≤ 1099511627776 := h
  have hrun : ∀ D k, rounds (lturn Tryz.prog Lay.nil ixsFH 104 2 [0,1,7,8] [] [4] []) (l.length + 1) (stL 19 [0,1,7,8] [ssL f l, .str s, .int .i64 l.length, .int .i64 0] [] [] H D) k = cond (l.any (fun x => s == x)) (k .ret (stL 19 [4] [.int .i64 (l.findIdx (fun x => s == x) : Nat)] [] [] H D)) (k (.exit 0) (stL 19 [4] [.undef] [] [] H D)) := by
    intro D k
    have := search_find (turn := lturn Tryz.prog Lay.nil ixsFH 104 2 [0,1,7,8] [] [4] []) (S := fun i => stL 19 [0,1,7,8] [ssL f l, .str s, .int .i64 l.length, .int .i64 (i : Nat)] [] [] H D) (hit := fun i => (fun x => s == x) (l.getD i [])) (n := l.length) (e0 := .exit 0) (e1 := .ret)
      (R0 := stL 19 [4] [.undef] [] [] H D) (R1 := fun i => stL 19 [4] [.int .i64 (i : Nat)] [] [] H D) (fun i k hi => by
        rw [ixs_step, dT (show (i : Int) < l.length by omega), dT (show (0 : Int) ≤ i by omega), wrap_add1 (by omega)]; rfl) (fun k => by rw [ixs_step, dF (by omega)]; rfl) (by simp) (by simp) k
    rw [find_getD (fun x => s == x)] at this
    refine Eq.trans this ?_
    cases l.any (fun x => s == x) <;> rfl
  show ∃ e vs bs H', (∀ k : AExit → List AVal → List (List AVal) → Heap → Ans, cond (l.any (fun x => s == x)) _ _ = k e vs bs H') ∧ _
  cases ha : l.any (fun x => s == x) with
  | true => exact ⟨_, _, _, _, fun k => rfl, _, fun D k => by rw [hrun, ha]; rfl⟩
  | false => exact ⟨_, _, _, _, fun k => rfl, _, fun D k => by rw [hrun, ha]; rfl⟩
noncomputable def layIs : Lay := Lay.nil.addL 104 ixsFH
theorem layIs_ok : layIs.OK Tryz.prog := Lay.nil_ok.loop1 (id := 2) (by kernel_rfl) (by kernel_rfl) (by kernel_rfl) ixsSp_ok
theorem ixs_fun (f : Bool) (l : List (List UInt8)) (s : List UInt8) (k : Out → Ans) : iFun Tryz.prog (layIs.hd Tryz.prog) layIs.fhs 0 104 [ssL f l, .str s] [] k = (
 let m0 : Nat := (decL decS (AVal.list f l.length fun (i : Nat) => [AVal.str (l.getD i [])])).length;
  bif
  tst
  (m0 ≤ 1099511627776 ∧
  SubTL
  [AVal.list f l.length fun (i : Nat) => [AVal.str (l.getD i [])], AVal.str s,
  AVal.int IntKind.i64 (↑l.length : Int), AVal.int IntKind.i64 0]
  [ssL (fullOf (AVal.list f l.length fun (i : Nat) => [AVal.str (l.getD i [])]))
  (decL decS (AVal.list f l.length fun (i : Nat) => [AVal.str (l.getD i [])])),
  AVal.str s, AVal.int IntKind.i64 (↑m0 : Int), AVal.int IntKind.i64 0] ∧
  ([] : List (List AVal)) = [] ∧ ([] : Heap) = []) then
  bif
  (decL decS (AVal.list f l.length fun (i : Nat) => [AVal.str (l.getD i [])])).any fun (x : List UInt8) =>
  s == x then
  k
  (Out.ret
  (AVal.int IntKind.i64
  (↑(List.findIdx (fun (x : List UInt8) => s == x)
  (decL decS (AVal.list f l.length fun (i : Nat) => [AVal.str (l.getD i [])]))) :
  Int))
  [])
  else k (Out.ret (AVal.int IntKind.i64 (-1)) [])
  else none) := by kernel_rfl
theorem decS_enc (f : Bool) (l : List (List UInt8)) : decL decS (ssL f l) = l := decL_encL (fun s => rfl) l
theorem ixs_ok (f : Bool) (l : List (List UInt8)) (s : List UInt8) (hl : l.length ≤ 1099511627776) : CallOK Tryz.prog 104 [ssL f l, .str s] [] (.ret (.int .i64 (idxS l s)) []) := by
  have e : decL decS (AVal.list f l.length fun (i : Nat) => [AVal.str (l.getD i [])]) = l := decS_enc f l
  refine layIs_ok.callF (G := []) rfl (fun k => (ixs_fun f l s k).trans ?_)
  simp only [e]
  refine (congrArg (fun c => cond c _ none) (tst_true ⟨hl, .refl _, trivial, trivial⟩)).trans ?_
  unfold idxS
  cases l.any (fun x => s == x) <;> rfl
noncomputable def ixsTold : FSp := mkF (fun xs H => (fullOf (xs.getD 0 .undef), decL decS (xs.getD 0 .undef), aS xs 1)) (fun x => x.2.1.length ≤ 1099511627776) (fun x => [ssL x.1 x.2.1, .str x.2.2]) (fun _ => []) (fun x k => k (.ret (.int .i64 (idxS x.2.1 x.2.2)) []))
theorem ixsTold_ok : ∀ xs H k out, ixsTold xs H k = some out → ∃ o, CallOK Tryz.prog 104 xs H o ∧ k o = some out := mkF_ok fun x h => ⟨_, fun k => rfl, ixs_ok _ _ _ h⟩
end Go.Mu
set_option linter.unusedVariables false
set_option linter.unusedSimpArgs false
set_option maxRecDepth 100000
namespace Go.Mu
open Go Go.Proofs
noncomputable def layAl0 : Lay := (((Lay.nil.addF 16 deskSTold).addF 20 sJoinTold).addF 33 strTold).addL 28 { heap := [1, 3], typed := [(3, [(0, bT)])], exact := true }
theorem new_fun (k : Out → Ans) : iFun Tryz.prog (layAl0.hd Tryz.prog) layAl0.fhs 0 28 [] [] k = (
  k
  (Out.ret (AVal.ptr (Oid.hp 1) 0)
  [Obj.var [AVal.bool false], Obj.var [AVal.ptr (Oid.hp 0) 0, AVal.nilptr, AVal.nilX, AVal.str []], Obj.note 90 4,
        Obj.arr 1 [] 0, Obj.note 5 0])) := by kernel_rfl
abbrev dkH (ad b : AVal) (O : Obj) : Heap := [.var [.bool false], .var [.ptr (.hp 0) 0, ad, b, .str []], .note 90 4, O, .note bT 0]
theorem add_fun (k : Out → Ans) : iFun Tryz.prog (layAl0.hd Tryz.prog) layAl0.fhs 0 62 [.ptr (.hp 1) 0, .str [97]] (dkH .nilptr (.own 3 0 0 1 false) (.arr 1 [] 1)) k = (
  k
  (Out.ret (AVal.int IntKind.i64 0)
  [Obj.var [AVal.bool false],
  Obj.var [AVal.ptr (Oid.hp 0) 0, AVal.ptr (Oid.hp 1) 1, AVal.own 3 0 2 2 false, AVal.str []], Obj.note 90 4,
        Obj.arr 1 [[AVal.int IntKind.u8 97], [AVal.int IntKind.u8 10]] 2, Obj.note 5 0])) := by kernel_rfl
abbrev dkH1 : Heap := dkH (.ptr (.hp 1) 1) (.own 3 0 2 2 false) (.arr 1 [[.int .u8 97], [.int .u8 10]] 2)
noncomputable def addTold : FSp := mkF (fun xs H => ()) (fun _ => True) (fun _ => [.ptr (.hp 1) 0, .str [97]]) (fun _ => dkH .nilptr .nilX (.arr 1 [] 0)) (fun _ k => k (.ret (.int .i64 0) dkH1))
noncomputable def layAl1 : Lay := ((layAl0.addF 104 ixsTold).addF 62 addTold).addF 19 prTold
theorem tmp_fun (k : Out → Ans) : iFun Tryz.prog (layAl1.hd Tryz.prog) layAl1.fhs 0 30 [.ptr (.hp 1) 0] dkH1 k = (
  bif
  tst
  (2 = 2 ∧
  5 = 5 ∧
  2 = 2 ∧
  [[AVal.int IntKind.u8 97], [AVal.int IntKind.u8 10]] =
  [[AVal.int IntKind.u8 97], [AVal.int IntKind.u8 10]] ∧
  0 < 2 ∧ 2 ≤ 1099511627776) then
  k
  (Out.ret (AVal.str (bytesOf [[AVal.int IntKind.u8 97], [AVal.int IntKind.u8 10]]))
  [Obj.var [AVal.bool false],
  Obj.var [AVal.ptr (Oid.hp 0) 0, AVal.ptr (Oid.hp 1) 1, AVal.own 3 0 2 2 false, AVal.str []], Obj.note 90 4,
  Obj.arr 1 [] 3, Obj.note 5 0])
  else none) := by kernel_rfl
theorem do2_fun (k : Out → Ans) : iFun Tryz.prog (layAl1.hd Tryz.prog) layAl1.fhs 0 29 [.ptr (.hp 1) 0, .str [97,100,100,32,97]] (dkH .nilptr .nilX (.arr 1 [] 0)) k = (
  bif
  tst
  ((1 ≤ 140737488355328 ∧ 1 ≤ 140737488355328) ∧
  SubL
  [AVal.list false 1 fun (i : Nat) => [AVal.str ((wordsF 5 [97, 100, 100, 32, 97]).getD (1 + i) [])],
  AVal.str [32]]
  [AVal.list false 1 fun (i : Nat) =>
  [AVal.str
  ((decL decS
  (AVal.list false 1 fun (i : Nat) =>
  [AVal.str ((wordsF 5 [97, 100, 100, 32, 97]).getD (1 + i) [])])).getD
  i [])],
  AVal.str [32]] ∧
  ([] : Heap) = []) then
  bif
  tst
  (True ∧
  SubL [AVal.ptr (Oid.hp 1) 0, AVal.str [97]] [AVal.ptr (Oid.hp 1) 0, AVal.str [97]] ∧
  dkH AVal.nilptr AVal.nilX (Obj.arr 1 [] 0) = dkH AVal.nilptr AVal.nilX (Obj.arr 1 [] 0)) then
  k (Out.ret (AVal.tuple [AVal.str [111, 107, 10], AVal.int IntKind.i64 0]) dkH1)
  else none
  else none) := by kernel_rfl
theorem do1_fun (k : Out → Ans) : iFun Tryz.prog (layAl1.hd Tryz.prog) layAl1.fhs 0 29 [.ptr (.hp 1) 0, .str [104,101,108,108,111]] (dkH .nilptr .nilX (.arr 1 [] 0)) k = (
  bif
  tst
  (4 ≤ 1099511627776 ∧
  SubL
  [AVal.list true 4 fun (i : Nat) =>
  [[AVal.str [114, 101, 110, 100, 101, 114]], [AVal.str [99, 97, 110, 111, 110]],
  [AVal.str [117, 110, 105, 116, 115]], [AVal.str [115, 104, 97, 112, 101]]].getD
  i [],
  AVal.str [104, 101, 108, 108, 111]]
  [ssL true
  (decL decS
  (AVal.list true 4 fun (i : Nat) =>
  [[AVal.str [114, 101, 110, 100, 101, 114]], [AVal.str [99, 97, 110, 111, 110]],
  [AVal.str [117, 110, 105, 116, 115]], [AVal.str [115, 104, 97, 112, 101]]].getD
  i [])),
  AVal.str [104, 101, 108, 108, 111]] ∧
  ([] : Heap) = []) then
  k
  (Out.ret (AVal.tuple [AVal.str [33, 32, 50, 55, 49, 10], AVal.int IntKind.i64 271])
  (dkH AVal.nilptr AVal.nilX (Obj.arr 1 [] 0)))
  else none) := by kernel_rfl
end Go.Mu
set_option linter.unusedVariables false
set_option linter.unusedSimpArgs false
set_option maxRecDepth 100000
namespace Go.Mu
open Go Go.Proofs
noncomputable def doTold : FSp := mkF (fun xs H => (aS xs 1).headD 0 == 104) (fun _ => True) (fun b => [.ptr (.hp 1) 0, .str (bif b then [104,101,108,108,111] else [97,100,100,32,97])]) (fun _ => dkH .nilptr .nilX (.arr 1 [] 0))
  (fun b k => bif b then k (.ret (.tuple [.str [33,32,50,55,49,10], .int .i64 271]) (dkH .nilptr .nilX (.arr 1 [] 0))) else k (.ret (.tuple [.str [111,107,10], .int .i64 0]) dkH1))
abbrev dkH2 : Heap := dkH (.ptr (.hp 1) 1) (.own 3 0 2 2 false) (.arr 1 [] 3)
noncomputable def tmpTold : FSp := mkF (fun xs H => ()) (fun _ => True) (fun _ => [.ptr (.hp 1) 0]) (fun _ => dkH1) (fun _ k => k (.ret (.str [97,10]) dkH2))
noncomputable def newTold : FSp := mkF (fun xs H => ()) (fun _ => True) (fun _ => []) (fun _ => []) (fun _ k => k (.ret (.ptr (.hp 1) 0) (dkH .nilptr .nilX (.arr 1 [] 0))))
noncomputable def layAl3 : Lay := (((Lay.nil.addF 28 newTold).addF 29 doTold).addF 30 tmpTold)
noncomputable def layAl4 : Lay := layAl3.addL 18 { thaw := [28] }
theorem al_fun (k : Out → Ans) : iFun Tryz.prog (layAl4.hd Tryz.prog) layAl4.fhs 0 18 [] [] k = (
  bif tst (True ∧ SubL [] [] ∧ ([] : Heap) = []) then
  bif
  tst
  (True ∧
  SubL [AVal.ptr (Oid.hp 1) 0, AVal.str [104, 101, 108, 108, 111]]
  [AVal.ptr (Oid.hp 1) 0, AVal.str [104, 101, 108, 108, 111]] ∧
  dkH AVal.nilptr AVal.nilX (Obj.arr 1 [] 0) = dkH AVal.nilptr AVal.nilX (Obj.arr 1 [] 0)) then
  bif
  tst
  (True ∧
  SubL [AVal.ptr (Oid.hp 1) 0, AVal.str [97, 100, 100, 32, 97]]
  [AVal.ptr (Oid.hp 1) 0, AVal.str [97, 100, 100, 32, 97]] ∧
  dkH AVal.nilptr AVal.nilX (Obj.arr 1 [] 0) = dkH AVal.nilptr AVal.nilX (Obj.arr 1 [] 0)) then
  bif tst (True ∧ SubL [AVal.ptr (Oid.hp 1) 0] [AVal.ptr (Oid.hp 1) 0] ∧ dkH1 = dkH1) then
  k (Out.ret (AVal.bool true) dkH2)
  else none
  else none
  else none
  else none) := by kernel_rfl
end Go.Mu
set_option linter.unusedVariables false
set_option linter.unusedSimpArgs false
set_option maxRecDepth 100000
namespace Go.Mu
open Go Go.Proofs
theorem layAl0_ok : layAl0.OK Tryz.prog := (((Lay.nil_ok.addF deskSTold_ok).addF sJoinTold_ok).addF strTold_ok).addN (by kernel_rfl)
theorem add_ok : CallOK Tryz.prog 62 [.ptr (.hp 1) 0, .str [97]] (dkH .nilptr .nilX (.arr 1 [] 0)) (.ret (.int .i64 0) dkH1) := by
  refine relAt_ok (i := 1) (c := 2) (j := 3) ?_
  have e : relAt 1 2 3 (dkH .nilptr .nilX (.arr 1 [] 0)) = dkH .nilptr (.own 3 0 0 1 false) (.arr 1 [] 1) := by kernel_rfl
  rw [e]
  exact layAl0_ok.call (fun k => add_fun k)
theorem addTold_ok : ∀ xs H k out, addTold xs H k = some out → ∃ o, CallOK Tryz.prog 62 xs H o ∧ k o = some out := mkF_ok fun a h => ⟨_, fun k => rfl, add_ok⟩
theorem layAl1_ok : layAl1.OK Tryz.prog := ((layAl0_ok.addF ixsTold_ok).addF addTold_ok).addF prTold_ok
theorem tmp_ok : CallOK Tryz.prog 30 [.ptr (.hp 1) 0] dkH1 (.ret (.str [97,10]) dkH2) := by
  refine layAl1_ok.call (fun k => (tmp_fun k).trans ?_)
  refine (congrArg (fun c => cond c _ none) (tst_true ⟨rfl, rfl, rfl, rfl, by decide, by decide⟩)).trans rfl
theorem dec_1 : decL decS (AVal.list false 1 fun (i : Nat) => [AVal.str ((wordsF 5 [97, 100, 100, 32, 97]).getD (1 + i) [])]) = [[97]] := by kernel_rfl
theorem do2_ok : CallOK Tryz.prog 29 [.ptr (.hp 1) 0, .str [97,100,100,32,97]] (dkH .nilptr .nilX (.arr 1 [] 0)) (.ret (.tuple [.str [111,107,10], .int .i64 0]) dkH1) := by
  refine layAl1_ok.call (fun k => (do2_fun k).trans ?_)
  refine (congrArg (fun c => cond c _ none) (tst_true ⟨⟨by decide, by decide⟩, ?_, rfl⟩)).trans ((cond_true _ _).trans ((congrArg (fun c => cond c _ none) (tst_true ⟨trivial, .refl _, rfl⟩)).trans rfl))
  rw [dec_1]
  refine .cons (Sub.list (fun h => h) (fun i hi => ?_)) (.refl _)
  have : i = 0 := by omega
  subst this
  exact .refl _
theorem do1_ok : CallOK Tryz.prog 29 [.ptr (.hp 1) 0, .str [104,101,108,108,111]] (dkH .nilptr .nilX (.arr 1 [] 0)) (.ret (.tuple [.str [33,32,50,55,49,10], .int .i64 271]) (dkH .nilptr .nilX (.arr 1 [] 0))) := by
  refine layAl1_ok.call (fun k => (do1_fun k).trans ?_)
  have e : decL decS (AVal.list true 4 fun (i : Nat) => [[AVal.str [114, 101, 110, 100, 101, 114]], [AVal.str [99, 97, 110, 111, 110]], [AVal.str [117, 110, 105, 116, 115]], [AVal.str [115, 104, 97, 112, 101]]].getD i []) = [[114, 101, 110, 100, 101, 114], [99, 97, 110, 111, 110], [117, 110, 105, 116, 115], [115, 104, 97, 112, 101]] := by kernel_rfl
  refine (congrArg (fun c => cond c _ none) (tst_true ⟨by decide, ?_, rfl⟩)).trans rfl
  rw [e]
  refine .cons (Sub.list (fun h => h) (fun i hi => ?_)) (.refl _)
  match i, hi with
  | 0, _ => exact .refl _
  | 1, _ => exact .refl _
  | 2, _ => exact .refl _
  | 3, _ => exact .refl _
theorem doTold_ok : ∀ xs H k out, doTold xs H k = some out → ∃ o, CallOK Tryz.prog 29 xs H o ∧ k o = some out := mkF_ok fun a h => by
  cases a
  · exact ⟨_, fun k => rfl, do2_ok⟩
  · exact ⟨_, fun k => rfl, do1_ok⟩
theorem tmpTold_ok : ∀ xs H k out, tmpTold xs H k = some out → ∃ o, CallOK Tryz.prog 30 xs H o ∧ k o = some out := mkF_ok fun a h => ⟨_, fun k => rfl, tmp_ok⟩
theorem newTold_ok : ∀ xs H k out, newTold xs H k = some out → ∃ o, CallOK Tryz.prog 28 xs H o ∧ k o = some out := mkF_ok fun a h => ⟨_, fun k => rfl, layAl0_ok.call (fun k => new_fun k)⟩
theorem layAl4_ok : layAl4.OK Tryz.prog := (((Lay.nil_ok.addF newTold_ok).addF doTold_ok).addF tmpTold_ok).addN (by kernel_rfl)
theorem alive37_ok : CallOK Tryz.prog 18 [] [] (.ret (.bool true) []) := by
  refine CallOK.shrink (H := []) (H' := []) (G := dkH2) ?_ (Nat.le_refl _) rfl (fun x hx => by cases hx)
  refine layAl4_ok.call (fun k => (al_fun k).trans ?_)
  refine (congrArg (fun c => cond c _ none) (tst_true ⟨trivial, .refl _, rfl⟩)).trans ((cond_true _ _).trans ?_)
  refine (congrArg (fun c => cond c _ none) (tst_true ⟨trivial, .refl _, rfl⟩)).trans ((cond_true _ _).trans ?_)
  refine (congrArg (fun c => cond c _ none) (tst_true ⟨trivial, .refl _, rfl⟩)).trans ((cond_true _ _).trans ?_)
  exact (congrArg (fun c => cond c _ none) (tst_true ⟨trivial, .refl _, rfl⟩)).trans rfl
theorem alive37Told_ok : ∀ xs H k out, alive37Told xs H k = some out → ∃ o, CallOK Tryz.prog 18 xs H o ∧ k o = some out := mkFS_ok fun ys xs e h => by
  obtain rfl : xs = [] := e
  exact ⟨_, fun k => rfl, alive37_ok⟩
theorem words_len (s : List UInt8) : (wordsF s.length s).length ≤ s.length + 1 := by
  rw [← wordsF_split]
  exact Nat.le_trans (List.length_filter_le _ _) (split_len s)
theorem split_law (s : List UInt8) (hs : s.length ≤ 1048576) : CallOK Tryz.prog 6 [.str s] [] (.ret (.bool true) []) := by
  have hl := words_len s
  refine (layLw_ok alive37Told_ok).callF (G := []) rfl (fun k => (lw_fun s k).trans ?_)
  generalize wordsF s.length s = l at hl
  have e : decL decS (AVal.list false l.length fun (i : Nat) => [AVal.str (l.getD i [])]) = l := decL_encL (g := decS) (f := encS) (d := []) (full := false) (fun a => rfl) l
  simp only [e, dT hs, cond_true]
  refine (congrArg (fun c => cond c _ none) (tst_true ⟨⟨rfl, by omega⟩, .refl _, trivial, trivial⟩)).trans ((cond_true _ _).trans ?_)
  simp only [beq_self_eq_true, cond_true]
end Go.Mu
set_option linter.unusedVariables false
namespace Go.Mu
open Go
variable {H : Type}
mutual
theorem size_bulk : ∀ d : DataW H, (tOf d).size ≤ Go.Proofs.YtdhfdladheclgaaGreatDoor.Rows.uptoBulk d
  | .lit (.bool _) => by simp [tOf, T.size, Go.Proofs.YtdhfdladheclgaaGreatDoor.Rows.uptoBulk]
  | .lit (.int _ _) => by simp [tOf, T.size, Go.Proofs.YtdhfdladheclgaaGreatDoor.Rows.uptoBulk]
  | .lit (.string _) => by simp [tOf, T.size, Go.Proofs.YtdhfdladheclgaaGreatDoor.Rows.uptoBulk]
  | .lit (.float _ _) => by simp [tOf, T.size, T.sizes, Go.Proofs.YtdhfdladheclgaaGreatDoor.Rows.uptoBulk]
  | .lit .nil => by simp [tOf, T.size, T.sizes, Go.Proofs.YtdhfdladheclgaaGreatDoor.Rows.uptoBulk]
  | .nil => by simp [tOf, T.size, T.sizes, Go.Proofs.YtdhfdladheclgaaGreatDoor.Rows.uptoBulk]
  | .ptr d => by simp [tOf, T.size, T.sizes, Go.Proofs.YtdhfdladheclgaaGreatDoor.Rows.uptoBulk]
  | .slice es sp => by
    have := size_bulks es
    simp only [tOf, T.size, Go.Proofs.YtdhfdladheclgaaGreatDoor.Rows.uptoBulk]
    omega
  | .agg ps => by
    have := size_bulks ps
    simp only [tOf, T.size, Go.Proofs.YtdhfdladheclgaaGreatDoor.Rows.uptoBulk]
    omega
  | .iface _ d => by simp [tOf, T.size, T.sizes, Go.Proofs.YtdhfdladheclgaaGreatDoor.Rows.uptoBulk]
  | .map _ => by simp [tOf, T.size, T.sizes, Go.Proofs.YtdhfdladheclgaaGreatDoor.Rows.uptoBulk]
  | .held _ => by simp [tOf, T.size, T.sizes, Go.Proofs.YtdhfdladheclgaaGreatDoor.Rows.uptoBulk]
theorem size_bulks : ∀ ds : List (DataW H), T.sizes (tOfs ds) ≤ Go.Proofs.YtdhfdladheclgaaGreatDoor.Rows.uptoBulkAll ds
  | [] => by simp [tOfs, T.sizes, Go.Proofs.YtdhfdladheclgaaGreatDoor.Rows.uptoBulkAll]
  | d :: ds => by
    have := size_bulk d
    have := size_bulks ds
    simp only [tOfs, T.sizes, Go.Proofs.YtdhfdladheclgaaGreatDoor.Rows.uptoBulkAll]
    omega
end
theorem small_size {ds : List (DataW H)} (h : Go.Proofs.YtdhfdladheclgaaGreatDoor.Rows.uptoSmall H ds = true) : T.sizes (tOfs ds) ≤ 1048576 := by
  unfold Go.Proofs.YtdhfdladheclgaaGreatDoor.Rows.uptoSmall at h
  have := size_bulks ds
  have := of_decide_eq_true h
  omega
end Go.Mu
set_option linter.unusedVariables false
set_option maxRecDepth 100000
namespace Go.Proofs
open Go.Shelf
def Tryz.uRen : Ren := {
  f := fun x => match x with
    | 168 => 256
    | 169 => 33
    | 197 => 98
    | 240 => 47
    | 242 => 270
    | 260 => 153
    | 276 => 68
    | 278 => 315
    | n => n,
  t := fun x => match x with
    | 0 => 0
    | 3 => 3
    | 4 => 4
    | 5 => 5
    | 9 => 9
    | 20 => 20
    | 21 => 21
    | 37 => 59
    | 46 => 58
    | 51 => 278
    | 70 => 60
    | 72 => 62
    | 75 => 65
    | 80 => 56
    | 105 => 182
    | 119 => 274
    | 127 => 94
    | 138 => 276
    | 139 => 277
    | 164 => 121
    | n => n,
  g := fun x => match x with
    | 3 => 1
    | 4 => 2
    | n => n }
theorem Tryz.uRen_197 : Lays.n197 Tryz.prog Tryz.uRen := {
  mixed := by kernel_rfl
  f197 := Tryz.func98.trans (congrArg some (by kernel_rfl))
  f260 := Tryz.func153.trans (congrArg some (by kernel_rfl))
  t0 := Tryz.underlying0
  a0 := Tryz.isAgg0
  z0 := Tryz.sizeOf0
  v0 := Tryz.zeroValue0
  t3 := Tryz.underlying3
  a3 := Tryz.isAgg3
  z3 := Tryz.sizeOf3
  v3 := Tryz.zeroValue3
  t4 := Tryz.underlying4
  a4 := Tryz.isAgg4
  z4 := Tryz.sizeOf4
  v4 := Tryz.zeroValue4
  t5 := Tryz.underlying5
  a5 := Tryz.isAgg5
  z5 := Tryz.sizeOf5
  v5 := Tryz.zeroValue5
  t9 := Tryz.underlying9
  a9 := Tryz.isAgg9
  z9 := Tryz.sizeOf9
  v9 := Tryz.zeroValue9
  t21 := Tryz.underlying21
  a21 := Tryz.isAgg21
  z21 := Tryz.sizeOf21
  v21 := Tryz.zeroValue21
  t46 := Tryz.underlying58
  a46 := Tryz.isAgg58
  z46 := Tryz.sizeOf58
  v46 := Tryz.zeroValue58
  t105 := Tryz.underlying182
  a105 := Tryz.isAgg182
  z105 := Tryz.sizeOf182
  v105 := Tryz.zeroValue182
  t119 := Tryz.underlying274
  a119 := Tryz.isAgg274
  z119 := Tryz.sizeOf274
  t138 := Tryz.underlying276
  a138 := Tryz.isAgg276
  z138 := Tryz.sizeOf276
  v138 := Tryz.zeroValue276
  t139 := Tryz.underlying277
  a139 := Tryz.isAgg277
  z139 := Tryz.sizeOf277
  v139 := Tryz.zeroValue277
  g3 := by kernel_rfl
  g4 := by kernel_rfl
}

end Go.Proofs
set_option linter.unusedVariables false
set_option linter.unusedSimpArgs false
set_option maxRecDepth 100000
namespace Go.Proofs
open Go.Shelf
theorem Tryz.uRen_260 : Lays.n260 Tryz.prog Tryz.uRen := { Tryz.uRen_197 with }
theorem Tryz.u8Extra : U8Extra Tryz.prog Tryz.uRen where
  n3 := by kernel_rfl
  n4 := by kernel_rfl
  y3 := by kernel_rfl
  y4 := by kernel_rfl
  c5 := by kernel_rfl
  c119 := by kernel_rfl
  c138 := by kernel_rfl
end Go.Proofs
namespace Go.Mu
open Go Go.Proofs
theorem tabIs_of_reads {P : Program} {W : World} {name : String} {k : IntKind} {zs : List Int} {g : Nat} {t e : TypeId} {n : Nat}
    (hg : P.globalNamed name = some g) (hty : (P.globals[g]?).map (·.type) = some t) (ht : P.underlying t = some (.array n e)) (he : P.underlying e = some (.int k)) (hce : P.cellsOf e = 1) (hct : P.cellsOf t = n)
    (h : Lib.VarReads P W name (Lib.tabData k zs)) : Lib.TabIs P W name k zs := by
  obtain ⟨g', t', cs, fuel, p, hg', ht', hvar, hd⟩ := h
  obtain rfl := Option.some.inj (hg.symm.trans hg')
  obtain rfl := Option.some.inj (hty.symm.trans ht')
  unfold Lib.TabIs
  rw [hvar, ← Lib.cells_of_tab ht he hce hct hd]
theorem asc_rep {W : World} {imm : Nat → Prop} (h : Lib.TabIs Tryz.prog W "strings.asciiSpace" .u8 Lib.asciiSpaceTab) (hi : imm 3) : RepP W imm (.rptr (Lib.asciiSpaceTab.map (AVal.int .u8))) (.pointer (some ⟨3, 0, none⟩)) := by
  refine .rptr _ _ 0 (fun j => .int .u8 (Lib.asciiSpaceTab.getD j 0)) hi (fun j hj => ?_) (fun j hj => ?_)
  · rw [List.length_map] at hj
    rw [Nat.zero_add]
    exact ⟨h.cell (by kernel_rfl) j hj, rfl⟩
  · rw [List.length_map] at hj
    rw [List.getD_eq_getElem?_getD, List.getElem?_map, List.getElem?_eq_getElem hj, List.getD_eq_getElem?_getD, List.getElem?_eq_getElem hj]
    exact .int _ _
theorem asc_reads {W : World} {laid : List (String × DataW Unit)} (hl : laidMet Tryz.prog laid W) (h3 : ("strings.asciiSpace", Lib.tabData .u8 Lib.asciiSpaceTab) ∈ laid) : Lib.TabIs Tryz.prog W "strings.asciiSpace" .u8 Lib.asciiSpaceTab :=
  tabIs_of_reads (g := 3) (by kernel_rfl) (by kernel_rfl) (t := 274) (e := 5) (n := 256) (by kernel_rfl) (by kernel_rfl) (by kernel_rfl) (by kernel_rfl) (Lib.laidMet.reads hl h3)
theorem asc_old {W : World} (h : Lib.TabIs Tryz.prog W "strings.asciiSpace" .u8 Lib.asciiSpaceTab) : oldB W 3 := by
  have h : W.cell? ⟨3, 0, none⟩ = some (.int .u8 (Lib.asciiSpaceTab.getD 0 0)) := h.cell (by kernel_rfl) 0 (by rw [Lib.asciiSpaceTab_length]; omega)
  show 3 < W.heap.size
  unfold World.cell? at h
  by_cases hlt : 3 < W.heap.size
  · exact hlt
  · have hle : W.heap.size ≤ (Addr.mk 3 0 none).block := by show W.heap.size ≤ 3; omega
    rw [Array.getElem?_eq_none hle] at h
    simp at h
theorem tabs_glob {W : World} {laid : List (String × DataW Unit)} (hl : laidMet Tryz.prog laid W) (h1 : ("unicode/utf8.first", Lib.firstData) ∈ laid) (h2 : ("unicode/utf8.acceptRanges", Lib.acceptData) ∈ laid) (h3 : ("strings.asciiSpace", Lib.tabData .u8 Lib.asciiSpaceTab) ∈ laid) : ∀ g cells, gvals g = some cells → RepP W (oldB W) (.rptr cells) (.pointer (some ⟨g, 0, none⟩)) := by
  have hT : Lib.Utf8Tabs 1 2 W := utf8Tabs_of_reads Tryz.uRen_260 Tryz.u8Extra (Lib.laidMet.reads hl h1) (Lib.laidMet.reads hl h2)
  obtain ⟨t1, t2⟩ := hT
  have lt : ∀ {g j v}, W.cell? ⟨g, j, none⟩ = some v → oldB W g := fun {g j v} h => by
    show g < W.heap.size
    unfold World.cell? at h
    by_cases hlt : g < W.heap.size
    · exact hlt
    · have hle : W.heap.size ≤ (Addr.mk g j none).block := by show W.heap.size ≤ g; omega
      rw [Array.getElem?_eq_none hle] at h
      simp at h
  intro g cells hg
  unfold gvals at hg
  split at hg
  · rename_i e
    have e : g = 1 := by simpa using e
    subst e
    simp only [Option.some.injEq] at hg
    subst hg
    refine .rptr _ _ 0 (fun j => .int .u8 (Lib.firstT j)) (lt (t1 0 (by omega))) (fun j hj => ?_) (fun j hj => ?_)
    · simp only [List.length_map, List.length_range] at hj
      rw [Nat.zero_add]
      exact ⟨t1 j hj, rfl⟩
    · simp only [List.length_map, List.length_range] at hj
      rw [List.getD_eq_getElem?_getD, List.getElem?_map, List.getElem?_range hj]
      exact .int _ _
  · split at hg
    · rename_i e
      have e : g = 2 := by simpa using e
      subst e
      simp only [Option.some.injEq] at hg
      subst hg
      refine .rptr _ _ 0 (fun j => .int .u8 ((if j % 2 = 0 then Lib.accLo (j / 2) else Lib.accHi (j / 2) : Nat) : Int)) (lt (t2 0 (by omega)).1) (fun j hj => ?_) (fun j hj => ?_)
      · simp only [List.length_map, List.length_range] at hj
        rw [Nat.zero_add]
        refine ⟨?_, rfl⟩
        have h3 := t2 (j / 2) (by omega)
        by_cases hp : j % 2 = 0
        · rw [if_pos hp]
          have : 2 * (j / 2) = j := by omega
          rw [this] at h3
          exact h3.1
        · rw [if_neg hp]
          have : 2 * (j / 2) + 1 = j := by omega
          rw [this] at h3
          exact h3.2
      · simp only [List.length_map, List.length_range] at hj
        rw [List.getD_eq_getElem?_getD, List.getElem?_map, List.getElem?_range hj]
        simp only [Option.map_some, Option.getD_some]
        split <;> exact .int _ _
    · split at hg
      · rename_i e
        have e : g = 3 := by simpa using e
        subst e
        simp only [Option.some.injEq] at hg
        subst hg
        exact asc_rep (asc_reads hl h3) (asc_old (asc_reads hl h3))
      · cases hg
end Go.Mu
