/-
  Lemmas on the given program (part 5).
-/
import Derived.Test.YtbibhpbmpnennaaGreatDoorSG4
set_option linter.unusedVariables false
set_option linter.unusedSimpArgs false
set_option maxRecDepth 100000
namespace Go.Mu
open Go Go.Proofs
noncomputable abbrev ifvTurn := lturn Tryz.prog Lay.nil ifvFH 101 2 [0,1,7,8] [] [4] []
theorem ifvSp_ok : SpOK ifvTurn 19 [0,1,7,8] [] [4] [] ifvSp := mkL_ok fun a h => by
  obtain ⟨w, l⟩ := a
  replace h : l.length ≤ 1099511627776 := h
  have hrun : ∀ D k, rounds ifvTurn (l.length + 1) (stL 19 [0,1,7,8] [encL true encS [] l, .func 100 [.ptr (.hp 0) 0], .int .i64 l.length, .int .i64 0] [] [] [.var [.str w]] D) k = cond (l.any (fun x => x == w)) (k .ret (stL 19 [4] [.int .i64 (l.findIdx (fun x => x == w) : Nat)] [] [] [.var [.str w]] D)) (k (.exit 0) (stL 19 [4] [.undef] [] [] [.var [.str w]] D)) := by
    intro D k
    have := search_find (turn := ifvTurn) (S := fun i => stL 19 [0,1,7,8] [encL true encS [] l, .func 100 [.ptr (.hp 0) 0], .int .i64 l.length, .int .i64 (i : Nat)] [] [] [.var [.str w]] D) (hit := fun i => (fun x => x == w) (l.getD i [])) (n := l.length) (e0 := .exit 0) (e1 := .ret)
      (R0 := stL 19 [4] [.undef] [] [] [.var [.str w]] D) (R1 := fun i => stL 19 [4] [.int .i64 (i : Nat)] [] [] [.var [.str w]] D) (fun i k hi => by
        refine (ifv_step l w l.length i D k).trans ?_
        rw [dT (show (i : Int) < l.length by omega), dT (show (0 : Int) ≤ i by omega), wrap_add1 (by omega)]; rfl) (fun k => by
        refine (ifv_step l w l.length l.length D k).trans ?_
        rw [dF (by omega)]; rfl) (by simp) (by simp) k
    rw [find_getD (fun x => x == w)] at this
    refine Eq.trans this ?_
    cases l.any (fun x => x == w) <;> rfl
  show ∃ e vs bs H', (∀ k : AExit → List AVal → List (List AVal) → Heap → Ans, cond (l.any (fun x => x == w)) _ _ = k e vs bs H') ∧ _
  cases ha : l.any (fun x => x == w) with
  | true => exact ⟨_, _, _, _, fun k => rfl, _, fun D k => by rw [hrun, ha]; rfl⟩
  | false => exact ⟨_, _, _, _, fun k => rfl, _, fun D k => by rw [hrun, ha]; rfl⟩
theorem layIfv_ok : layIfv.OK Tryz.prog := Lay.nil_ok.loop1 (id := 2) (by kernel_rfl) (by kernel_rfl) (by kernel_rfl) ifvSp_ok
theorem cfv_ok (l : List Bs) (w : Bs) (hl : l.length ≤ 1099511627776) : CallOK Tryz.prog 98 [encL true encS [] l, .func 100 [.ptr (.hp 0) 0]] [.var [.str w]] (.ret (.bool (l.any (fun x => x == w))) [.var [.str w]]) := by
  have e : decL decS (AVal.list true l.length fun (i : Nat) => [AVal.str (l.getD i [])]) = l := decL_encL (g := decS) (f := encS) (d := []) (full := true) (fun a => rfl) l
  refine layIfv_ok.call (fun k => (cfv_fun l w k).trans ?_)
  simp only [e]
  refine (congrArg (fun c => cond c _ none) (tst_true ⟨hl, .refl _, trivial, rfl⟩)).trans ((cond_true _ _).trans ?_)
  show cond (l.any (fun x => x == w)) _ _ = _
  cases l.any (fun x => x == w) <;> rfl
theorem cfvTold_ok : ∀ xs H k out, cfvTold xs H k = some out → ∃ o, CallOK Tryz.prog 98 xs H o ∧ k o = some out := mkF_ok fun a h => ⟨_, fun k => rfl, cfv_ok a.2 a.1 h⟩
theorem layEn_ok : layEn.OK Tryz.prog := ((Lay.nil_ok.addF fieldsTold_ok).addF cfvTold_ok).addN (by kernel_rfl)
theorem any_words (w : Bs) : jsWords.any (fun x => x == w) = jsWords.contains w := by
  rw [List.contains_eq_any_beq]
  congr 1
  funext x
  rw [Bool.eq_iff_iff, beq_iff_eq, beq_iff_eq]
  exact eq_comm
theorem en_ok (p : Int) (w : Bs) : CallOK Tryz.prog 96 [.int .i64 p, .str w] [] (.ret (.int .i64 (jsEnded p w)) []) := by
  refine CallOK.shrink (H := []) (H' := []) (G := [.var [.str w]]) ?_ (Nat.le_refl _) rfl (fun x hx => by cases hx)
  refine layEn_ok.call (fun k => (en_fun p w k).trans ?_)
  have e : decL decS (AVal.list true 12 fun (i : Nat) => [AVal.str (jsWords.getD i [])]) = jsWords := by kernel_rfl
  show (bif !w == [] then _ else _) = k (.ret (.int .i64 (bif (!w == []) && jsWords.contains w then 0 else p)) [.var [.str w]])
  rw [← any_words]
  cases hw : !w == [] with
  | false => rfl
  | true =>
    refine (cond_true _ _).trans ((congrArg (fun c => cond c _ none) (tst_true ⟨by decide, ?_, rfl⟩)).trans ((cond_true _ _).trans ?_))
    · show (bif (jsWords.any fun x => x == w) then k (.ret (.int .i64 0) [.var [.str w]]) else k (.ret (.int .i64 p) [.var [.str w]])) = k (.ret (.int .i64 (bif true && (jsWords.any fun x => x == w) then 0 else p)) [.var [.str w]])
      cases jsWords.any fun x => x == w <;> rfl
    · refine .cons (Sub.list (fun h => h) (fun i hi => ?_)) (.refl _)
      show SubL [AVal.str (jsWords.getD i [])] [AVal.str ((decL decS (AVal.list true 12 fun (i : Nat) => [AVal.str (jsWords.getD i [])])).getD i [])]
      rw [e]
      exact .refl _
theorem enTold_ok : ∀ xs H k out, enTold jsEnded xs H k = some out → ∃ o, CallOK Tryz.prog 96 xs H o ∧ k o = some out := mkFS_ok fun ys xs e hk => by
  obtain ⟨p, w, rfl⟩ : ∃ p w, xs = [.int .i64 p, .str w] := ⟨_, _, e⟩
  exact ⟨_, fun k => rfl, en_ok p w⟩
/- code -/
theorem layJs0_ok : (layJs0 jswyR blankR jsEnded).OK Tryz.prog := ((Lay.nil_ok.addF blankT_ok).addF (c8Told_ok jswy_ok)).addF enTold_ok
def jscdP (p : Int) (w : Bs) (n : Int) : Int × Bs := jsCode p w (u8 n)
theorem jscd_ok (p : Int) (w : Bs) (c : UInt8) (hw : w.length ≤ 1048576) : CallOK Tryz.prog 85 [.int .i64 p, .str w, .int .u8 c.toNat] [] (.ret (.tuple [.int .i64 (jscdP p w c.toNat).1, .str (jscdP p w c.toNat).2]) []) := layJs0_ok.callF (G := []) rfl (fun k => by
  refine (jscd_fun jswyR blankR jsEnded p w c k).trans ?_
  unfold jscdP
  have g : decide (w.length + 1 ≤ 4611686018427387904) = true := dT (by omega)
  simp only [u8_back, okc_u8, ek10, ek13, ek34, ek35, ek36, ek39, ek40, ek41, ek42, ek45, ek47, ek58, ek63, ek91, ek92, ek93, ek95, ek96, ek125, jswyR_u8, blankR_u8, byteOf0, dl16, g, dT hw, cond_true]
  generalize hE : jsEnded p w = q
  repeat' (with_reducible apply bif_split <;> intro _)
  all_goals first | (simp_all [jsCode, Bool.cond_eq_ite]; done) | (simp only [jsCode, Bool.cond_eq_ite, Bool.and_eq_true, Bool.or_eq_true, beq_iff_eq, decide_eq_true_eq] at *; grind))
/- slashed, Step -/
def jsmaP (p n : Int) : Int := jsMatched p (u8 n)
def jsquP (p n : Int) : Int := jsQuoted p (u8 n)
def jsrmP (p n : Int) : Int := jsRemark p (u8 n)
def jsslP (p n : Int) : Int × Bs := jsSlashed p (u8 n)
theorem layJs1_ok : (layJs1 jscdP jsmaP).OK Tryz.prog := (Lay.nil_ok.addF (pwTold_ok jscd_ok)).addF (pcTold_ok jsma_ok)
theorem jssl_ok (p : Int) (c : UInt8) : CallOK Tryz.prog 90 [.int .i64 p, .int .u8 c.toNat] [] (.ret (.tuple [.int .i64 (jsslP p c.toNat).1, .str (jsslP p c.toNat).2]) []) := layJs1_ok.callF (G := []) rfl (fun k => by
  refine (jssl_fun jscdP jsmaP p c k).trans ?_
  have e1 : jscdP 0 [] (c.toNat : Int) = jsCode 0 [] c := by unfold jscdP; rw [u8_back]
  have e2 : jsmaP 9 (c.toNat : Int) = jsMatched 9 c := by unfold jsmaP; rw [u8_back]
  unfold jsslP
  simp only [u8_back, okc_u8, ek10, ek13, ek34, ek35, ek36, ek39, ek40, ek41, ek42, ek45, ek47, ek58, ek63, ek91, ek92, ek93, ek95, ek96, ek125, e1, e2, Bool.and_true, cond_true]
  show _ = k (.ret (.tuple [.int .i64 (bif c == 47 then (6, []) else bif c == 42 then (7, []) else bif p == 13 then (jsMatched 9 c, []) else jsCode 0 [] c).1, .str (bif c == 47 then (6, []) else bif c == 42 then (7, []) else bif p == 13 then (jsMatched 9 c, []) else jsCode 0 [] c).2]) [])
  generalize jsCode 0 [] c = r
  generalize jsMatched 9 c = m
  cases c == 47 <;> cases c == 42 <;> cases p == 13 <;> rfl)
theorem layJs2_ok : (layJs2 jscdP jsmaP jsquP jsrmP jsslP).OK Tryz.prog := ((layJs1_ok.addF (pcTold_ok jsqu_ok)).addF (pcTold_ok jsrm_ok)).addF (spTold_ok jssl_ok)
def jsstP (p : Int) (w : Bs) (n : Int) : Int × Bs := jsStep p w (u8 n)
theorem beq_f {p v : Int} (h : ¬ p = v) : (p == v) = false := by simpa using h
theorem jsst_ok (p : Int) (w : Bs) (c : UInt8) (hw : w.length ≤ 1048576) : CallOK Tryz.prog 77 [.int .i64 p, .str w, .int .u8 c.toNat] [] (.ret (.tuple [.int .i64 (jsstP p w c.toNat).1, .str (jsstP p w c.toNat).2]) []) := layJs2_ok.callF (G := []) rfl (fun k => by
  refine (jsst_fun jscdP jsmaP jsquP jsrmP jsslP p w c k).trans ?_
  simp only [okc_u8, dT hw, Bool.and_true, cond_true]
  by_cases h0 : p = 0
  · subst h0; rfl
  by_cases h1 : p = 1
  · subst h1; rfl
  by_cases h2 : p = 2
  · subst h2; rfl
  by_cases h3 : p = 3
  · subst h3; rfl
  by_cases h4 : p = 4
  · subst h4; rfl
  by_cases h5 : p = 5
  · subst h5; rfl
  by_cases h6 : p = 6
  · subst h6; simp only [jsstP, u8_back, ek10, ek13]
    show (bif (bif c == 10 then true else c == 13) then k (.ret (.tuple [.int .i64 0, .str []]) []) else k (.ret (.tuple [.int .i64 6, .str []]) [])) = k (.ret (.tuple [.int .i64 (bif c == 10 || c == 13 then (0 : Int) else 6), .str []]) [])
    cases c == 10 <;> cases c == 13 <;> rfl
  by_cases h7 : p = 7
  · subst h7; rfl
  by_cases h8 : p = 8
  · subst h8; rfl
  by_cases h9 : p = 9
  · subst h9; rfl
  by_cases h10 : p = 10
  · subst h10; rfl
  by_cases h11 : p = 11
  · subst h11; rfl
  by_cases h12 : p = 12
  · subst h12; rfl
  by_cases h13 : p = 13
  · subst h13; rfl
  by_cases h14 : p = 14
  · subst h14; rfl
  unfold jsstP jsStep
  simp only [beq_f h0, beq_f h1, beq_f h2, beq_f h3, beq_f h4, beq_f h5, beq_f h6, beq_f h7, beq_f h8, beq_f h9, beq_f h10, beq_f h11, beq_f h12, beq_f h13, beq_f h14, cond_false, Bool.or_self]
  )
end Go.Mu
set_option linter.unusedVariables false
set_option linter.unusedSimpArgs false
set_option maxRecDepth 100000
namespace Go.Mu
open Go Go.Proofs
abbrev FdF := Int → Bs → Bs → Int × Bs
def okpw (p : Int) (w : Bs) : Bool := decide (0 ≤ p) && decide (p ≤ 15) && decide (w.length ≤ 16)
structure FdA where
  p : Int
  w : Bs
  f : Bool
  l : Bs
  i : Nat
  H : Heap
noncomputable def fdSp (R : FdF) : LSp := mkL (fun vs _ H => FdA.mk (aI vs 0) (aS vs 1) (fullOf (vs.getD 2 .undef)) (decL decB (vs.getD 2 .undef)) (aI vs 4).toNat H) (fun a => okpw a.p a.w = true ∧ a.i = 0 ∧ a.l.length ≤ 1099511627776) (fun a => [.int .i64 a.p, .str a.w, encL a.f byteRow 0 a.l, .int .i64 a.l.length, .int .i64 (a.i : Nat)]) (fun _ => []) (fun a => a.H)
  (fun a k => k (.exit 0) [.int .i64 (R a.p a.w a.l).1, .str (R a.p a.w a.l).2] [] a.H)
noncomputable def fdFH (R : FdF) : FH := .of [(2, loopSpec 27 [0,1,11,12,13] [] [0,1] [] (fdSp R))]
def fdTold (R : FdF) : FSp := mkFS [.i .i64, .s, .s] (fun xs => okpw (aI xs 0) (aS xs 1) && decide ((aS xs 2).length ≤ 1099511627776)) (fun xs k => k (.ret (.tuple [.int .i64 (R (aI xs 0) (aS xs 1) (aS xs 2)).1, .str (R (aI xs 0) (aS xs 1) (aS xs 2)).2]) []))
def layFdu0 (S : Int → Bs → Int → Int × Bs) : Lay := Lay.nil.addF 76 (pwTold S)
theorem fdu_step (S : Int → Bs → Int → Int × Bs) (R : FdF) (p : Int) (w : Bs) (f : Bool) (l : Bs) (n i : Int) (H : Heap) (D : List (FuncId × List AVal)) (k : Kont) : lturn Tryz.prog (layFdu0 S) (fdFH R) 65 2 [0,1,11,12,13] [] [0,1] [] (stL 27 [0,1,11,12,13] [.int .i64 p, .str w, encL f byteRow 0 l, .int .i64 n, .int .i64 i] [] [] H D) k = (
 let n0 : Int := (↑(List.getD l i.toNat 0).toNat : Int);
  bif decide (i < n) then
  bif decide (0 ≤ i) && decide (i < (↑(List.length l) : Int)) then
  bif okc n0 && decide (List.length w ≤ 1048576) then
  k AExit.normal
  (stL 27 [0, 1, 11, 12, 13]
  [AVal.int IntKind.i64 (S p w n0).fst, AVal.str (S p w n0).snd,
  AVal.list f (List.length l) fun (i : Nat) => [AVal.int IntKind.u8 (↑(List.getD l i 0).toNat : Int)],
  AVal.int IntKind.i64 n, AVal.int IntKind.i64 (IntKind.i64.wrap (i + 1))]
  [] [] H D)
  else none
  else none
  else k (AExit.exit 0) (stL 27 [0, 1] [AVal.int IntKind.i64 p, AVal.str w] [] [] H D)) := by kernel_rfl
noncomputable def layFdu (S : Int → Bs → Int → Int × Bs) (R : FdF) : Lay := (layFdu0 S).addL 65 (fdFH R)
theorem fdu_fun (S : Int → Bs → Int → Int × Bs) (R : FdF) (p : Int) (w s : Bs) (k : Out → Ans) : iFun Tryz.prog ((layFdu S R).hd Tryz.prog) (layFdu S R).fhs 0 65 [.int .i64 p, .str w, .str s] [] k = (
 let l0 : List UInt8 :=
  decL (fun (r : List AVal) => byteOf r)
  (AVal.list false (List.length s) fun (i : Nat) => [AVal.int IntKind.u8 (↑(List.getD s i 0).toNat : Int)]);
 let m1 : Nat := l0.length;
  bif
  tst
  ((okpw p w = true ∧ Int.toNat 0 = 0 ∧ m1 ≤ 1099511627776) ∧
  SubTL
  [AVal.int IntKind.i64 p, AVal.str w,
  AVal.list false (List.length s) fun (i : Nat) => [AVal.int IntKind.u8 (↑(List.getD s i 0).toNat : Int)],
  AVal.int IntKind.i64 (↑(List.length s) : Int), AVal.int IntKind.i64 0]
  [AVal.int IntKind.i64 p, AVal.str w,
  AVal.list false m1 fun (i : Nat) =>
  [AVal.int IntKind.u8
  (↑((decL (fun (r : List AVal) => byteOf r)
  (AVal.list false (List.length s) fun (i : Nat) =>
  [AVal.int IntKind.u8 (↑(List.getD s i 0).toNat : Int)])).getD
  i 0).toNat :
  Int)],
  AVal.int IntKind.i64 (↑m1 : Int), AVal.int IntKind.i64 (↑(Int.toNat 0) : Int)] ∧
  ([] : List (List AVal)) = [] ∧ ([] : Heap) = []) then
  k (Out.ret (AVal.tuple [AVal.int IntKind.i64 (R p w l0).fst, AVal.str (R p w l0).snd]) [])
  else none) := by kernel_rfl
def layFdj0 (S : Int → Bs → Int → Int × Bs) : Lay := Lay.nil.addF 77 (pwTold S)
theorem fdj_step (S : Int → Bs → Int → Int × Bs) (R : FdF) (p : Int) (w : Bs) (f : Bool) (l : Bs) (n i : Int) (H : Heap) (D : List (FuncId × List AVal)) (k : Kont) : lturn Tryz.prog (layFdj0 S) (fdFH R) 66 2 [0,1,11,12,13] [] [0,1] [] (stL 27 [0,1,11,12,13] [.int .i64 p, .str w, encL f byteRow 0 l, .int .i64 n, .int .i64 i] [] [] H D) k = (
 let n0 : Int := (↑(List.getD l i.toNat 0).toNat : Int);
  bif decide (i < n) then
  bif decide (0 ≤ i) && decide (i < (↑(List.length l) : Int)) then
  bif okc n0 && decide (List.length w ≤ 1048576) then
  k AExit.normal
  (stL 27 [0, 1, 11, 12, 13]
  [AVal.int IntKind.i64 (S p w n0).fst, AVal.str (S p w n0).snd,
  AVal.list f (List.length l) fun (i : Nat) => [AVal.int IntKind.u8 (↑(List.getD l i 0).toNat : Int)],
  AVal.int IntKind.i64 n, AVal.int IntKind.i64 (IntKind.i64.wrap (i + 1))]
  [] [] H D)
  else none
  else none
  else k (AExit.exit 0) (stL 27 [0, 1] [AVal.int IntKind.i64 p, AVal.str w] [] [] H D)) := by kernel_rfl
noncomputable def layFdj (S : Int → Bs → Int → Int × Bs) (R : FdF) : Lay := (layFdj0 S).addL 66 (fdFH R)
theorem fdj_fun (S : Int → Bs → Int → Int × Bs) (R : FdF) (p : Int) (w s : Bs) (k : Out → Ans) : iFun Tryz.prog ((layFdj S R).hd Tryz.prog) (layFdj S R).fhs 0 66 [.int .i64 p, .str w, .str s] [] k = (
 let l0 : List UInt8 :=
  decL (fun (r : List AVal) => byteOf r)
  (AVal.list false (List.length s) fun (i : Nat) => [AVal.int IntKind.u8 (↑(List.getD s i 0).toNat : Int)]);
 let m1 : Nat := l0.length;
  bif
  tst
  ((okpw p w = true ∧ Int.toNat 0 = 0 ∧ m1 ≤ 1099511627776) ∧
  SubTL
  [AVal.int IntKind.i64 p, AVal.str w,
  AVal.list false (List.length s) fun (i : Nat) => [AVal.int IntKind.u8 (↑(List.getD s i 0).toNat : Int)],
  AVal.int IntKind.i64 (↑(List.length s) : Int), AVal.int IntKind.i64 0]
  [AVal.int IntKind.i64 p, AVal.str w,
  AVal.list false m1 fun (i : Nat) =>
  [AVal.int IntKind.u8
  (↑((decL (fun (r : List AVal) => byteOf r)
  (AVal.list false (List.length s) fun (i : Nat) =>
  [AVal.int IntKind.u8 (↑(List.getD s i 0).toNat : Int)])).getD
  i 0).toNat :
  Int)],
  AVal.int IntKind.i64 (↑m1 : Int), AVal.int IntKind.i64 (↑(Int.toNat 0) : Int)] ∧
  ([] : List (List AVal)) = [] ∧ ([] : Heap) = []) then
  k (Out.ret (AVal.tuple [AVal.int IntKind.i64 (R p w l0).fst, AVal.str (R p w l0).snd]) [])
  else none) := by kernel_rfl
def layFdc0 (S : Int → Bs → Int → Int × Bs) : Lay := Lay.nil.addF 78 (pwTold S)
theorem fdc_step (S : Int → Bs → Int → Int × Bs) (R : FdF) (p : Int) (w : Bs) (f : Bool) (l : Bs) (n i : Int) (H : Heap) (D : List (FuncId × List AVal)) (k : Kont) : lturn Tryz.prog (layFdc0 S) (fdFH R) 67 2 [0,1,11,12,13] [] [0,1] [] (stL 27 [0,1,11,12,13] [.int .i64 p, .str w, encL f byteRow 0 l, .int .i64 n, .int .i64 i] [] [] H D) k = (
 let n0 : Int := (↑(List.getD l i.toNat 0).toNat : Int);
  bif decide (i < n) then
  bif decide (0 ≤ i) && decide (i < (↑(List.length l) : Int)) then
  bif okc n0 && decide (List.length w ≤ 1048576) then
  k AExit.normal
  (stL 27 [0, 1, 11, 12, 13]
  [AVal.int IntKind.i64 (S p w n0).fst, AVal.str (S p w n0).snd,
  AVal.list f (List.length l) fun (i : Nat) => [AVal.int IntKind.u8 (↑(List.getD l i 0).toNat : Int)],
  AVal.int IntKind.i64 n, AVal.int IntKind.i64 (IntKind.i64.wrap (i + 1))]
  [] [] H D)
  else none
  else none
  else k (AExit.exit 0) (stL 27 [0, 1] [AVal.int IntKind.i64 p, AVal.str w] [] [] H D)) := by kernel_rfl
noncomputable def layFdc (S : Int → Bs → Int → Int × Bs) (R : FdF) : Lay := (layFdc0 S).addL 67 (fdFH R)
theorem fdc_fun (S : Int → Bs → Int → Int × Bs) (R : FdF) (p : Int) (w s : Bs) (k : Out → Ans) : iFun Tryz.prog ((layFdc S R).hd Tryz.prog) (layFdc S R).fhs 0 67 [.int .i64 p, .str w, .str s] [] k = (
 let l0 : List UInt8 :=
  decL (fun (r : List AVal) => byteOf r)
  (AVal.list false (List.length s) fun (i : Nat) => [AVal.int IntKind.u8 (↑(List.getD s i 0).toNat : Int)]);
 let m1 : Nat := l0.length;
  bif
  tst
  ((okpw p w = true ∧ Int.toNat 0 = 0 ∧ m1 ≤ 1099511627776) ∧
  SubTL
  [AVal.int IntKind.i64 p, AVal.str w,
  AVal.list false (List.length s) fun (i : Nat) => [AVal.int IntKind.u8 (↑(List.getD s i 0).toNat : Int)],
  AVal.int IntKind.i64 (↑(List.length s) : Int), AVal.int IntKind.i64 0]
  [AVal.int IntKind.i64 p, AVal.str w,
  AVal.list false m1 fun (i : Nat) =>
  [AVal.int IntKind.u8
  (↑((decL (fun (r : List AVal) => byteOf r)
  (AVal.list false (List.length s) fun (i : Nat) =>
  [AVal.int IntKind.u8 (↑(List.getD s i 0).toNat : Int)])).getD
  i 0).toNat :
  Int)],
  AVal.int IntKind.i64 (↑m1 : Int), AVal.int IntKind.i64 (↑(Int.toNat 0) : Int)] ∧
  ([] : List (List AVal)) = [] ∧ ([] : Heap) = []) then
  k (Out.ret (AVal.tuple [AVal.int IntKind.i64 (R p w l0).fst, AVal.str (R p w l0).snd]) [])
  else none) := by kernel_rfl
end Go.Mu
set_option linter.unusedVariables false
set_option linter.unusedSimpArgs false
set_option maxRecDepth 100000
namespace Go.Mu
open Go Go.Proofs
theorem feedP_snoc (f : Int → Bs → UInt8 → Int × Bs) : ∀ (s : Bs) (p : Int) (w : Bs) (c : UInt8), feedP f p w (s ++ [c]) = f (feedP f p w s).1 (feedP f p w s).2 c
  | [], p, w, c => rfl
  | b :: s, p, w, c => feedP_snoc f s (f p w b).1 (f p w b).2 c
theorem feedP_take (f : Int → Bs → UInt8 → Int × Bs) (l : Bs) (p : Int) (w : Bs) (i : Nat) (h : i < l.length) : feedP f p w (l.take (i + 1)) = f (feedP f p w (l.take i)).1 (feedP f p w (l.take i)).2 (l.getD i 0) := by
  have e : l.take (i + 1) = l.take i ++ [l.getD i 0] := by
    rw [List.take_add_one, List.getElem?_eq_getElem h, List.getD_eq_getElem?_getD, List.getElem?_eq_getElem h]; rfl
  rw [e, feedP_snoc]
theorem okpw_is {p : Int} {w : Bs} (h : okpw p w = true) : PW (p, w) := by
  unfold okpw at h
  simp only [Bool.and_eq_true, decide_eq_true_eq] at h
  exact ⟨h.1.1, h.1.2, h.2⟩
theorem okpw_of {p : Int} {w : Bs} (h : PW (p, w)) : okpw p w = true := by
  unfold okpw
  rw [dT h.1, dT h.2.1, dT h.2.2]; rfl
theorem decB_back (f : Bool) (l : Bs) : decL decB (AVal.list f l.length fun (i : Nat) => [AVal.int IntKind.u8 (↑(l.getD i 0).toNat : Int)]) = l := decL_encL (g := decB) (f := byteRow) (d := 0) (full := f) (fun a => byteOf_u8 a) l
theorem fdTold_ok {g : FuncId} {R : FdF} (h : ∀ p w s, PW (p, w) → s.length ≤ 1099511627776 → CallOK Tryz.prog g [.int .i64 p, .str w, .str s] [] (.ret (.tuple [.int .i64 (R p w s).1, .str (R p w s).2]) [])) : ∀ xs H k out, fdTold R xs H k = some out → ∃ o, CallOK Tryz.prog g xs H o ∧ k o = some out := mkFS_ok fun ys xs e hk => by
  obtain ⟨p, w, s, rfl⟩ : ∃ p w s, xs = [.int .i64 p, .str w, .str s] := ⟨_, _, _, e⟩
  simp only [Bool.and_eq_true] at hk
  exact ⟨_, fun k => rfl, h p w s (okpw_is hk.1) (of_decide_eq_true hk.2)⟩
/- urlscan -/
theorem layFdu0_ok : (layFdu0 urlP).OK Tryz.prog := Lay.nil_ok.addF (pwTold_ok url_ok)
noncomputable abbrev fduTurn := lturn Tryz.prog (layFdu0 urlP) (fdFH (feedP urlStep)) 65 2 [0,1,11,12,13] [] [0,1] []
theorem fduSp_ok : SpOK fduTurn 27 [0,1,11,12,13] [] [0,1] [] (fdSp (feedP urlStep)) := mkL_ok fun a h => by
  obtain ⟨p, w, f, l, i, H⟩ := a
  obtain ⟨h1, h2, h3⟩ := h
  simp only at h1 h2 h3
  subst h2
  have hp := okpw_is h1
  refine ⟨_, _, _, _, fun k => rfl, ?_⟩
  have hr := seq_runs (turn := fduTurn) (n := 27) (l := [0,1,11,12,13]) (m := []) (lx := [0,1]) (mx := []) (fun i => [.int .i64 (feedP urlStep p w (l.take i)).1, .str (feedP urlStep p w (l.take i)).2, encL f byteRow 0 l, .int .i64 l.length, .int .i64 (i : Nat)]) (fun _ => []) (fun _ => H) l.length (e := .exit 0) (vs' := [.int .i64 (feedP urlStep p w l).1, .str (feedP urlStep p w l).2]) (bs' := []) (H' := H) (by simp)
    (fun i hi D k => by
      have w1 : IntKind.i64.wrap ((i : Int) + 1) = ((i + 1 : Nat) : Int) := wrap_add1 (by omega)
      have hq : PW (feedP urlStep p w (l.take i)) := feedP_pw urlStep_pw (l.take i) p w hp
      have hw := hq.2.2
      refine (fdu_step urlP (feedP urlStep) _ _ f l l.length i H D k).trans ?_
      have e : urlP (feedP urlStep p w (l.take i)).1 (feedP urlStep p w (l.take i)).2 ((l.getD i 0).toNat : Int) = feedP urlStep p w (l.take (i + 1)) := by
        rw [feedP_take urlStep l p w i hi]
        unfold urlP
        rw [u8_back]
      simp only [w1, Int.toNat_natCast, e, okc_u8, dT (show (i : Int) < (l.length : Int) by omega), dT (show (0 : Int) ≤ (i : Int) by omega), dT (show (feedP urlStep p w (l.take i)).2.length ≤ 1048576 by omega), Bool.and_self, cond_true]
      rfl)
    (fun D k => by
      refine (fdu_step urlP (feedP urlStep) _ _ f l l.length (l.length : Nat) H D k).trans ?_
      simp only [dF (show ¬ ((l.length : Nat) : Int) < (l.length : Int) by omega), cond_false, List.take_length])
  exact hr
theorem layFdu_ok : (layFdu urlP (feedP urlStep)).OK Tryz.prog := layFdu0_ok.loop1 (id := 2) (by kernel_rfl) (by kernel_rfl) (by kernel_rfl) fduSp_ok
theorem fdu_ok (p : Int) (w s : Bs) (hp : PW (p, w)) (hs : s.length ≤ 1099511627776) : CallOK Tryz.prog 65 [.int .i64 p, .str w, .str s] [] (.ret (.tuple [.int .i64 (feedP urlStep p w s).1, .str (feedP urlStep p w s).2]) []) := by
  have e : decL (fun (r : List AVal) => byteOf r) (AVal.list false s.length fun (i : Nat) => [AVal.int IntKind.u8 (↑(s.getD i 0).toNat : Int)]) = s := decB_back false s
  refine layFdu_ok.callF (G := []) rfl (fun k => (fdu_fun urlP (feedP urlStep) p w s k).trans ?_)
  simp only [e]
  exact (congrArg (fun c => cond c _ none) (tst_true ⟨⟨okpw_of hp, rfl, hs⟩, .refl _, trivial, trivial⟩)).trans (cond_true _ _)
theorem fduTold_ok : ∀ xs H k out, fdTold (feedP urlStep) xs H k = some out → ∃ o, CallOK Tryz.prog 65 xs H o ∧ k o = some out := fdTold_ok fdu_ok
/- jsscan -/
theorem layFdj0_ok : (layFdj0 jsstP).OK Tryz.prog := Lay.nil_ok.addF (pwTold_ok jsst_ok)
noncomputable abbrev fdjTurn := lturn Tryz.prog (layFdj0 jsstP) (fdFH (feedP jsStep)) 66 2 [0,1,11,12,13] [] [0,1] []
theorem fdjSp_ok : SpOK fdjTurn 27 [0,1,11,12,13] [] [0,1] [] (fdSp (feedP jsStep)) := mkL_ok fun a h => by
  obtain ⟨p, w, f, l, i, H⟩ := a
  obtain ⟨h1, h2, h3⟩ := h
  simp only at h1 h2 h3
  subst h2
  have hp := okpw_is h1
  refine ⟨_, _, _, _, fun k => rfl, ?_⟩
  have hr := seq_runs (turn := fdjTurn) (n := 27) (l := [0,1,11,12,13]) (m := []) (lx := [0,1]) (mx := []) (fun i => [.int .i64 (feedP jsStep p w (l.take i)).1, .str (feedP jsStep p w (l.take i)).2, encL f byteRow 0 l, .int .i64 l.length, .int .i64 (i : Nat)]) (fun _ => []) (fun _ => H) l.length (e := .exit 0) (vs' := [.int .i64 (feedP jsStep p w l).1, .str (feedP jsStep p w l).2]) (bs' := []) (H' := H) (by simp)
    (fun i hi D k => by
      have w1 : IntKind.i64.wrap ((i : Int) + 1) = ((i + 1 : Nat) : Int) := wrap_add1 (by omega)
      have hq : PW (feedP jsStep p w (l.take i)) := feedP_pw jsStep_pw (l.take i) p w hp
      have hw := hq.2.2
      refine (fdj_step jsstP (feedP jsStep) _ _ f l l.length i H D k).trans ?_
      have e : jsstP (feedP jsStep p w (l.take i)).1 (feedP jsStep p w (l.take i)).2 ((l.getD i 0).toNat : Int) = feedP jsStep p w (l.take (i + 1)) := by
        rw [feedP_take jsStep l p w i hi]
        unfold jsstP
        rw [u8_back]
      simp only [w1, Int.toNat_natCast, e, okc_u8, dT (show (i : Int) < (l.length : Int) by omega), dT (show (0 : Int) ≤ (i : Int) by omega), dT (show (feedP jsStep p w (l.take i)).2.length ≤ 1048576 by omega), Bool.and_self, cond_true]
      rfl)
    (fun D k => by
      refine (fdj_step jsstP (feedP jsStep) _ _ f l l.length (l.length : Nat) H D k).trans ?_
      simp only [dF (show ¬ ((l.length : Nat) : Int) < (l.length : Int) by omega), cond_false, List.take_length])
  exact hr
theorem layFdj_ok : (layFdj jsstP (feedP jsStep)).OK Tryz.prog := layFdj0_ok.loop1 (id := 2) (by kernel_rfl) (by kernel_rfl) (by kernel_rfl) fdjSp_ok
theorem fdj_ok (p : Int) (w s : Bs) (hp : PW (p, w)) (hs : s.length ≤ 1099511627776) : CallOK Tryz.prog 66 [.int .i64 p, .str w, .str s] [] (.ret (.tuple [.int .i64 (feedP jsStep p w s).1, .str (feedP jsStep p w s).2]) []) := by
  have e : decL (fun (r : List AVal) => byteOf r) (AVal.list false s.length fun (i : Nat) => [AVal.int IntKind.u8 (↑(s.getD i 0).toNat : Int)]) = s := decB_back false s
  refine layFdj_ok.callF (G := []) rfl (fun k => (fdj_fun jsstP (feedP jsStep) p w s k).trans ?_)
  simp only [e]
  exact (congrArg (fun c => cond c _ none) (tst_true ⟨⟨okpw_of hp, rfl, hs⟩, .refl _, trivial, trivial⟩)).trans (cond_true _ _)
theorem fdjTold_ok : ∀ xs H k out, fdTold (feedP jsStep) xs H k = some out → ∃ o, CallOK Tryz.prog 66 xs H o ∧ k o = some out := fdTold_ok fdj_ok
/- cssscan -/
theorem layFdc0_ok : (layFdc0 csstP).OK Tryz.prog := Lay.nil_ok.addF (pwTold_ok csst_ok)
noncomputable abbrev fdcTurn := lturn Tryz.prog (layFdc0 csstP) (fdFH (feedP csStep)) 67 2 [0,1,11,12,13] [] [0,1] []
theorem fdcSp_ok : SpOK fdcTurn 27 [0,1,11,12,13] [] [0,1] [] (fdSp (feedP csStep)) := mkL_ok fun a h => by
  obtain ⟨p, w, f, l, i, H⟩ := a
  obtain ⟨h1, h2, h3⟩ := h
  simp only at h1 h2 h3
  subst h2
  have hp := okpw_is h1
  refine ⟨_, _, _, _, fun k => rfl, ?_⟩
  have hr := seq_runs (turn := fdcTurn) (n := 27) (l := [0,1,11,12,13]) (m := []) (lx := [0,1]) (mx := []) (fun i => [.int .i64 (feedP csStep p w (l.take i)).1, .str (feedP csStep p w (l.take i)).2, encL f byteRow 0 l, .int .i64 l.length, .int .i64 (i : Nat)]) (fun _ => []) (fun _ => H) l.length (e := .exit 0) (vs' := [.int .i64 (feedP csStep p w l).1, .str (feedP csStep p w l).2]) (bs' := []) (H' := H) (by simp)
    (fun i hi D k => by
      have w1 : IntKind.i64.wrap ((i : Int) + 1) = ((i + 1 : Nat) : Int) := wrap_add1 (by omega)
      have hq : PW (feedP csStep p w (l.take i)) := feedP_pw csStep_pw (l.take i) p w hp
      have hw := hq.2.2
      refine (fdc_step csstP (feedP csStep) _ _ f l l.length i H D k).trans ?_
      have e : csstP (feedP csStep p w (l.take i)).1 (feedP csStep p w (l.take i)).2 ((l.getD i 0).toNat : Int) = feedP csStep p w (l.take (i + 1)) := by
        rw [feedP_take csStep l p w i hi]
        unfold csstP
        rw [u8_back]
      simp only [w1, Int.toNat_natCast, e, okc_u8, dT (show (i : Int) < (l.length : Int) by omega), dT (show (0 : Int) ≤ (i : Int) by omega), dT (show (feedP csStep p w (l.take i)).2.length ≤ 1048576 by omega), Bool.and_self, cond_true]
      rfl)
    (fun D k => by
      refine (fdc_step csstP (feedP csStep) _ _ f l l.length (l.length : Nat) H D k).trans ?_
      simp only [dF (show ¬ ((l.length : Nat) : Int) < (l.length : Int) by omega), cond_false, List.take_length])
  exact hr
theorem layFdc_ok : (layFdc csstP (feedP csStep)).OK Tryz.prog := layFdc0_ok.loop1 (id := 2) (by kernel_rfl) (by kernel_rfl) (by kernel_rfl) fdcSp_ok
theorem fdc_ok (p : Int) (w s : Bs) (hp : PW (p, w)) (hs : s.length ≤ 1099511627776) : CallOK Tryz.prog 67 [.int .i64 p, .str w, .str s] [] (.ret (.tuple [.int .i64 (feedP csStep p w s).1, .str (feedP csStep p w s).2]) []) := by
  have e : decL (fun (r : List AVal) => byteOf r) (AVal.list false s.length fun (i : Nat) => [AVal.int IntKind.u8 (↑(s.getD i 0).toNat : Int)]) = s := decB_back false s
  refine layFdc_ok.callF (G := []) rfl (fun k => (fdc_fun csstP (feedP csStep) p w s k).trans ?_)
  simp only [e]
  exact (congrArg (fun c => cond c _ none) (tst_true ⟨⟨okpw_of hp, rfl, hs⟩, .refl _, trivial, trivial⟩)).trans (cond_true _ _)
theorem fdcTold_ok : ∀ xs H k out, fdTold (feedP csStep) xs H k = some out → ∃ o, CallOK Tryz.prog 67 xs H o ∧ k o = some out := fdTold_ok fdc_ok
end Go.Mu
set_option linter.unusedVariables false
set_option linter.unusedSimpArgs false
set_option maxRecDepth 100000
namespace Go.Mu
open Go Go.Proofs
theorem beqS_f {s x : Bs} (h : ¬ s = x) : (s == x) = false := by simpa using h
theorem elm_ok (s : Bs) : CallOK Tryz.prog 70 [.str s] [] (.ret (.int .i64 (elmK s)) []) := Lay.nil_ok.callF (G := []) rfl (fun k => by
  refine (elm_fun s k).trans ?_
  by_cases h0 : s = [116, 105, 116, 108, 101]
  · subst h0; rfl
  by_cases h1 : s = [116, 101, 120, 116, 97, 114, 101, 97]
  · subst h1; rfl
  by_cases h2 : s = [115, 116, 121, 108, 101]
  · subst h2; rfl
  by_cases h3 : s = [115, 99, 114, 105, 112, 116]
  · subst h3; rfl
  by_cases h4 : s = [112, 108, 97, 105, 110, 116, 101, 120, 116]
  · subst h4; rfl
  by_cases h5 : s = [120, 109, 112]
  · subst h5; rfl
  by_cases h6 : s = [105, 102, 114, 97, 109, 101]
  · subst h6; rfl
  by_cases h7 : s = [110, 111, 101, 109, 98, 101, 100]
  · subst h7; rfl
  by_cases h8 : s = [110, 111, 102, 114, 97, 109, 101, 115]
  · subst h8; rfl
  by_cases h9 : s = [110, 111, 115, 99, 114, 105, 112, 116]
  · subst h9; rfl
  unfold elmK
  simp only [beqS_f h0, beqS_f h1, beqS_f h2, beqS_f h3, beqS_f h4, beqS_f h5, beqS_f h6, beqS_f h7, beqS_f h8, beqS_f h9, cond_false, Bool.or_self])
theorem atr_ok (s a : Bs) : CallOK Tryz.prog 44 [.str s, .str a] [] (.ret (.int .i64 (atrK s a)) []) := Lay.nil_ok.callF (G := []) rfl (fun k => by
  refine (atr_fun s a k).trans ?_
  by_cases h0 : a = [104, 114, 101, 102]
  · subst h0; rfl
  by_cases h1 : a = [115, 114, 99]
  · subst h1; rfl
  by_cases h2 : a = [97, 99, 116, 105, 111, 110]
  · subst h2; rfl
  by_cases h3 : a = [102, 111, 114, 109, 97, 99, 116, 105, 111, 110]
  · subst h3; rfl
  by_cases h4 : a = [99, 105, 116, 101]
  · subst h4; rfl
  by_cases h5 : a = [112, 111, 115, 116, 101, 114]
  · subst h5; rfl
  by_cases h6 : a = [98, 97, 99, 107, 103, 114, 111, 117, 110, 100]
  · subst h6; rfl
  by_cases h7 : a = [108, 111, 110, 103, 100, 101, 115, 99]
  · subst h7; rfl
  by_cases h8 : a = [109, 97, 110, 105, 102, 101, 115, 116]
  · subst h8; rfl
  by_cases h9 : a = [105, 99, 111, 110]
  · subst h9; rfl
  by_cases h10 : a = [100, 97, 116, 97]
  · subst h10; show (bif s == [111, 98, 106, 101, 99, 116] then k (.ret (.int .i64 1) []) else k (.ret (.int .i64 0) [])) = k (.ret (.int .i64 (bif s == [111, 98, 106, 101, 99, 116] then 1 else 0)) []); cases s == [111, 98, 106, 101, 99, 116] <;> rfl
  by_cases h11 : a = [115, 116, 121, 108, 101]
  · subst h11; rfl
  by_cases h12 : a = [115, 114, 99, 100, 111, 99]
  · subst h12; rfl
  by_cases h13 : a = [115, 114, 99, 115, 101, 116]
  · subst h13; rfl
  by_cases h14 : a = [104, 116, 116, 112, 45, 101, 113, 117, 105, 118]
  · subst h14; rfl
  by_cases h15 : a = [112, 105, 110, 103]
  · subst h15; rfl
  by_cases h16 : a = []
  · subst h16; rfl
  have g2 : (decide (2 ≤ (a.length : Int)) || !decide ((a.length : Int) ≥ 2)) = true := Bool.or_not_self _
  have g5 : (decide (5 ≤ (a.length : Int)) || !decide ((a.length : Int) ≥ 5)) = true := Bool.or_not_self _
  unfold atrK
  simp only [beqS_f h0, beqS_f h1, beqS_f h2, beqS_f h3, beqS_f h4, beqS_f h5, beqS_f h6, beqS_f h7, beqS_f h8, beqS_f h9, beqS_f h10, beqS_f h11, beqS_f h12, beqS_f h13, beqS_f h14, beqS_f h15, beqS_f h16, List.contains_cons, List.contains_nil, cond_false, Bool.or_self, g2, g5, cond_true]
  show (bif hpB [111, 110] a then k (.ret (.int .i64 2) []) else bif hpB [120, 109, 108, 110, 115] a then k (.ret (.int .i64 4) []) else k (.ret (.int .i64 0) [])) = _
  cases hpB [111, 110] a <;> cases hpB [120, 109, 108, 110, 115] a <;> rfl)
def elmTold : FSp := mkFS [.s] (fun _ => true) (fun xs k => k (.ret (.int .i64 (elmK (aS xs 0))) []))
theorem elmTold_ok : ∀ xs H k out, elmTold xs H k = some out → ∃ o, CallOK Tryz.prog 70 xs H o ∧ k o = some out := mkFS_ok fun ys xs e hk => by
  obtain ⟨s, rfl⟩ : ∃ s, xs = [.str s] := ⟨_, e⟩
  exact ⟨_, fun k => rfl, elm_ok s⟩
def atrTold (A : Bs → Bs → Int) : FSp := mkFS [.s, .s] (fun _ => true) (fun xs k => k (.ret (.int .i64 (A (aS xs 0) (aS xs 1))) []))
theorem atrTold_ok : ∀ xs H k out, atrTold atrK xs H k = some out → ∃ o, CallOK Tryz.prog 44 xs H o ∧ k o = some out := mkFS_ok fun ys xs e hk => by
  obtain ⟨s, a, rfl⟩ : ∃ s a, xs = [.str s, .str a] := ⟨_, _, e⟩
  exact ⟨_, fun k => rfl, atr_ok s a⟩
theorem layLo_ok : (Lay.nil.addF 69 lowTold).OK Tryz.prog := Lay.nil_ok.addF lowTold_ok
theorem starts_ok (s a : Bs) (hs : s.length ≤ 1048576) (ha : a.length ≤ 1048576) : CallOK Tryz.prog 71 [.str s, .str a] [] (.ret (.bool (startsB s a)) []) := layLo_ok.callF (G := []) rfl (fun k => by
  refine (starts_fun s a k).trans ?_
  have e1 : (decide ((a.length : Int) ≤ (s.length : Int)) || !decide ((s.length : Int) ≥ (a.length : Int))) = true := Bool.or_not_self _
  have e2 : List.drop (Int.toNat 0) (List.take (Int.toNat (a.length : Int)) s) = s.take a.length := rfl
  have e3 : (s.take a.length).length ≤ 1099511627776 := by rw [List.length_take]; omega
  have e4 : decide ((s.length : Int) ≥ (a.length : Int)) = decide (s.length ≥ a.length) := by rw [decide_eq_decide]; omega
  simp only [e1, e2, dT e3, dT (show a.length ≤ 1099511627776 by omega), cond_true, lowM_small]
  unfold startsB
  rw [e4]
  cases decide (s.length ≥ a.length) <;> rfl)
def startsTold (S : Bs → Bs → Bool) : FSp := mkFS [.s, .s] (fun xs => decide ((aS xs 0).length ≤ 1048576) && decide ((aS xs 1).length ≤ 1048576)) (fun xs k => k (.ret (.bool (S (aS xs 0) (aS xs 1))) []))
theorem startsTold_ok : ∀ xs H k out, startsTold startsB xs H k = some out → ∃ o, CallOK Tryz.prog 71 xs H o ∧ k o = some out := mkFS_ok fun ys xs e hk => by
  obtain ⟨s, a, rfl⟩ : ∃ s a, xs = [.str s, .str a] := ⟨_, _, e⟩
  simp only [Bool.and_eq_true] at hk
  exact ⟨_, fun k => rfl, starts_ok s a (of_decide_eq_true hk.1) (of_decide_eq_true hk.2)⟩
end Go.Mu
set_option linter.unusedVariables false
set_option linter.unusedSimpArgs false
set_option maxRecDepth 100000
namespace Go.Mu
open Go Go.Proofs
def encSS (s : SS) : List AVal := [.int .i64 s.k, .str s.el, .str s.ar, .int .u8 s.dl.toNat, .str s.pe, .str s.rf, .int .i64 s.pt, .str s.wd]
def decSS (x : List AVal) : SS := ⟨intOf (x.getD 0 .undef), strOf (x.getD 1 .undef), strOf (x.getD 2 .undef), u8 (intOf (x.getD 3 .undef)), strOf (x.getD 4 .undef), strOf (x.getD 5 .undef), intOf (x.getD 6 .undef), strOf (x.getD 7 .undef)⟩
theorem decSS_enc (s : SS) : decSS (encSS s) = s := by
  unfold decSS encSS
  simp only [List.getD_cons_zero, List.getD_cons_succ, intOf, strOf, u8_back]
def isS (x : List AVal) : Prop := x = encSS (decSS x)
theorem isS_enc (s : SS) : isS (encSS s) := by unfold isS; rw [decSS_enc]
def cellsG : AVal → List AVal
  | .agg x => x
  | _ => []
noncomputable def ksTold (F : List AVal → Int) : FSp := mkF (fun xs H => cellsG (xs.getD 0 .undef)) isS (fun x => [.agg x]) (fun _ => []) (fun x k => k (.ret (.int .i64 (F x)) []))
noncomputable def bsTold (F : List AVal → Bool) : FSp := mkF (fun xs H => cellsG (xs.getD 0 .undef)) isS (fun x => [.agg x]) (fun _ => []) (fun x k => k (.ret (.bool (F x)) []))
def layMk0 (A : Bs → Bs → Int) : Lay := Lay.nil.addF 44 (atrTold A)
theorem mkind_fun (A : Bs → Bs → Int) (s : SS) (k : Out → Ans) : iFun Tryz.prog ((layMk0 A).hd Tryz.prog) (layMk0 A).fhs 0 25 [.agg (encSS s)] [] k = (
 let n0 : Int := (↑(List.length s.el) : Int);
 let c1 : Bool := decide (n0 ≥ 1);
  bif decide (1 ≤ n0) || !c1 then
  bif
  bif !bif decide (s.k ≥ 8) then decide (s.k ≤ 10) else false then true
  else bif c1 then List.drop (Int.toNat 0) (List.take (Int.toNat 1) s.el) == [47] else false then
  k (Out.ret (AVal.int IntKind.i64 0) [])
  else k (Out.ret (AVal.int IntKind.i64 (A s.el s.ar)) [])
  else none) := by kernel_rfl
noncomputable def layMk1 (K : List AVal → Int) : Lay := Lay.nil.addF 25 (ksTold K)
theorem msub_fun (K : List AVal → Int) (s : SS) (k : Out → Ans) : iFun Tryz.prog ((layMk1 K).hd Tryz.prog) (layMk1 K).fhs 0 21 [.agg (encSS s)] [] k = (
 let c0 : Bool :=
  tst
  (isS
  (cellsG
  (AVal.agg
  [AVal.int IntKind.i64 s.k, AVal.str s.el, AVal.str s.ar, AVal.int IntKind.u8 (↑s.dl.toNat : Int),
  AVal.str s.pe, AVal.str s.rf, AVal.int IntKind.i64 s.pt, AVal.str s.wd])) ∧
  SubL
  [AVal.agg
  [AVal.int IntKind.i64 s.k, AVal.str s.el, AVal.str s.ar, AVal.int IntKind.u8 (↑s.dl.toNat : Int),
  AVal.str s.pe, AVal.str s.rf, AVal.int IntKind.i64 s.pt, AVal.str s.wd]]
  [AVal.agg
  (cellsG
  (AVal.agg
  [AVal.int IntKind.i64 s.k, AVal.str s.el, AVal.str s.ar, AVal.int IntKind.u8 (↑s.dl.toNat : Int),
  AVal.str s.pe, AVal.str s.rf, AVal.int IntKind.i64 s.pt, AVal.str s.wd]))] ∧
  ([] : Heap) = []);
 let n1 : Int :=
  K
  (cellsG
  (AVal.agg
  [AVal.int IntKind.i64 s.k, AVal.str s.el, AVal.str s.ar, AVal.int IntKind.u8 (↑s.dl.toNat : Int), AVal.str s.pe,
  AVal.str s.rf, AVal.int IntKind.i64 s.pt, AVal.str s.wd]));
  bif c0 then
  bif c0 then
  k
  (Out.ret
  (AVal.bool
  (bif bif decide (s.k ≥ 18) then decide (s.k ≤ 19) else false then true
  else
  bif bif bif decide (s.k ≥ 9) then decide (s.k ≤ 10) else false then decide (n1 ≥ 1) else false then
  decide (n1 ≤ 3)
  else false))
  [])
  else none
  else none) := by kernel_rfl
noncomputable def layMk2 (B : List AVal → Bool) : Lay := Lay.nil.addF 21 (bsTold B)
theorem mchk_fun (B : List AVal → Bool) (s : SS) (k : Out → Ans) : iFun Tryz.prog ((layMk2 B).hd Tryz.prog) (layMk2 B).fhs 0 12 [.agg (encSS s)] [] k = (
 let c0 : Bool := decide (s.k ≤ 19);
 let n1 : Int := (↑s.dl.toNat : Int);
 let c2 : Bool := decide (s.k ≤ 10);
  bif !bif decide (s.k ≥ 0) then c0 else false then k (Out.ret (AVal.int IntKind.i64 4) [])
  else
  bif
  tst
  (isS
  (cellsG
  (AVal.agg
  [AVal.int IntKind.i64 s.k, AVal.str s.el, AVal.str s.ar, AVal.int IntKind.u8 n1, AVal.str s.pe,
  AVal.str s.rf, AVal.int IntKind.i64 s.pt, AVal.str s.wd])) ∧
  SubL
  [AVal.agg
  [AVal.int IntKind.i64 s.k, AVal.str s.el, AVal.str s.ar, AVal.int IntKind.u8 n1, AVal.str s.pe,
  AVal.str s.rf, AVal.int IntKind.i64 s.pt, AVal.str s.wd]]
  [AVal.agg
  (cellsG
  (AVal.agg
  [AVal.int IntKind.i64 s.k, AVal.str s.el, AVal.str s.ar, AVal.int IntKind.u8 n1, AVal.str s.pe,
  AVal.str s.rf, AVal.int IntKind.i64 s.pt, AVal.str s.wd]))] ∧
  ([] : Heap) = []) then
  bif
  !bif
  bif
  bif
  bif
  bif
  bif
  bif
  bif
  bif
  bif
  bif
  bif
  bif decide ((↑(List.length s.el) : Int) ≤ 33) then
  decide ((↑(List.length s.ar) : Int) ≤ 32)
  else false then
  decide ((↑(List.length s.pe) : Int) ≤ 34)
  else false then
  decide ((↑(List.length s.rf) : Int) ≤ 16)
  else false then
  decide ((↑(List.length s.wd) : Int) ≤ 16)
  else false then
  decide (s.pt ≥ 0)
  else false then
  decide (s.pt ≤ 15)
  else false then
  bif
  bif s.el == [] then true
  else bif decide (s.k ≥ 3) then decide (s.k ≤ 12) else false then
  true
  else bif decide (s.k ≥ 17) then c0 else false
  else false then
  bif s.ar == [] then true else bif decide (s.k ≥ 6) then c2 else false
  else false then
  (s.k == 9) == (n1 != 0)
  else false then
  bif bif n1 == 0 then true else n1 == 34 then true else n1 == 39
  else false then
  bif s.pe == [] then true else bif decide (s.k ≥ 16) then c0 else false
  else false then
  bif bif bif s.rf == [] then true else s.k == 0 then true else s.k == 17 then true
  else bif decide (s.k ≥ 9) then c2 else false
  else false then
  bif
  B
  (cellsG
  (AVal.agg
  [AVal.int IntKind.i64 s.k, AVal.str s.el, AVal.str s.ar, AVal.int IntKind.u8 n1, AVal.str s.pe,
  AVal.str s.rf, AVal.int IntKind.i64 s.pt, AVal.str s.wd])) then
  true
  else bif s.pt == 0 then s.wd == [] else false
  else false then
  k (Out.ret (AVal.int IntKind.i64 9) [])
  else k (Out.ret (AVal.int IntKind.i64 0) [])
  else none) := by kernel_rfl
/- Unfinished -/
theorem prt_fun (s : Bs) (k : Out → Ans) : iFun Tryz.prog (Lay.nil.hd Tryz.prog) Lay.nil.fhs 0 60 [.str s] [] k = (
 let n0 : Int := (↑(List.length s) : Int);
 let c1 : Bool := decide (1 ≤ n0);
 let c2 : Bool := decide (n0 ≥ 1);
 let l3 : List UInt8 := List.drop (Int.toNat 1) (List.take n0.toNat s);
 let n4 : Int := (↑l3.length : Int);
 let c5 : Bool := !l3 == [];
  bif c1 || !c2 then
  bif !bif c2 then List.drop (Int.toNat 0) (List.take (Int.toNat 1) s) == [35] else false then
  bif decide (0 < n0) || true then k (Out.ret (AVal.tuple [AVal.str s, AVal.bool false, AVal.bool false]) [])
  else none
  else
  bif c1 && decide (n0 ≤ n0) then
  bif decide (0 < n4) || !c5 then
  bif
  bif c5 then
  IntKind.u8.wrap (↑(BitVec.ofInt 8 (↑(l3.getD 0 0).toNat : Int) ||| BitVec.ofInt 8 32).toNat : Int) == 120
  else false then
  bif decide (1 ≤ n4) && decide (n4 ≤ n4) then
  k
  (Out.ret
  (AVal.tuple
  [AVal.str (List.drop (Int.toNat 1) (List.take n4.toNat l3)), AVal.bool true, AVal.bool true])
  [])
  else none
  else k (Out.ret (AVal.tuple [AVal.str l3, AVal.bool false, AVal.bool true]) [])
  else none
  else none
  else none) := by kernel_rfl
end Go.Mu
set_option linter.unusedVariables false
set_option linter.unusedSimpArgs false
set_option maxRecDepth 100000
namespace Go.Mu
open Go Go.Proofs
theorem ek0 (c : UInt8) : ((c.toNat : Int) == 0) = (c == 0) := eqk c 0 rfl
theorem dl33 (n : Nat) : decide ((n : Int) ≤ 33) = decide (n ≤ 33) := by rw [decide_eq_decide]; omega
theorem dl32 (n : Nat) : decide ((n : Int) ≤ 32) = decide (n ≤ 32) := by rw [decide_eq_decide]; omega
theorem dl34 (n : Nat) : decide ((n : Int) ≤ 34) = decide (n ≤ 34) := by rw [decide_eq_decide]; omega
theorem dle16 (n : Nat) : decide ((n : Int) ≤ 16) = decide (n ≤ 16) := by rw [decide_eq_decide]; omega
theorem ksTold_ok {f : FuncId} {F : SS → Int} (h : ∀ s, CallOK Tryz.prog f [.agg (encSS s)] [] (.ret (.int .i64 (F s)) [])) : ∀ xs H k out, ksTold (fun x => F (decSS x)) xs H k = some out → ∃ o, CallOK Tryz.prog f xs H o ∧ k o = some out := mkF_ok fun x hx => by
  have hx : x = encSS (decSS x) := hx
  generalize hs : decSS x = s at hx
  subst hx
  refine ⟨_, fun k => rfl, ?_⟩
  show CallOK _ _ _ _ (.ret (.int .i64 (F (decSS (encSS s)))) [])
  rw [hs]
  exact h s
theorem bsTold_ok {f : FuncId} {F : SS → Bool} (h : ∀ s, CallOK Tryz.prog f [.agg (encSS s)] [] (.ret (.bool (F s)) [])) : ∀ xs H k out, bsTold (fun x => F (decSS x)) xs H k = some out → ∃ o, CallOK Tryz.prog f xs H o ∧ k o = some out := mkF_ok fun x hx => by
  have hx : x = encSS (decSS x) := hx
  generalize hs : decSS x = s at hx
  subst hx
  refine ⟨_, fun k => rfl, ?_⟩
  show CallOK _ _ _ _ (.ret (.bool (F (decSS (encSS s)))) [])
  rw [hs]
  exact h s
theorem layMk0_ok : (layMk0 atrK).OK Tryz.prog := Lay.nil_ok.addF atrTold_ok
theorem kind_ok (s : SS) : CallOK Tryz.prog 25 [.agg (encSS s)] [] (.ret (.int .i64 (kindM s)) []) := layMk0_ok.callF (G := []) rfl (fun k => by
  refine (mkind_fun atrK s k).trans ?_
  have g : (decide (1 ≤ (s.el.length : Int)) || !decide ((s.el.length : Int) ≥ 1)) = true := Bool.or_not_self _
  simp only [g, cond_true]
  show (bif (bif !(bif decide (s.k ≥ 8) then decide (s.k ≤ 10) else false) then true else hpB [47] s.el) then _ else _) = k (.ret (.int .i64 (bif !(decide (s.k ≥ 8) && decide (s.k ≤ 10)) || hpB [47] s.el then 0 else atrK s.el s.ar)) [])
  rw [bif_and, bif_or]
  cases (!(decide (s.k ≥ 8) && decide (s.k ≤ 10)) || hpB [47] s.el) <;> rfl)
noncomputable def kindR (x : List AVal) : Int := kindM (decSS x)
theorem kindR_enc (s : SS) : kindR (encSS s) = kindM s := by unfold kindR; rw [decSS_enc]
theorem kindTold_ok : ∀ xs H k out, ksTold kindR xs H k = some out → ∃ o, CallOK Tryz.prog 25 xs H o ∧ k o = some out := ksTold_ok kind_ok
theorem layMk1_ok : (layMk1 kindR).OK Tryz.prog := Lay.nil_ok.addF kindTold_ok
theorem tstS (s : SS) {xs : List AVal} : tst (isS (encSS s) ∧ SubL xs xs ∧ True) = true := tst_true ⟨isS_enc s, .refl _, trivial⟩
theorem sub_ok (s : SS) : CallOK Tryz.prog 21 [.agg (encSS s)] [] (.ret (.bool (subB s)) []) := layMk1_ok.callF (G := []) rfl (fun k => by
  refine (msub_fun kindR s k).trans ?_
  have e1 := tstS s (xs := [.agg (encSS s)])
  have e2 : kindR (cellsG (.agg (encSS s))) = kindM s := kindR_enc s
  unfold encSS at e1 e2
  unfold cellsG at e2 ⊢
  simp only at e2 ⊢
  simp only [e1, e2, cond_true, bif_and, bif_or]
  rfl)
noncomputable def subR_ (x : List AVal) : Bool := subB (decSS x)
theorem subR_enc (s : SS) : subR_ (encSS s) = subB s := by unfold subR_; rw [decSS_enc]
theorem subTold_ok : ∀ xs H k out, bsTold subR_ xs H k = some out → ∃ o, CallOK Tryz.prog 21 xs H o ∧ k o = some out := bsTold_ok sub_ok
theorem layMk2_ok : (layMk2 subR_).OK Tryz.prog := Lay.nil_ok.addF subTold_ok
theorem check_ok (s : SS) : CallOK Tryz.prog 12 [.agg (encSS s)] [] (.ret (.int .i64 (markE s)) []) := layMk2_ok.callF (G := []) rfl (fun k => by
  refine (mchk_fun subR_ s k).trans ?_
  have e1 := tstS s (xs := [.agg (encSS s)])
  have e2 : subR_ (cellsG (.agg (encSS s))) = subB s := subR_enc s
  unfold encSS at e1 e2
  unfold cellsG at e2 ⊢
  simp only at e2 ⊢
  simp only [e1, e2, cond_true, bif_and, bif_or, dl33, dl32, dl34, dle16, bne, ek0, ek34, ek39]
  show _ = k (.ret (.int .i64 (bif !(decide (s.k ≥ 0) && decide (s.k ≤ 19)) then 4 else bif markOk s then 0 else 9)) [])
  have e3 : markOk s = (decide (s.el.length ≤ 33) && decide (s.ar.length ≤ 32) && decide (s.pe.length ≤ 34) && decide (s.rf.length ≤ 16) && decide (s.wd.length ≤ 16) && decide (s.pt ≥ 0) && decide (s.pt ≤ 15)
    && (s.el == [] || (decide (s.k ≥ 3) && decide (s.k ≤ 12)) || (decide (s.k ≥ 17) && decide (s.k ≤ 19))) && (s.ar == [] || (decide (s.k ≥ 6) && decide (s.k ≤ 10)))
    && ((s.k == 9) == !(s.dl == 0)) && (s.dl == 0 || s.dl == 34 || s.dl == 39)
    && (s.pe == [] || (decide (s.k ≥ 16) && decide (s.k ≤ 19))) && (s.rf == [] || s.k == 0 || s.k == 17 || (decide (s.k ≥ 9) && decide (s.k ≤ 10))) && (subB s || (s.pt == 0 && s.wd == []))) := rfl
  rw [← e3]
  cases (decide (s.k ≥ 0) && decide (s.k ≤ 19)) <;> cases markOk s <;> rfl)
noncomputable def markR (x : List AVal) : Int := markE (decSS x)
theorem markR_enc (s : SS) : markR (encSS s) = markE s := by unfold markR; rw [decSS_enc]
theorem markTold_ok : ∀ xs H k out, ksTold markR xs H k = some out → ∃ o, CallOK Tryz.prog 12 xs H o ∧ k o = some out := ksTold_ok check_ok
/- parts -/
def orx (c : UInt8) : Bool := IntKind.u8.wrap (↑(BitVec.ofInt 8 (↑c.toNat : Int) ||| BitVec.ofInt 8 32).toNat : Int) == 120
def prtM (s : Bs) : Bs × Bool × Bool := bif !hpB [35] s then (s, false, false) else bif (bif !s.drop 1 == [] then orx ((s.drop 1).getD 0 0) else false) then ((s.drop 1).drop 1, true, true) else (s.drop 1, false, true)
theorem prt_ok (s : Bs) : CallOK Tryz.prog 60 [.str s] [] (.ret (.tuple [.str (prtM s).1, .bool (prtM s).2.1, .bool (prtM s).2.2]) []) := Lay.nil_ok.callF (G := []) rfl (fun k => by
  refine (prt_fun s k).trans ?_
  match s with
  | [] => rfl
  | [c] =>
    show (bif !(bif true then [c] == [35] else false) then _ else _) = _
    have e : hpB [35] [c] = ([c] == [35]) := rfl
    unfold prtM
    rw [e, cond_true]
    cases [c] == [35] <;> rfl
  | c :: d :: t =>
    have e3 : List.drop (Int.toNat 1) (List.take (Int.toNat ((c :: d :: t).length : Int)) (c :: d :: t)) = d :: t := by rw [Int.toNat_natCast, List.take_length]; rfl
    have e4 : List.drop (Int.toNat 1) (List.take (Int.toNat ((d :: t).length : Int)) (d :: t)) = t := by rw [Int.toNat_natCast, List.take_length]; rfl
    have l1 : ((c :: d :: t).length : Int) ≥ 1 := by simp only [List.length_cons]; omega
    have l2 : ((d :: t).length : Int) ≥ 1 := by simp only [List.length_cons]; omega
    have hh : (List.drop (Int.toNat 0) (List.take (Int.toNat 1) (c :: d :: t)) == [35]) = ([c] == [35]) := rfl
    have e : hpB [35] (c :: d :: t) = ([c] == [35]) := by
      unfold hpB
      rw [dT (show ((c :: d :: t).length : Int) ≥ (([35] : Bs).length : Int) by simp only [List.length_cons, List.length_nil]; omega)]
      rfl
    have hn : (!(d :: t : Bs) == []) = true := rfl
    have ho : (IntKind.u8.wrap (↑(BitVec.ofInt 8 (↑((d :: t : Bs).getD 0 0).toNat : Int) ||| BitVec.ofInt 8 32).toNat : Int) == 120) = orx d := rfl
    simp only [e3, e4, hh, hn, ho, dT l1, dT (show (1 : Int) ≤ ((c :: d :: t).length : Int) from l1), dT (show (1 : Int) ≤ ((d :: t).length : Int) from l2), dT (show (0 : Int) < ((d :: t).length : Int) by omega), dT (show (0 : Int) < ((c :: d :: t).length : Int) by omega), dT (Int.le_refl _), Bool.true_or, Bool.and_self, Bool.or_true, cond_true]
    have ep : prtM (c :: d :: t) = bif !([c] == [35]) then (c :: d :: t, false, false) else bif orx d then (t, true, true) else (d :: t, false, true) := by
      unfold prtM
      rw [e]
      rfl
    rw [ep]
    cases [c] == [35] <;> cases orx d <;> rfl)
def prtTold (F : Bs → Bs × Bool × Bool) : FSp := mkFS [.s] (fun _ => true) (fun xs k => k (.ret (.tuple [.str (F (aS xs 0)).1, .bool (F (aS xs 0)).2.1, .bool (F (aS xs 0)).2.2]) []))
theorem prtTold_ok : ∀ xs H k out, prtTold prtM xs H k = some out → ∃ o, CallOK Tryz.prog 60 xs H o ∧ k o = some out := mkFS_ok fun ys xs e hk => by
  obtain ⟨s, rfl⟩ : ∃ s, xs = [.str s] := ⟨_, e⟩
  exact ⟨_, fun k => rfl, prt_ok s⟩
end Go.Mu
set_option linter.unusedVariables false
set_option linter.unusedSimpArgs false
set_option maxRecDepth 100000
namespace Go.Mu
open Go Go.Proofs
def unfNames : List Bs := [[97,109,112],[108,116],[103,116],[113,117,111,116],[97,112,111,115]]
noncomputable def unfSp : LSp := mkL (fun vs _ H => (aS vs 0, H)) (fun _ => True) (fun a => [.str a.1, encL true encS [] unfNames, .int .i64 5, .int .i64 0]) (fun _ => []) (fun a => a.2)
  (fun a k => cond (unfNames.any (fun w => hpB a.1 w)) (k .ret [.bool true, .str a.1] [] a.2) (k (.exit 0) [.undef, .str a.1] [] a.2))
noncomputable def unfFH : FH := .of [(5, loopSpec 38 [3,16,17,18] [] [2,3] [] unfSp)]
def layUn0 (F : Bs → Bs × Bool × Bool) : Lay := (Lay.nil.addF 60 (prtTold F)).addF 61 numrTold
theorem unf_step (F : Bs → Bs × Bool × Bool) (t : Bs) (n i : Int) (H : Heap) (D : List (FuncId × List AVal)) (k : Kont) : lturn Tryz.prog (layUn0 F) unfFH 48 5 [3,16,17,18] [] [2,3] [] (stL 38 [3,16,17,18] [.str t, encL true encS [] unfNames, .int .i64 n, .int .i64 i] [] [] H D) k = (
 let n0 : Int := (↑(List.length t) : Int);
 let l1 : List UInt8 := unfNames.getD i.toNat [];
 let n2 : Int := (↑l1.length : Int);
 let c3 : Bool := decide (n2 ≥ n0);
  bif decide (i < n) then
  bif decide (0 ≤ i) && decide (i < 5) then
  bif decide (n0 ≤ n2) || !c3 then
  bif bif c3 then List.drop (Int.toNat 0) (List.take n0.toNat l1) == t else false then
  k AExit.ret (stL 38 [2, 3] [AVal.bool true, AVal.str t] [] [] H D)
  else
  k AExit.normal
  (stL 38 [3, 16, 17, 18]
  [AVal.str t, AVal.list true 5 fun (i : Nat) => [AVal.str (unfNames.getD i [])], AVal.int IntKind.i64 n,
  AVal.int IntKind.i64 (IntKind.i64.wrap (i + 1))]
  [] [] H D)
  else none
  else none
  else k (AExit.exit 0) (stL 38 [2, 3] [AVal.undef, AVal.str t] [] [] H D)) := by kernel_rfl
noncomputable def layUn (F : Bs → Bs × Bool × Bool) : Lay := (layUn0 F).addL 48 unfFH
theorem unf_fun (F : Bs → Bs × Bool × Bool) (s : Bs) (k : Out → Ans) : iFun Tryz.prog ((layUn F).hd Tryz.prog) (layUn F).fhs 0 48 [.str s] [] k = (
 let n0 : Int := (↑(List.length s) : Int);
 let c1 : Bool := decide (1 ≤ n0);
 let c2 : Bool := decide (n0 ≥ 1);
 let l3 : List UInt8 := List.drop (Int.toNat 1) (List.take n0.toNat s);
  bif c1 || !c2 then
  bif !bif c2 then List.drop (Int.toNat 0) (List.take (Int.toNat 1) s) == [38] else false then
  k (Out.ret (AVal.bool false) [])
  else
  bif c1 && decide (n0 ≤ n0) then
  bif
  tst
  (True ∧
  SubTL
  [AVal.str l3,
  AVal.list true 5 fun (i : Nat) =>
  [[AVal.str [97, 109, 112]], [AVal.str [108, 116]], [AVal.str [103, 116]],
  [AVal.str [113, 117, 111, 116]], [AVal.str [97, 112, 111, 115]]].getD
  i [],
  AVal.int IntKind.i64 5, AVal.int IntKind.i64 0]
  [AVal.str l3, AVal.list true 5 fun (i : Nat) => [AVal.str (unfNames.getD i [])],
  AVal.int IntKind.i64 5, AVal.int IntKind.i64 0] ∧
  ([] : List (List AVal)) = [] ∧ ([] : Heap) = []) then
  bif
  hpB l3 [97, 109, 112] ||
  (hpB l3 [108, 116] ||
  (hpB l3 [103, 116] || (hpB l3 [113, 117, 111, 116] || (hpB l3 [97, 112, 111, 115] || false)))) then
  k (Out.ret (AVal.bool true) [])
  else
  bif decide (List.length (F l3).fst ≤ 1099511627776) then
  k (Out.ret (AVal.bool (bif (F l3).snd.snd then numB (F l3).fst (F l3).snd.fst else false)) [])
  else none
  else none
  else none
  else none) := by kernel_rfl
end Go.Mu
set_option linter.unusedVariables false
set_option linter.unusedSimpArgs false
set_option maxRecDepth 100000
namespace Go.Mu
open Go Go.Proofs
theorem layUn0_ok : (layUn0 prtM).OK Tryz.prog := (Lay.nil_ok.addF prtTold_ok).addF numrTold_ok
noncomputable abbrev unfTurn := lturn Tryz.prog (layUn0 prtM) unfFH 48 5 [3,16,17,18] [] [2,3] []
def unfHit (t : Bs) (i : Nat) : Bool := hpB t (unfNames.getD i [])
theorem unf_rd (t : Bs) (H : Heap) (i : Nat) (hi : i < 5) (D : List (FuncId × List AVal)) (k : Kont) :
    unfTurn (stL 38 [3,16,17,18] [.str t, encL true encS [] unfNames, .int .i64 5, .int .i64 (i : Nat)] [] [] H D) k = cond (unfHit t i) (k .ret (stL 38 [2,3] [.bool true, .str t] [] [] H D)) (k .normal (stL 38 [3,16,17,18] [.str t, encL true encS [] unfNames, .int .i64 5, .int .i64 ((i + 1 : Nat) : Int)] [] [] H D)) := by
  refine (unf_step prtM t 5 i H D k).trans ?_
  have w1 : IntKind.i64.wrap ((i : Int) + 1) = ((i + 1 : Nat) : Int) := wrap_add1 (by omega)
  have g : (decide ((t.length : Int) ≤ ((unfNames.getD i []).length : Int)) || !decide (((unfNames.getD i []).length : Int) ≥ (t.length : Int))) = true := Bool.or_not_self _
  simp only [w1, Int.toNat_natCast, g, dT (show (i : Int) < 5 by omega), dT (show (0 : Int) ≤ (i : Int) by omega), Bool.and_self, cond_true]
  rfl
theorem unfSp_ok : SpOK unfTurn 38 [3,16,17,18] [] [2,3] [] unfSp := mkL_ok fun a _ => by
  obtain ⟨t, H⟩ := a
  show ∃ e vs bs H', (∀ k : AExit → List AVal → List (List AVal) → Heap → Ans, cond (unfNames.any fun w => hpB t w) _ _ = k e vs bs H') ∧ _
  have hN : ∀ D k, unfTurn (stL 38 [3,16,17,18] [.str t, encL true encS [] unfNames, .int .i64 5, .int .i64 (5 : Nat)] [] [] H D) k = k (.exit 0) (stL 38 [2,3] [.undef, .str t] [] [] H D) := fun D k => by
    refine (unf_step prtM t 5 (5 : Nat) H D k).trans ?_
    rw [dF (show ¬ ((5 : Nat) : Int) < 5 by omega), cond_false]
  have key : ∀ j, (List.range 5).find? (unfHit t) = some j → (unfNames.any fun w => hpB t w) = true := fun j hj => by
    obtain ⟨h1, h2, _⟩ := List.find?_range_eq_some.1 hj
    have h2 : j < 5 := by simpa using h2
    refine List.any_eq_true.2 ⟨unfNames.getD j [], ?_, h1⟩
    rw [List.getD_eq_getElem?_getD, List.getElem?_eq_getElem (show j < unfNames.length from h2)]
    exact List.getElem_mem _
  cases ha : (List.range 5).find? (unfHit t) with
  | none =>
    have hb : (unfNames.any fun w => hpB t w) = false := by
      have h := List.find?_eq_none.1 ha
      have h0 := h 0 (by simp)
      have h1 := h 1 (by simp)
      have h2 := h 2 (by simp)
      have h3 := h 3 (by simp)
      have h4 := h 4 (by simp)
      unfold unfHit at h0 h1 h2 h3 h4
      simp only [Bool.not_eq_true] at h0 h1 h2 h3 h4
      have e : (unfNames.any fun w => hpB t w) = (hpB t (unfNames.getD 0 []) || (hpB t (unfNames.getD 1 []) || (hpB t (unfNames.getD 2 []) || (hpB t (unfNames.getD 3 []) || (hpB t (unfNames.getD 4 []) || false))))) := rfl
      rw [e, h0, h1, h2, h3, h4]; rfl
    rw [hb]
    exact ⟨_, _, _, _, fun k => rfl, none_runs (fun i => [.str t, encL true encS [] unfNames, .int .i64 5, .int .i64 (i : Nat)]) [] H (unfHit t) 5 (e1 := .ret) (v1 := fun _ => [.bool true, .str t]) (b1 := fun _ => []) (H1 := fun _ => H) (by simp) (fun i hi D k => unf_rd t H i hi D k) hN ha⟩
  | some j =>
    rw [key j ha]
    exact ⟨_, _, _, _, fun k => rfl, find_runs (fun i => [.str t, encL true encS [] unfNames, .int .i64 5, .int .i64 (i : Nat)]) [] H (unfHit t) 5 (v1 := fun _ => [.bool true, .str t]) (b1 := fun _ => []) (H1 := fun _ => H) (by simp) (fun i hi D k => unf_rd t H i hi D k) ha⟩
theorem layUn_ok : (layUn prtM).OK Tryz.prog := layUn0_ok.loop1 (id := 5) (by kernel_rfl) (by kernel_rfl) (by kernel_rfl) unfSp_ok
def unfM (s : Bs) : Bool := bif !hpB [38] s then false else bif unfNames.any (fun w => hpB (s.drop 1) w) then true else bif (prtM (s.drop 1)).2.2 then numB (prtM (s.drop 1)).1 (prtM (s.drop 1)).2.1 else false
theorem prtM_len (s : Bs) : (prtM s).1.length ≤ s.length := by
  unfold prtM
  cases hpB [35] s
  · exact Nat.le_refl _
  · show (bif _ then ((s.drop 1).drop 1, true, true) else (s.drop 1, false, true) : Bs × Bool × Bool).1.length ≤ _
    cases (bif !s.drop 1 == [] then orx ((s.drop 1).getD 0 0) else false) <;> simp only [cond_true, cond_false, List.length_drop] <;> omega
theorem unf_ok (s : Bs) (hs : s.length ≤ 1048576) : CallOK Tryz.prog 48 [.str s] [] (.ret (.bool (unfM s)) []) := layUn_ok.callF (G := []) rfl (fun k => by
  refine (unf_fun prtM s k).trans ?_
  have e3 : List.drop (Int.toNat 1) (List.take (Int.toNat (s.length : Int)) s) = s.drop 1 := by rw [Int.toNat_natCast, List.take_length]; rfl
  have g : (decide (1 ≤ (s.length : Int)) || !decide ((s.length : Int) ≥ 1)) = true := Bool.or_not_self _
  have hl : decide ((prtM (s.drop 1)).1.length ≤ 1099511627776) = true := dT (by
    have := prtM_len (s.drop 1)
    rw [List.length_drop] at this
    omega)
  simp only [e3, g, hl, cond_true]
  show (bif !hpB [38] s then _ else _) = k (.ret (.bool (bif !hpB [38] s then false else bif unfNames.any (fun w => hpB (s.drop 1) w) then true else bif (prtM (s.drop 1)).2.2 then numB (prtM (s.drop 1)).1 (prtM (s.drop 1)).2.1 else false)) [])
  cases h38 : hpB [38] s with
  | false => rfl
  | true =>
    have hge : (1 : Int) ≤ (s.length : Int) := by
      unfold hpB at h38
      cases hd : decide ((s.length : Int) ≥ (([38] : Bs).length : Int)) with
      | true => exact of_decide_eq_true hd
      | false => rw [hd] at h38; cases h38
    simp only [Bool.not_true, cond_false, dT hge, dT (Int.le_refl (s.length : Int)), Bool.and_self, cond_true]
    refine (congrArg (fun c => cond c _ none) (tst_true ⟨trivial, ?_, by trivial⟩)).trans ((cond_true _ _).trans ?_)
    · show (bif unfNames.any (fun w => hpB (s.drop 1) w) then _ else _) = _
      cases unfNames.any (fun w => hpB (s.drop 1) w) <;> rfl
    · refine SubTL.cons (Sub.t (.refl _) rfl) (SubTL.cons (SubT.list (Sub.list (fun h => h) (fun i hi => ?_))) (.refl _))
      match i, hi with
      | 0, _ => exact .refl _
      | 1, _ => exact .refl _
      | 2, _ => exact .refl _
      | 3, _ => exact .refl _
      | 4, _ => exact .refl _)
def unfTold (U : Bs → Bool) : FSp := mkFS [.s] (fun xs => decide ((aS xs 0).length ≤ 1048576)) (fun xs k => k (.ret (.bool (U (aS xs 0))) []))
theorem unfTold_ok : ∀ xs H k out, unfTold unfM xs H k = some out → ∃ o, CallOK Tryz.prog 48 xs H o ∧ k o = some out := mkFS_ok fun ys xs e hk => by
  obtain ⟨s, rfl⟩ : ∃ s, xs = [.str s] := ⟨_, e⟩
  exact ⟨_, fun k => rfl, unf_ok s (of_decide_eq_true hk)⟩
end Go.Mu
set_option linter.unusedVariables false
set_option linter.unusedSimpArgs false
set_option maxRecDepth 100000
namespace Go.Mu
open Go Go.Proofs
def p0H (H : Heap) : Obj := H.getD 0 (.var [])
def p1H (H : Heap) : Obj := H.getD 1 (.var [])
def cells0H (H : Heap) : List AVal := match H.getD 2 (.var []) with
  | .var x => x
  | _ => []
structure OkM (s : SS) : Prop where
  el : s.el.length ≤ 1000
  ar : s.ar.length ≤ 1000
  pe : s.pe.length ≤ 1000
  rf : s.rf.length ≤ 1000
  pw : PW (s.pt, s.wd)
def OkR (x : List AVal) : Prop := isS x ∧ OkM (decSS x)
theorem OkR_enc {s : SS} (h : OkM s) : OkR (encSS s) := ⟨isS_enc s, by rw [decSS_enc]; exact h⟩
def errV (e : Int) : AVal := .iface 25 (.int .i64 e)
noncomputable def scPost (P0 P1 : Obj) (r : ScR) (k : Out → Ans) : Ans := cond (r.e == 0) (k (.ret (.tuple []) [P0, P1, .var (encSS r.s)])) (k (.panic (errV r.e) [P0, P1, .var (encSS r.s)]))
structure MhA where
  P0 : Obj
  P1 : Obj
  x : List AVal
def mhD (H : Heap) : MhA := ⟨p0H H, p1H H, cells0H H⟩
noncomputable def mxTold (F : List AVal → Bs → ScR) : FSp := mkF (fun xs H => (mhD H, aS xs 1)) (fun a => OkR a.1.x ∧ a.2.length ≤ 1048576) (fun a => [.ptr (.hp 2) 0, .str a.2]) (fun a => [a.1.P0, a.1.P1, .var a.1.x]) (fun a k => scPost a.1.P0 a.1.P1 (F a.1.x a.2) k)
noncomputable def mcTold (ok : List AVal → Prop) (F : List AVal → Int → ScR) : FSp := mkF (fun xs H => (mhD H, aI xs 1)) (fun a => (OkR a.1.x ∧ ok a.1.x) ∧ okc a.2 = true) (fun a => [.ptr (.hp 2) 0, .int .u8 a.2]) (fun a => [a.1.P0, a.1.P1, .var a.1.x]) (fun a k => scPost a.1.P0 a.1.P1 (F a.1.x a.2) k)
noncomputable def m0Told (F : List AVal → ScR) : FSp := mkF (fun xs H => mhD H) (fun a => OkR a.x) (fun a => [.ptr (.hp 2) 0]) (fun a => [a.P0, a.P1, .var a.x]) (fun a k => scPost a.P0 a.P1 (F a.x) k)
noncomputable def lgTold (F : List AVal → Int) : FSp := mkF (fun xs H => mhD H) (fun a => isS a.x) (fun a => [.ptr (.hp 2) 0]) (fun a => [a.P0, a.P1, .var a.x]) (fun a k => k (.ret (.int .i64 (F a.x)) [a.P0, a.P1, .var a.x]))
noncomputable def layLg0 (K : List AVal → Int) : Lay := Lay.nil.addF 25 (ksTold K)
theorem lang_fun (K : List AVal → Int) (s : SS) (P0 P1 : Obj) (k : Out → Ans) : iFun Tryz.prog ((layLg0 K).hd Tryz.prog) (layLg0 K).fhs 0 64 [.ptr (.hp 2) 0] [P0, P1, .var (encSS s)] k = (
 let c0 : Bool := s.k == 9;
 let n1 : Int :=
  K
  (cellsG
  (AVal.agg
  [AVal.int IntKind.i64 s.k, AVal.str s.el, AVal.str s.ar, AVal.int IntKind.u8 (↑s.dl.toNat : Int), AVal.str s.pe,
  AVal.str s.rf, AVal.int IntKind.i64 s.pt, AVal.str s.wd]));
  bif s.k == 18 then k (Out.ret (AVal.int IntKind.i64 3) [P0, P1, Obj.var (encSS s)])
  else
  bif s.k == 19 then k (Out.ret (AVal.int IntKind.i64 2) [P0, P1, Obj.var (encSS s)])
  else
  bif c0 then
  bif c0 then
  bif
  tst
  (isS
  (cellsG
  (AVal.agg
  [AVal.int IntKind.i64 s.k, AVal.str s.el, AVal.str s.ar, AVal.int IntKind.u8 (↑s.dl.toNat : Int),
  AVal.str s.pe, AVal.str s.rf, AVal.int IntKind.i64 s.pt, AVal.str s.wd])) ∧
  SubL
  [AVal.agg
  [AVal.int IntKind.i64 s.k, AVal.str s.el, AVal.str s.ar,
  AVal.int IntKind.u8 (↑s.dl.toNat : Int), AVal.str s.pe, AVal.str s.rf,
  AVal.int IntKind.i64 s.pt, AVal.str s.wd]]
  [AVal.agg
  (cellsG
  (AVal.agg
  [AVal.int IntKind.i64 s.k, AVal.str s.el, AVal.str s.ar,
  AVal.int IntKind.u8 (↑s.dl.toNat : Int), AVal.str s.pe, AVal.str s.rf,
  AVal.int IntKind.i64 s.pt, AVal.str s.wd]))] ∧
  ([] : Heap) = []) then
  bif decide (n1 ≤ 3) then k (Out.ret (AVal.int IntKind.i64 n1) [P0, P1, Obj.var (encSS s)])
  else k (Out.ret (AVal.int IntKind.i64 0) [P0, P1, Obj.var (encSS s)])
  else none
  else k (Out.ret (AVal.int IntKind.i64 0) [P0, P1, Obj.var (encSS s)])
  else
  bif s.k == 10 then
  bif
  tst
  (isS
  (cellsG
  (AVal.agg
  [AVal.int IntKind.i64 s.k, AVal.str s.el, AVal.str s.ar, AVal.int IntKind.u8 (↑s.dl.toNat : Int),
  AVal.str s.pe, AVal.str s.rf, AVal.int IntKind.i64 s.pt, AVal.str s.wd])) ∧
  SubL
  [AVal.agg
  [AVal.int IntKind.i64 s.k, AVal.str s.el, AVal.str s.ar,
  AVal.int IntKind.u8 (↑s.dl.toNat : Int), AVal.str s.pe, AVal.str s.rf,
  AVal.int IntKind.i64 s.pt, AVal.str s.wd]]
  [AVal.agg
  (cellsG
  (AVal.agg
  [AVal.int IntKind.i64 s.k, AVal.str s.el, AVal.str s.ar,
  AVal.int IntKind.u8 (↑s.dl.toNat : Int), AVal.str s.pe, AVal.str s.rf,
  AVal.int IntKind.i64 s.pt, AVal.str s.wd]))] ∧
  ([] : Heap) = []) then
  bif decide (n1 ≤ 3) then k (Out.ret (AVal.int IntKind.i64 n1) [P0, P1, Obj.var (encSS s)])
  else k (Out.ret (AVal.int IntKind.i64 0) [P0, P1, Obj.var (encSS s)])
  else none
  else k (Out.ret (AVal.int IntKind.i64 0) [P0, P1, Obj.var (encSS s)])) := by kernel_rfl
noncomputable def laySb0 (G : List AVal → Int) (U J C : FdF) : Lay := (((Lay.nil.addF 64 (lgTold G)).addF 65 (fdTold U)).addF 66 (fdTold J)).addF 67 (fdTold C)
theorem sub_fun (G : List AVal → Int) (U J C : FdF) (s : SS) (x : Bs) (P0 P1 : Obj) (k : Out → Ans) : iFun Tryz.prog ((laySb0 G U J C).hd Tryz.prog) (laySb0 G U J C).fhs 0 47 [.ptr (.hp 2) 0, .str x] [P0, P1, .var (encSS s)] k = (
 let n0 : Int := G (cells0H [P0, P1, Obj.var (encSS s)]);
 let c1 : Bool := okpw s.pt s.wd && decide (List.length x ≤ 1099511627776);
 let n2 : Int := (U s.pt s.wd x).fst;
 let n3 : Int := (J s.pt s.wd x).fst;
 let n4 : Int := (C s.pt s.wd x).fst;
  bif
  tst
  (isS (cells0H [P0, P1, Obj.var (encSS s)]) ∧
  SubL [AVal.ptr (Oid.hp 2) 0] [AVal.ptr (Oid.hp 2) 0] ∧
  [P0, P1, Obj.var (encSS s)] =
  [p0H [P0, P1, Obj.var (encSS s)], p1H [P0, P1, Obj.var (encSS s)],
  Obj.var (cells0H [P0, P1, Obj.var (encSS s)])]) then
  bif n0 == 1 then
  bif c1 then
  bif !bif s.pt != 4 then true else n2 != 5 then
  k
  (Out.panic (AVal.iface 25 (AVal.int IntKind.i64 93))
  [p0H [P0, P1, Obj.var (encSS s)], p1H [P0, P1, Obj.var (encSS s)],
  Obj.var
  [AVal.int IntKind.i64 s.k, AVal.str s.el, AVal.str s.ar, AVal.int IntKind.u8 (↑s.dl.toNat : Int),
  AVal.str s.pe, AVal.str s.rf, AVal.int IntKind.i64 n2, AVal.str (U s.pt s.wd x).snd]])
  else
  k
  (Out.ret (AVal.tuple [])
  [p0H [P0, P1, Obj.var (encSS s)], p1H [P0, P1, Obj.var (encSS s)],
  Obj.var
  [AVal.int IntKind.i64 s.k, AVal.str s.el, AVal.str s.ar, AVal.int IntKind.u8 (↑s.dl.toNat : Int),
  AVal.str s.pe, AVal.str s.rf, AVal.int IntKind.i64 n2, AVal.str (U s.pt s.wd x).snd]])
  else none
  else
  bif n0 == 2 then
  bif c1 then
  bif !n3 != 15 then
  k
  (Out.panic (AVal.iface 25 (AVal.int IntKind.i64 94))
  [p0H [P0, P1, Obj.var (encSS s)], p1H [P0, P1, Obj.var (encSS s)],
  Obj.var
  [AVal.int IntKind.i64 s.k, AVal.str s.el, AVal.str s.ar, AVal.int IntKind.u8 (↑s.dl.toNat : Int),
  AVal.str s.pe, AVal.str s.rf, AVal.int IntKind.i64 n3, AVal.str (J s.pt s.wd x).snd]])
  else
  k
  (Out.ret (AVal.tuple [])
  [p0H [P0, P1, Obj.var (encSS s)], p1H [P0, P1, Obj.var (encSS s)],
  Obj.var
  [AVal.int IntKind.i64 s.k, AVal.str s.el, AVal.str s.ar, AVal.int IntKind.u8 (↑s.dl.toNat : Int),
  AVal.str s.pe, AVal.str s.rf, AVal.int IntKind.i64 n3, AVal.str (J s.pt s.wd x).snd]])
  else none
  else
  bif n0 == 3 then
  bif c1 then
  bif !n4 != 9 then
  k
  (Out.panic (AVal.iface 25 (AVal.int IntKind.i64 95))
  [p0H [P0, P1, Obj.var (encSS s)], p1H [P0, P1, Obj.var (encSS s)],
  Obj.var
  [AVal.int IntKind.i64 s.k, AVal.str s.el, AVal.str s.ar, AVal.int IntKind.u8 (↑s.dl.toNat : Int),
  AVal.str s.pe, AVal.str s.rf, AVal.int IntKind.i64 n4, AVal.str (C s.pt s.wd x).snd]])
  else
  k
  (Out.ret (AVal.tuple [])
  [p0H [P0, P1, Obj.var (encSS s)], p1H [P0, P1, Obj.var (encSS s)],
  Obj.var
  [AVal.int IntKind.i64 s.k, AVal.str s.el, AVal.str s.ar, AVal.int IntKind.u8 (↑s.dl.toNat : Int),
  AVal.str s.pe, AVal.str s.rf, AVal.int IntKind.i64 n4, AVal.str (C s.pt s.wd x).snd]])
  else none
  else
  k
  (Out.ret (AVal.tuple [])
  [p0H [P0, P1, Obj.var (encSS s)], p1H [P0, P1, Obj.var (encSS s)],
  Obj.var (cells0H [P0, P1, Obj.var (encSS s)])])
  else none) := by kernel_rfl
noncomputable def layFl0 (S : List AVal → Bs → ScR) : Lay := Lay.nil.addF 47 (mxTold S)
theorem flush_fun (S : List AVal → Bs → ScR) (s : SS) (P0 P1 : Obj) (k : Out → Ans) : iFun Tryz.prog ((layFl0 S).hd Tryz.prog) (layFl0 S).fhs 0 49 [.ptr (.hp 2) 0] [P0, P1, .var (encSS s)] k = (
 let n0 : Int :=
  (S
  (cells0H
  [P0, P1,
  Obj.var
  [AVal.int IntKind.i64 s.k, AVal.str s.el, AVal.str s.ar, AVal.int IntKind.u8 (↑s.dl.toNat : Int),
  AVal.str s.pe, AVal.str [], AVal.int IntKind.i64 s.pt, AVal.str s.wd]])
  s.rf).e;
  bif
  tst
  ((OkR
  (cells0H
  [P0, P1,
  Obj.var
  [AVal.int IntKind.i64 s.k, AVal.str s.el, AVal.str s.ar, AVal.int IntKind.u8 (↑s.dl.toNat : Int),
  AVal.str s.pe, AVal.str [], AVal.int IntKind.i64 s.pt, AVal.str s.wd]]) ∧
  List.length s.rf ≤ 1048576) ∧
  SubL [AVal.ptr (Oid.hp 2) 0, AVal.str s.rf] [AVal.ptr (Oid.hp 2) 0, AVal.str s.rf] ∧
  [P0, P1,
  Obj.var
  [AVal.int IntKind.i64 s.k, AVal.str s.el, AVal.str s.ar, AVal.int IntKind.u8 (↑s.dl.toNat : Int),
  AVal.str s.pe, AVal.str [], AVal.int IntKind.i64 s.pt, AVal.str s.wd]] =
  [p0H
  [P0, P1,
  Obj.var
  [AVal.int IntKind.i64 s.k, AVal.str s.el, AVal.str s.ar, AVal.int IntKind.u8 (↑s.dl.toNat : Int),
  AVal.str s.pe, AVal.str [], AVal.int IntKind.i64 s.pt, AVal.str s.wd]],
  p1H
  [P0, P1,
  Obj.var
  [AVal.int IntKind.i64 s.k, AVal.str s.el, AVal.str s.ar, AVal.int IntKind.u8 (↑s.dl.toNat : Int),
  AVal.str s.pe, AVal.str [], AVal.int IntKind.i64 s.pt, AVal.str s.wd]],
  Obj.var
  (cells0H
  [P0, P1,
  Obj.var
  [AVal.int IntKind.i64 s.k, AVal.str s.el, AVal.str s.ar, AVal.int IntKind.u8 (↑s.dl.toNat : Int),
  AVal.str s.pe, AVal.str [], AVal.int IntKind.i64 s.pt, AVal.str s.wd]])]) then
  bif n0 == 0 then
  k
  (Out.ret (AVal.tuple [])
  [p0H
  [P0, P1,
  Obj.var
  [AVal.int IntKind.i64 s.k, AVal.str s.el, AVal.str s.ar, AVal.int IntKind.u8 (↑s.dl.toNat : Int),
  AVal.str s.pe, AVal.str [], AVal.int IntKind.i64 s.pt, AVal.str s.wd]],
  p1H
  [P0, P1,
  Obj.var
  [AVal.int IntKind.i64 s.k, AVal.str s.el, AVal.str s.ar, AVal.int IntKind.u8 (↑s.dl.toNat : Int),
  AVal.str s.pe, AVal.str [], AVal.int IntKind.i64 s.pt, AVal.str s.wd]],
  Obj.var
  (encSS
  (S
  (cells0H
  [P0, P1,
  Obj.var
  [AVal.int IntKind.i64 s.k, AVal.str s.el, AVal.str s.ar,
  AVal.int IntKind.u8 (↑s.dl.toNat : Int), AVal.str s.pe, AVal.str [],
  AVal.int IntKind.i64 s.pt, AVal.str s.wd]])
  s.rf).s)])
  else
  k
  (Out.panic (errV n0)
  [p0H
  [P0, P1,
  Obj.var
  [AVal.int IntKind.i64 s.k, AVal.str s.el, AVal.str s.ar, AVal.int IntKind.u8 (↑s.dl.toNat : Int),
  AVal.str s.pe, AVal.str [], AVal.int IntKind.i64 s.pt, AVal.str s.wd]],
  p1H
  [P0, P1,
  Obj.var
  [AVal.int IntKind.i64 s.k, AVal.str s.el, AVal.str s.ar, AVal.int IntKind.u8 (↑s.dl.toNat : Int),
  AVal.str s.pe, AVal.str [], AVal.int IntKind.i64 s.pt, AVal.str s.wd]],
  Obj.var
  (encSS
  (S
  (cells0H
  [P0, P1,
  Obj.var
  [AVal.int IntKind.i64 s.k, AVal.str s.el, AVal.str s.ar,
  AVal.int IntKind.u8 (↑s.dl.toNat : Int), AVal.str s.pe, AVal.str [],
  AVal.int IntKind.i64 s.pt, AVal.str s.wd]])
  s.rf).s)])
  else none) := by kernel_rfl
end Go.Mu
set_option linter.unusedVariables false
set_option linter.unusedSimpArgs false
set_option maxRecDepth 100000
namespace Go.Mu
open Go Go.Proofs
noncomputable def scOut (P0 P1 : Obj) (r : ScR) : Out := bif r.e == 0 then .ret (.tuple []) [P0, P1, .var (encSS r.s)] else .panic (errV r.e) [P0, P1, .var (encSS r.s)]
theorem scPost_eq (P0 P1 : Obj) (r : ScR) (k : Out → Ans) : scPost P0 P1 r k = k (scOut P0 P1 r) := by
  unfold scPost scOut
  cases r.e == 0 <;> rfl
theorem isS_get {x : List AVal} (h : isS x) : ∃ s, x = encSS s := ⟨_, h⟩
theorem mxTold_ok {f : FuncId} {F : SS → Bs → ScR} (h : ∀ P0 P1 s x, OkM s → x.length ≤ 1048576 → CallOK Tryz.prog f [.ptr (.hp 2) 0, .str x] [P0, P1, .var (encSS s)] (scOut P0 P1 (F s x))) : ∀ xs H k out, mxTold (fun x t => F (decSS x) t) xs H k = some out → ∃ o, CallOK Tryz.prog f xs H o ∧ k o = some out := mkF_ok fun a ha => by
  obtain ⟨⟨P0, P1, x⟩, t⟩ := a
  obtain ⟨⟨h1, h2⟩, h3⟩ := ha
  simp only at h1 h2 h3
  obtain ⟨s, rfl⟩ := isS_get h1
  rw [decSS_enc] at h2
  refine ⟨_, fun k => scPost_eq _ _ _ k, ?_⟩
  show CallOK _ _ _ _ (scOut P0 P1 (F (decSS (encSS s)) t))
  rw [decSS_enc]
  exact h P0 P1 s t h2 h3
theorem mcTold_ok {f : FuncId} {ok : SS → Prop} {F : SS → UInt8 → ScR} (h : ∀ P0 P1 s c, OkM s → ok s → CallOK Tryz.prog f [.ptr (.hp 2) 0, .int .u8 c.toNat] [P0, P1, .var (encSS s)] (scOut P0 P1 (F s c))) : ∀ xs H k out, mcTold (fun x => ok (decSS x)) (fun x n => F (decSS x) (u8 n)) xs H k = some out → ∃ o, CallOK Tryz.prog f xs H o ∧ k o = some out := mkF_ok fun a ha => by
  obtain ⟨⟨P0, P1, x⟩, n⟩ := a
  obtain ⟨⟨⟨h1, h2⟩, h4⟩, h3⟩ := ha
  simp only at h1 h2 h3 h4
  obtain ⟨s, rfl⟩ := isS_get h1
  obtain ⟨c, rfl⟩ := okc_is h3
  rw [decSS_enc] at h2 h4
  refine ⟨_, fun k => scPost_eq _ _ _ k, ?_⟩
  show CallOK _ _ _ _ (scOut P0 P1 (F (decSS (encSS s)) (u8 c.toNat)))
  rw [decSS_enc, u8_back]
  exact h P0 P1 s c h2 h4
theorem m0Told_ok {f : FuncId} {F : SS → ScR} (h : ∀ P0 P1 s, OkM s → CallOK Tryz.prog f [.ptr (.hp 2) 0] [P0, P1, .var (encSS s)] (scOut P0 P1 (F s))) : ∀ xs H k out, m0Told (fun x => F (decSS x)) xs H k = some out → ∃ o, CallOK Tryz.prog f xs H o ∧ k o = some out := mkF_ok fun a hx => by
  obtain ⟨P0, P1, x⟩ := a
  obtain ⟨h1, h2⟩ := hx
  simp only at h1 h2
  obtain ⟨s, rfl⟩ := isS_get h1
  rw [decSS_enc] at h2
  refine ⟨_, fun k => scPost_eq _ _ _ k, ?_⟩
  show CallOK _ _ _ _ (scOut P0 P1 (F (decSS (encSS s))))
  rw [decSS_enc]
  exact h P0 P1 s h2
variable (P0 P1 : Obj)
/- language -/
theorem layLg0_ok : (layLg0 kindR).OK Tryz.prog := Lay.nil_ok.addF kindTold_ok
theorem lang_ok (s : SS) : CallOK Tryz.prog 64 [.ptr (.hp 2) 0] [P0, P1, .var (encSS s)] (.ret (.int .i64 (langM s)) [P0, P1, .var (encSS s)]) := layLg0_ok.call (fun k => by
  refine (lang_fun kindR s P0 P1 k).trans ?_
  have e1 := tstS s (xs := [.agg (encSS s)])
  have e2 : kindR (cellsG (.agg (encSS s))) = kindM s := kindR_enc s
  have e3 : encSS s = [.int .i64 s.k, .str s.el, .str s.ar, .int .u8 s.dl.toNat, .str s.pe, .str s.rf, .int .i64 s.pt, .str s.wd] := rfl
  unfold cellsG at e2 ⊢
  simp only at e2 ⊢
  simp only [← e3, e1, e2, cond_true]
  unfold langM
  cases s.k == 18 <;> cases s.k == 19 <;> cases s.k == 9 <;> cases s.k == 10 <;> cases decide (kindM s ≤ 3) <;> rfl)
noncomputable def langR (x : List AVal) : Int := langM (decSS x)
theorem langR_enc (s : SS) : langR (encSS s) = langM s := by unfold langR; rw [decSS_enc]
theorem lgTold_ok : ∀ xs H k out, lgTold langR xs H k = some out → ∃ o, CallOK Tryz.prog 64 xs H o ∧ k o = some out := mkF_ok fun a hx => by
  obtain ⟨P0, P1, x⟩ := a
  have hx : isS x := hx
  obtain ⟨s, rfl⟩ := isS_get hx
  refine ⟨_, fun k => rfl, ?_⟩
  show CallOK _ _ _ _ (.ret (.int .i64 (langR (encSS s))) [P0, P1, .var (encSS s)])
  rw [langR_enc]
  exact lang_ok P0 P1 s
/- sub -/
theorem laySb0_ok : (laySb0 langR (feedP urlStep) (feedP jsStep) (feedP csStep)).OK Tryz.prog := (((Lay.nil_ok.addF lgTold_ok).addF fduTold_ok).addF fdjTold_ok).addF fdcTold_ok
theorem msub_ok (s : SS) (x : Bs) (h : OkM s) (hx : x.length ≤ 1048576) : CallOK Tryz.prog 47 [.ptr (.hp 2) 0, .str x] [P0, P1, .var (encSS s)] (scOut P0 P1 (subS s x)) := laySb0_ok.call (fun k => by
  refine (sub_fun langR (feedP urlStep) (feedP jsStep) (feedP csStep) s x P0 P1 k).trans ?_
  have e0 : langR (cells0H [P0, P1, Obj.var (encSS s)]) = langM s := langR_enc s
  have g : (okpw s.pt s.wd && decide (x.length ≤ 1099511627776)) = true := by rw [okpw_of h.pw, dT (by omega)]; rfl
  refine (congrArg (fun c => cond c _ none) (tst_true ⟨isS_enc s, .refl _, rfl⟩)).trans ((cond_true _ _).trans ?_)
  unfold subS
  simp only [e0, g, cond_true]
  cases langM s == 1 with
  | true =>
    show (bif !(bif s.pt != 4 then true else (feedP urlStep s.pt s.wd x).1 != 5) then _ else _) = _
    rw [bif_or]
    show _ = k (scOut P0 P1 ⟨bif s.pt != 4 || (feedP urlStep s.pt s.wd x).1 != 5 then 0 else 93, _⟩)
    cases (s.pt != 4 || (feedP urlStep s.pt s.wd x).1 != 5) <;> rfl
  | false =>
    cases langM s == 2 with
    | true =>
      show (bif !((feedP jsStep s.pt s.wd x).1 != 15) then _ else _) = k (scOut P0 P1 ⟨bif (feedP jsStep s.pt s.wd x).1 != 15 then 0 else 94, _⟩)
      cases (feedP jsStep s.pt s.wd x).1 != 15 <;> rfl
    | false =>
      cases langM s == 3 with
      | true =>
        show (bif !((feedP csStep s.pt s.wd x).1 != 9) then _ else _) = k (scOut P0 P1 ⟨bif (feedP csStep s.pt s.wd x).1 != 9 then 0 else 95, _⟩)
        cases (feedP csStep s.pt s.wd x).1 != 9 <;> rfl
      | false => rfl)
noncomputable def subX : List AVal → Bs → ScR := fun x t => subS (decSS x) t
theorem subX_enc (s : SS) (t : Bs) : subX (encSS s) t = subS s t := by unfold subX; rw [decSS_enc]
theorem mxSub_ok : ∀ xs H k out, mxTold subX xs H k = some out → ∃ o, CallOK Tryz.prog 47 xs H o ∧ k o = some out := mxTold_ok msub_ok
/- flush -/
theorem layFl0_ok : (layFl0 subX).OK Tryz.prog := Lay.nil_ok.addF mxSub_ok
theorem OkM.rf0 {s : SS} (h : OkM s) {t : Bs} (ht : t.length ≤ 1000) : OkM { s with rf := t } := ⟨h.el, h.ar, h.pe, ht, h.pw⟩
theorem mflush_ok (s : SS) (h : OkM s) : CallOK Tryz.prog 49 [.ptr (.hp 2) 0] [P0, P1, .var (encSS s)] (scOut P0 P1 (flushS s)) := layFl0_ok.call (fun k => by
  refine (flush_fun subX s P0 P1 k).trans ?_
  have e : subX (cells0H [P0, P1, Obj.var (encSS { s with rf := [] })]) s.rf = flushS s := subX_enc { s with rf := [] } s.rf
  have hr := h.rf
  refine (congrArg (fun c => cond c _ none) (tst_true ⟨⟨OkR_enc (h.rf0 (t := []) (by simp)), by omega⟩, .refl _, rfl⟩)).trans ((cond_true _ _).trans ?_)
  refine Eq.trans ?_ (scPost_eq P0 P1 (flushS s) k)
  rw [← e]
  rfl)
noncomputable def flushX : List AVal → ScR := fun x => flushS (decSS x)
theorem flushX_enc (s : SS) : flushX (encSS s) = flushS s := by unfold flushX; rw [decSS_enc]
theorem m0Flush_ok : ∀ xs H k out, m0Told flushX xs H k = some out → ∃ o, CallOK Tryz.prog 49 xs H o ∧ k o = some out := m0Told_ok mflush_ok
end Go.Mu
set_option linter.unusedVariables false
set_option linter.unusedSimpArgs false
set_option maxRecDepth 100000
namespace Go.Mu
open Go Go.Proofs
abbrev FC := List AVal → Int → ScR
abbrev FX := List AVal → Bs → ScR
abbrev F0 := List AVal → ScR
abbrev okT : List AVal → Prop := fun _ => True
noncomputable def layCh (S : FX) (L : F0) (U : Bs → Bool) : Lay := (((Lay.nil.addF 47 (mxTold S)).addF 49 (m0Told L)).addF 46 onePTold).addF 48 (unfTold U)
theorem smchar_fun (S : FX) (L : F0) (U : Bs → Bool) (s : SS) (c : UInt8) (P0 P1 : Obj) (k : Out → Ans) : iFun Tryz.prog ((layCh S L U).hd Tryz.prog) (layCh S L U).fhs 0 33 [.ptr (.hp 2) 0, .int .u8 c.toNat] [P0, P1, .var (encSS s)] k = (
 let n0 : Int := (↑c.toNat : Int);
 let l1 : List UInt8 := [byteOf [AVal.int IntKind.u8 n0]];
 let l2 : List UInt8 := List.append s.rf l1;
 let m3 : Nat := l2.length;
 let l4 : List UInt8 := (oneP l2).fst;
 let n5 : Int :=
  (S
  (cells0H
  [P0, P1,
  Obj.var
  [AVal.int IntKind.i64 s.k, AVal.str s.el, AVal.str s.ar, AVal.int IntKind.u8 (↑s.dl.toNat : Int),
  AVal.str s.pe, AVal.str [], AVal.int IntKind.i64 s.pt, AVal.str s.wd]])
  l4).e;
 let n6 : Int := (L (cells0H [P0, P1, Obj.var (encSS s)])).e;
 let c7 : Bool := n0 == 38;
 let n8 : Int :=
  (S
  (cells0H
  [p0H [P0, P1, Obj.var (encSS s)], p1H [P0, P1, Obj.var (encSS s)],
  Obj.var (encSS (L (cells0H [P0, P1, Obj.var (encSS s)])).s)])
  l1).e;
 let n9 : Int := (S (cells0H [P0, P1, Obj.var (encSS s)]) l1).e;
  bif !s.rf == [] then
  bif decide (List.length s.rf + 1 ≤ 4611686018427387904) then
  bif decide (m3 ≤ 1099511627776) then
  bif (↑(oneP l2).snd : Int) == (↑m3 : Int) then
  bif
  tst
  ((OkR
  (cells0H
  [P0, P1,
  Obj.var
  [AVal.int IntKind.i64 s.k, AVal.str s.el, AVal.str s.ar,
  AVal.int IntKind.u8 (↑s.dl.toNat : Int), AVal.str s.pe, AVal.str [],
  AVal.int IntKind.i64 s.pt, AVal.str s.wd]]) ∧
  l4.length ≤ 1048576) ∧
  SubL [AVal.ptr (Oid.hp 2) 0, AVal.str l4] [AVal.ptr (Oid.hp 2) 0, AVal.str l4] ∧
  [P0, P1,
  Obj.var
  [AVal.int IntKind.i64 s.k, AVal.str s.el, AVal.str s.ar,
  AVal.int IntKind.u8 (↑s.dl.toNat : Int), AVal.str s.pe, AVal.str [],
  AVal.int IntKind.i64 s.pt, AVal.str s.wd]] =
  [p0H
  [P0, P1,
  Obj.var
  [AVal.int IntKind.i64 s.k, AVal.str s.el, AVal.str s.ar,
  AVal.int IntKind.u8 (↑s.dl.toNat : Int), AVal.str s.pe, AVal.str [],
  AVal.int IntKind.i64 s.pt, AVal.str s.wd]],
  p1H
  [P0, P1,
  Obj.var
  [AVal.int IntKind.i64 s.k, AVal.str s.el, AVal.str s.ar,
  AVal.int IntKind.u8 (↑s.dl.toNat : Int), AVal.str s.pe, AVal.str [],
  AVal.int IntKind.i64 s.pt, AVal.str s.wd]],
  Obj.var
  (cells0H
  [P0, P1,
  Obj.var
  [AVal.int IntKind.i64 s.k, AVal.str s.el, AVal.str s.ar,
  AVal.int IntKind.u8 (↑s.dl.toNat : Int), AVal.str s.pe, AVal.str [],
  AVal.int IntKind.i64 s.pt, AVal.str s.wd]])]) then
  bif n5 == 0 then
  k
  (Out.ret (AVal.tuple [])
  [p0H
  [P0, P1,
  Obj.var
  [AVal.int IntKind.i64 s.k, AVal.str s.el, AVal.str s.ar,
  AVal.int IntKind.u8 (↑s.dl.toNat : Int), AVal.str s.pe, AVal.str [],
  AVal.int IntKind.i64 s.pt, AVal.str s.wd]],
  p1H
  [P0, P1,
  Obj.var
  [AVal.int IntKind.i64 s.k, AVal.str s.el, AVal.str s.ar,
  AVal.int IntKind.u8 (↑s.dl.toNat : Int), AVal.str s.pe, AVal.str [],
  AVal.int IntKind.i64 s.pt, AVal.str s.wd]],
  Obj.var
  (encSS
  (S
  (cells0H
  [P0, P1,
  Obj.var
  [AVal.int IntKind.i64 s.k, AVal.str s.el, AVal.str s.ar,
  AVal.int IntKind.u8 (↑s.dl.toNat : Int), AVal.str s.pe, AVal.str [],
  AVal.int IntKind.i64 s.pt, AVal.str s.wd]])
  l4).s)])
  else
  k
  (Out.panic (errV n5)
  [p0H
  [P0, P1,
  Obj.var
  [AVal.int IntKind.i64 s.k, AVal.str s.el, AVal.str s.ar,
  AVal.int IntKind.u8 (↑s.dl.toNat : Int), AVal.str s.pe, AVal.str [],
  AVal.int IntKind.i64 s.pt, AVal.str s.wd]],
  p1H
  [P0, P1,
  Obj.var
  [AVal.int IntKind.i64 s.k, AVal.str s.el, AVal.str s.ar,
  AVal.int IntKind.u8 (↑s.dl.toNat : Int), AVal.str s.pe, AVal.str [],
  AVal.int IntKind.i64 s.pt, AVal.str s.wd]],
  Obj.var
  (encSS
  (S
  (cells0H
  [P0, P1,
  Obj.var
  [AVal.int IntKind.i64 s.k, AVal.str s.el, AVal.str s.ar,
  AVal.int IntKind.u8 (↑s.dl.toNat : Int), AVal.str s.pe, AVal.str [],
  AVal.int IntKind.i64 s.pt, AVal.str s.wd]])
  l4).s)])
  else none
  else
  bif decide (m3 ≤ 1048576) then
  bif U l2 then
  k
  (Out.ret (AVal.tuple [])
  [P0, P1,
  Obj.var
  [AVal.int IntKind.i64 s.k, AVal.str s.el, AVal.str s.ar, AVal.int IntKind.u8 (↑s.dl.toNat : Int),
  AVal.str s.pe, AVal.str l2, AVal.int IntKind.i64 s.pt, AVal.str s.wd]])
  else
  bif
  tst
  (OkR (cells0H [P0, P1, Obj.var (encSS s)]) ∧
  SubL [AVal.ptr (Oid.hp 2) 0] [AVal.ptr (Oid.hp 2) 0] ∧
  [P0, P1, Obj.var (encSS s)] =
  [p0H [P0, P1, Obj.var (encSS s)], p1H [P0, P1, Obj.var (encSS s)],
  Obj.var (cells0H [P0, P1, Obj.var (encSS s)])]) then
  bif n6 == 0 then
  bif c7 then
  k
  (Out.ret (AVal.tuple [])
  [p0H [P0, P1, Obj.var (encSS s)], p1H [P0, P1, Obj.var (encSS s)],
  Obj.var
  [AVal.int IntKind.i64 (L (cells0H [P0, P1, Obj.var (encSS s)])).s.k,
  AVal.str (L (cells0H [P0, P1, Obj.var (encSS s)])).s.el,
  AVal.str (L (cells0H [P0, P1, Obj.var (encSS s)])).s.ar,
  AVal.int IntKind.u8 (↑(L (cells0H [P0, P1, Obj.var (encSS s)])).s.dl.toNat : Int),
  AVal.str (L (cells0H [P0, P1, Obj.var (encSS s)])).s.pe, AVal.str [38],
  AVal.int IntKind.i64 (L (cells0H [P0, P1, Obj.var (encSS s)])).s.pt,
  AVal.str (L (cells0H [P0, P1, Obj.var (encSS s)])).s.wd]])
  else
  bif
  tst
  ((OkR
  (cells0H
  [p0H [P0, P1, Obj.var (encSS s)], p1H [P0, P1, Obj.var (encSS s)],
  Obj.var (encSS (L (cells0H [P0, P1, Obj.var (encSS s)])).s)]) ∧
  1 ≤ 1048576) ∧
  SubL [AVal.ptr (Oid.hp 2) 0, AVal.str l1] [AVal.ptr (Oid.hp 2) 0, AVal.str l1] ∧
  [p0H [P0, P1, Obj.var (encSS s)], p1H [P0, P1, Obj.var (encSS s)],
  Obj.var (encSS (L (cells0H [P0, P1, Obj.var (encSS s)])).s)] =
  [p0H
  [p0H [P0, P1, Obj.var (encSS s)], p1H [P0, P1, Obj.var (encSS s)],
  Obj.var (encSS (L (cells0H [P0, P1, Obj.var (encSS s)])).s)],
  p1H
  [p0H [P0, P1, Obj.var (encSS s)], p1H [P0, P1, Obj.var (encSS s)],
  Obj.var (encSS (L (cells0H [P0, P1, Obj.var (encSS s)])).s)],
  Obj.var
  (cells0H
  [p0H [P0, P1, Obj.var (encSS s)], p1H [P0, P1, Obj.var (encSS s)],
  Obj.var (encSS (L (cells0H [P0, P1, Obj.var (encSS s)])).s)])]) then
  bif n8 == 0 then
  k
  (Out.ret (AVal.tuple [])
  [p0H
  [p0H [P0, P1, Obj.var (encSS s)], p1H [P0, P1, Obj.var (encSS s)],
  Obj.var (encSS (L (cells0H [P0, P1, Obj.var (encSS s)])).s)],
  p1H
  [p0H [P0, P1, Obj.var (encSS s)], p1H [P0, P1, Obj.var (encSS s)],
  Obj.var (encSS (L (cells0H [P0, P1, Obj.var (encSS s)])).s)],
  Obj.var
  (encSS
  (S
  (cells0H
  [p0H [P0, P1, Obj.var (encSS s)], p1H [P0, P1, Obj.var (encSS s)],
  Obj.var (encSS (L (cells0H [P0, P1, Obj.var (encSS s)])).s)])
  l1).s)])
  else
  k
  (Out.panic (errV n8)
  [p0H
  [p0H [P0, P1, Obj.var (encSS s)], p1H [P0, P1, Obj.var (encSS s)],
  Obj.var (encSS (L (cells0H [P0, P1, Obj.var (encSS s)])).s)],
  p1H
  [p0H [P0, P1, Obj.var (encSS s)], p1H [P0, P1, Obj.var (encSS s)],
  Obj.var (encSS (L (cells0H [P0, P1, Obj.var (encSS s)])).s)],
  Obj.var
  (encSS
  (S
  (cells0H
  [p0H [P0, P1, Obj.var (encSS s)], p1H [P0, P1, Obj.var (encSS s)],
  Obj.var (encSS (L (cells0H [P0, P1, Obj.var (encSS s)])).s)])
  l1).s)])
  else none
  else
  k
  (Out.panic (errV n6)
  [p0H [P0, P1, Obj.var (encSS s)], p1H [P0, P1, Obj.var (encSS s)],
  Obj.var (encSS (L (cells0H [P0, P1, Obj.var (encSS s)])).s)])
  else none
  else none
  else none
  else none
  else
  bif c7 then
  k
  (Out.ret (AVal.tuple [])
  [P0, P1,
  Obj.var
  [AVal.int IntKind.i64 s.k, AVal.str s.el, AVal.str s.ar, AVal.int IntKind.u8 (↑s.dl.toNat : Int),
  AVal.str s.pe, AVal.str [38], AVal.int IntKind.i64 s.pt, AVal.str s.wd]])
  else
  bif
  tst
  ((OkR (cells0H [P0, P1, Obj.var (encSS s)]) ∧ 1 ≤ 1048576) ∧
  SubL [AVal.ptr (Oid.hp 2) 0, AVal.str l1] [AVal.ptr (Oid.hp 2) 0, AVal.str l1] ∧
  [P0, P1, Obj.var (encSS s)] =
  [p0H [P0, P1, Obj.var (encSS s)], p1H [P0, P1, Obj.var (encSS s)],
  Obj.var (cells0H [P0, P1, Obj.var (encSS s)])]) then
  bif n9 == 0 then
  k
  (Out.ret (AVal.tuple [])
  [p0H [P0, P1, Obj.var (encSS s)], p1H [P0, P1, Obj.var (encSS s)],
  Obj.var (encSS (S (cells0H [P0, P1, Obj.var (encSS s)]) l1).s)])
  else
  k
  (Out.panic (errV n9)
  [p0H [P0, P1, Obj.var (encSS s)], p1H [P0, P1, Obj.var (encSS s)],
  Obj.var (encSS (S (cells0H [P0, P1, Obj.var (encSS s)]) l1).s)])
  else none) := by kernel_rfl
noncomputable def layE0 : Lay := Lay.nil.addF 70 elmTold
theorem smend_fun (s : SS) (P0 P1 : Obj) (k : Out → Ans) : iFun Tryz.prog (layE0.hd Tryz.prog) layE0.fhs 0 54 [.ptr (.hp 2) 0] [P0, P1, .var (encSS s)] k = (
  bif !decide (elmK s.el ≤ 3) then k (Out.panic (AVal.iface 25 (AVal.int IntKind.i64 91)) [P0, P1, Obj.var (encSS s)])
  else
  bif elmK s.el == 0 then
  k
  (Out.ret (AVal.tuple [])
  [P0, P1,
  Obj.var
  [AVal.int IntKind.i64 0, AVal.str [], AVal.str [], AVal.int IntKind.u8 0, AVal.str [], AVal.str [],
  AVal.int IntKind.i64 0, AVal.str []]])
  else
  k
  (Out.ret (AVal.tuple [])
  [P0, P1,
  Obj.var
  [AVal.int IntKind.i64 (IntKind.i64.wrap (IntKind.i64.wrap (17 + elmK s.el) - 1)), AVal.str s.el,
                AVal.str [], AVal.int IntKind.u8 0, AVal.str [], AVal.str [], AVal.int IntKind.i64 0, AVal.str []]])) := by kernel_rfl
noncomputable def layW0 (B : Int → Bool) (E : F0) : Lay := ((Lay.nil.addF 52 (c8Told B)).addF 69 lowTold).addF 54 (m0Told E)
theorem smwithin_fun (B : Int → Bool) (E : F0) (s : SS) (c : UInt8) (P0 P1 : Obj) (k : Out → Ans) : iFun Tryz.prog ((layW0 B E).hd Tryz.prog) (layW0 B E).fhs 0 37 [.ptr (.hp 2) 0, .int .u8 c.toNat] [P0, P1, .var (encSS s)] k = (
 let n0 : Int := (↑c.toNat : Int);
 let n1 : Int := (E (cells0H [P0, P1, Obj.var (encSS s)])).e;
  bif okc n0 then
  bif B n0 then
  k
  (Out.ret (AVal.tuple [])
  [P0, P1,
  Obj.var
  [AVal.int IntKind.i64 5, AVal.str s.el, AVal.str [], AVal.int IntKind.u8 0, AVal.str [], AVal.str [],
  AVal.int IntKind.i64 0, AVal.str []]])
  else
  bif n0 == 47 then
  k
  (Out.ret (AVal.tuple [])
  [P0, P1,
  Obj.var
  [AVal.int IntKind.i64 12, AVal.str s.el, AVal.str [], AVal.int IntKind.u8 0, AVal.str [], AVal.str [],
  AVal.int IntKind.i64 0, AVal.str []]])
  else
  bif n0 == 62 then
  bif
  tst
  (OkR (cells0H [P0, P1, Obj.var (encSS s)]) ∧
  SubL [AVal.ptr (Oid.hp 2) 0] [AVal.ptr (Oid.hp 2) 0] ∧
  [P0, P1, Obj.var (encSS s)] =
  [p0H [P0, P1, Obj.var (encSS s)], p1H [P0, P1, Obj.var (encSS s)],
  Obj.var (cells0H [P0, P1, Obj.var (encSS s)])]) then
  bif n1 == 0 then
  k
  (Out.ret (AVal.tuple [])
  [p0H [P0, P1, Obj.var (encSS s)], p1H [P0, P1, Obj.var (encSS s)],
  Obj.var (encSS (E (cells0H [P0, P1, Obj.var (encSS s)])).s)])
  else
  k
  (Out.panic (errV n1)
  [p0H [P0, P1, Obj.var (encSS s)], p1H [P0, P1, Obj.var (encSS s)],
  Obj.var (encSS (E (cells0H [P0, P1, Obj.var (encSS s)])).s)])
  else none
  else
  k
  (Out.ret (AVal.tuple [])
  [P0, P1,
  Obj.var
  [AVal.int IntKind.i64 6, AVal.str s.el, AVal.str [lowC (byteOf [AVal.int IntKind.u8 n0])],
  AVal.int IntKind.u8 0, AVal.str [], AVal.str [], AVal.int IntKind.i64 0, AVal.str []]])
  else none) := by kernel_rfl
noncomputable def layT0 (B : Int → Bool) (W : FC) : Lay := ((Lay.nil.addF 52 (c8Told B)).addF 69 lowTold).addF 37 (mcTold okT W)
theorem smtag_fun (B : Int → Bool) (W : FC) (s : SS) (c : UInt8) (P0 P1 : Obj) (k : Out → Ans) : iFun Tryz.prog ((layT0 B W).hd Tryz.prog) (layT0 B W).fhs 0 36 [.ptr (.hp 2) 0, .int .u8 c.toNat] [P0, P1, .var (encSS s)] k = (
 let n0 : Int := (↑c.toNat : Int);
 let c1 : Bool := okc n0;
 let n2 : Int := (W (cells0H [P0, P1, Obj.var (encSS s)]) n0).e;
 let n3 : Int := (↑(List.length s.el) : Int);
  bif c1 then
  bif bif bif B n0 then true else n0 == 47 then true else n0 == 62 then
  bif
  tst
  (((OkR (cells0H [P0, P1, Obj.var (encSS s)]) ∧ okT (cells0H [P0, P1, Obj.var (encSS s)])) ∧ c1 = true) ∧
  SubL [AVal.ptr (Oid.hp 2) 0, AVal.int IntKind.u8 n0] [AVal.ptr (Oid.hp 2) 0, AVal.int IntKind.u8 n0] ∧
  [P0, P1, Obj.var (encSS s)] =
  [p0H [P0, P1, Obj.var (encSS s)], p1H [P0, P1, Obj.var (encSS s)],
  Obj.var (cells0H [P0, P1, Obj.var (encSS s)])]) then
  bif n2 == 0 then
  k
  (Out.ret (AVal.tuple [])
  [p0H [P0, P1, Obj.var (encSS s)], p1H [P0, P1, Obj.var (encSS s)],
  Obj.var (encSS (W (cells0H [P0, P1, Obj.var (encSS s)]) n0).s)])
  else
  k
  (Out.panic (errV n2)
  [p0H [P0, P1, Obj.var (encSS s)], p1H [P0, P1, Obj.var (encSS s)],
  Obj.var (encSS (W (cells0H [P0, P1, Obj.var (encSS s)]) n0).s)])
  else none
  else
  bif s.k == 4 then
  bif !decide (n3 < 33) then k (Out.panic (AVal.iface 25 (AVal.int IntKind.i64 5)) [P0, P1, Obj.var (encSS s)])
  else
  bif decide (List.length s.el + 1 ≤ 4611686018427387904) then
  k
  (Out.ret (AVal.tuple [])
  [P0, P1,
  Obj.var
  [AVal.int IntKind.i64 s.k, AVal.str (List.append s.el (lowM [byteOf [AVal.int IntKind.u8 n0]])),
  AVal.str s.ar, AVal.int IntKind.u8 (↑s.dl.toNat : Int), AVal.str s.pe, AVal.str s.rf,
  AVal.int IntKind.i64 s.pt, AVal.str s.wd]])
  else none
  else
  bif !decide (n3 < 32) then k (Out.panic (AVal.iface 25 (AVal.int IntKind.i64 5)) [P0, P1, Obj.var (encSS s)])
  else
  bif decide (List.length s.el + 1 ≤ 4611686018427387904) then
  k
  (Out.ret (AVal.tuple [])
  [P0, P1,
  Obj.var
  [AVal.int IntKind.i64 s.k, AVal.str (List.append s.el (lowM [byteOf [AVal.int IntKind.u8 n0]])),
  AVal.str s.ar, AVal.int IntKind.u8 (↑s.dl.toNat : Int), AVal.str s.pe, AVal.str s.rf,
  AVal.int IntKind.i64 s.pt, AVal.str s.wd]])
  else none
  else none) := by kernel_rfl
theorem smattr_fun (B : Int → Bool) (W : FC) (s : SS) (c : UInt8) (P0 P1 : Obj) (k : Out → Ans) : iFun Tryz.prog ((layT0 B W).hd Tryz.prog) (layT0 B W).fhs 0 38 [.ptr (.hp 2) 0, .int .u8 c.toNat] [P0, P1, .var (encSS s)] k = (
 let n0 : Int := (↑c.toNat : Int);
 let c1 : Bool := okc n0;
 let n2 : Int := (W (cells0H [P0, P1, Obj.var (encSS s)]) n0).e;
  bif c1 then
  bif B n0 then
  k
  (Out.ret (AVal.tuple [])
  [P0, P1,
  Obj.var
  [AVal.int IntKind.i64 7, AVal.str s.el, AVal.str s.ar, AVal.int IntKind.u8 (↑s.dl.toNat : Int),
  AVal.str s.pe, AVal.str s.rf, AVal.int IntKind.i64 s.pt, AVal.str s.wd]])
  else
  bif n0 == 61 then
  k
  (Out.ret (AVal.tuple [])
  [P0, P1,
  Obj.var
  [AVal.int IntKind.i64 8, AVal.str s.el, AVal.str s.ar, AVal.int IntKind.u8 (↑s.dl.toNat : Int),
  AVal.str s.pe, AVal.str s.rf, AVal.int IntKind.i64 s.pt, AVal.str s.wd]])
  else
  bif bif bif n0 == 47 then true else n0 == 62 then true else s.k == 7 then
  bif
  tst
  (((OkR (cells0H [P0, P1, Obj.var (encSS s)]) ∧ okT (cells0H [P0, P1, Obj.var (encSS s)])) ∧ c1 = true) ∧
  SubL [AVal.ptr (Oid.hp 2) 0, AVal.int IntKind.u8 n0] [AVal.ptr (Oid.hp 2) 0, AVal.int IntKind.u8 n0] ∧
  [P0, P1, Obj.var (encSS s)] =
  [p0H [P0, P1, Obj.var (encSS s)], p1H [P0, P1, Obj.var (encSS s)],
  Obj.var (cells0H [P0, P1, Obj.var (encSS s)])]) then
  bif n2 == 0 then
  k
  (Out.ret (AVal.tuple [])
  [p0H [P0, P1, Obj.var (encSS s)], p1H [P0, P1, Obj.var (encSS s)],
  Obj.var (encSS (W (cells0H [P0, P1, Obj.var (encSS s)]) n0).s)])
  else
  k
  (Out.panic (errV n2)
  [p0H [P0, P1, Obj.var (encSS s)], p1H [P0, P1, Obj.var (encSS s)],
  Obj.var (encSS (W (cells0H [P0, P1, Obj.var (encSS s)]) n0).s)])
  else none
  else
  bif !decide ((↑(List.length s.ar) : Int) < 32) then
  k (Out.panic (AVal.iface 25 (AVal.int IntKind.i64 5)) [P0, P1, Obj.var (encSS s)])
  else
  bif decide (List.length s.ar + 1 ≤ 4611686018427387904) then
  k
  (Out.ret (AVal.tuple [])
  [P0, P1,
  Obj.var
  [AVal.int IntKind.i64 s.k, AVal.str s.el,
  AVal.str (List.append s.ar (lowM [byteOf [AVal.int IntKind.u8 n0]])),
  AVal.int IntKind.u8 (↑s.dl.toNat : Int), AVal.str s.pe, AVal.str s.rf, AVal.int IntKind.i64 s.pt,
  AVal.str s.wd]])
  else none
  else none) := by kernel_rfl
noncomputable def layA0 (B : Int → Bool) (E : F0) (C : FC) : Lay := ((Lay.nil.addF 52 (c8Told B)).addF 54 (m0Told E)).addF 33 (mcTold okT C)
theorem smwant_fun (B : Int → Bool) (E : F0) (C : FC) (s : SS) (c : UInt8) (P0 P1 : Obj) (k : Out → Ans) : iFun Tryz.prog ((layA0 B E C).hd Tryz.prog) (layA0 B E C).fhs 0 39 [.ptr (.hp 2) 0, .int .u8 c.toNat] [P0, P1, .var (encSS s)] k = (
 let n0 : Int := (↑c.toNat : Int);
 let c1 : Bool := okc n0;
 let n2 : Int := (E (cells0H [P0, P1, Obj.var (encSS s)])).e;
 let n3 : Int :=
  (C
  (cells0H
  [P0, P1,
  Obj.var
  [AVal.int IntKind.i64 10, AVal.str s.el, AVal.str s.ar, AVal.int IntKind.u8 (↑s.dl.toNat : Int),
  AVal.str s.pe, AVal.str s.rf, AVal.int IntKind.i64 s.pt, AVal.str s.wd]])
  n0).e;
  bif c1 then
  bif B n0 then k (Out.ret (AVal.tuple []) [P0, P1, Obj.var (encSS s)])
  else
  bif bif n0 == 34 then true else n0 == 39 then
  k
  (Out.ret (AVal.tuple [])
  [P0, P1,
  Obj.var
  [AVal.int IntKind.i64 9, AVal.str s.el, AVal.str s.ar, AVal.int IntKind.u8 n0, AVal.str s.pe,
  AVal.str s.rf, AVal.int IntKind.i64 s.pt, AVal.str s.wd]])
  else
  bif n0 == 62 then
  bif
  tst
  (OkR (cells0H [P0, P1, Obj.var (encSS s)]) ∧
  SubL [AVal.ptr (Oid.hp 2) 0] [AVal.ptr (Oid.hp 2) 0] ∧
  [P0, P1, Obj.var (encSS s)] =
  [p0H [P0, P1, Obj.var (encSS s)], p1H [P0, P1, Obj.var (encSS s)],
  Obj.var (cells0H [P0, P1, Obj.var (encSS s)])]) then
  bif n2 == 0 then
  k
  (Out.ret (AVal.tuple [])
  [p0H [P0, P1, Obj.var (encSS s)], p1H [P0, P1, Obj.var (encSS s)],
  Obj.var (encSS (E (cells0H [P0, P1, Obj.var (encSS s)])).s)])
  else
  k
  (Out.panic (errV n2)
  [p0H [P0, P1, Obj.var (encSS s)], p1H [P0, P1, Obj.var (encSS s)],
  Obj.var (encSS (E (cells0H [P0, P1, Obj.var (encSS s)])).s)])
  else none
  else
  bif
  tst
  (((OkR
  (cells0H
  [P0, P1,
  Obj.var
  [AVal.int IntKind.i64 10, AVal.str s.el, AVal.str s.ar,
  AVal.int IntKind.u8 (↑s.dl.toNat : Int), AVal.str s.pe, AVal.str s.rf,
  AVal.int IntKind.i64 s.pt, AVal.str s.wd]]) ∧
  okT
  (cells0H
  [P0, P1,
  Obj.var
  [AVal.int IntKind.i64 10, AVal.str s.el, AVal.str s.ar,
  AVal.int IntKind.u8 (↑s.dl.toNat : Int), AVal.str s.pe, AVal.str s.rf,
  AVal.int IntKind.i64 s.pt, AVal.str s.wd]])) ∧
  c1 = true) ∧
  SubL [AVal.ptr (Oid.hp 2) 0, AVal.int IntKind.u8 n0] [AVal.ptr (Oid.hp 2) 0, AVal.int IntKind.u8 n0] ∧
  [P0, P1,
  Obj.var
  [AVal.int IntKind.i64 10, AVal.str s.el, AVal.str s.ar, AVal.int IntKind.u8 (↑s.dl.toNat : Int),
  AVal.str s.pe, AVal.str s.rf, AVal.int IntKind.i64 s.pt, AVal.str s.wd]] =
  [p0H
  [P0, P1,
  Obj.var
  [AVal.int IntKind.i64 10, AVal.str s.el, AVal.str s.ar,
  AVal.int IntKind.u8 (↑s.dl.toNat : Int), AVal.str s.pe, AVal.str s.rf,
  AVal.int IntKind.i64 s.pt, AVal.str s.wd]],
  p1H
  [P0, P1,
  Obj.var
  [AVal.int IntKind.i64 10, AVal.str s.el, AVal.str s.ar,
  AVal.int IntKind.u8 (↑s.dl.toNat : Int), AVal.str s.pe, AVal.str s.rf,
  AVal.int IntKind.i64 s.pt, AVal.str s.wd]],
  Obj.var
  (cells0H
  [P0, P1,
  Obj.var
  [AVal.int IntKind.i64 10, AVal.str s.el, AVal.str s.ar,
  AVal.int IntKind.u8 (↑s.dl.toNat : Int), AVal.str s.pe, AVal.str s.rf,
  AVal.int IntKind.i64 s.pt, AVal.str s.wd]])]) then
  bif n3 == 0 then
  k
  (Out.ret (AVal.tuple [])
  [p0H
  [P0, P1,
  Obj.var
  [AVal.int IntKind.i64 10, AVal.str s.el, AVal.str s.ar, AVal.int IntKind.u8 (↑s.dl.toNat : Int),
  AVal.str s.pe, AVal.str s.rf, AVal.int IntKind.i64 s.pt, AVal.str s.wd]],
  p1H
  [P0, P1,
  Obj.var
  [AVal.int IntKind.i64 10, AVal.str s.el, AVal.str s.ar, AVal.int IntKind.u8 (↑s.dl.toNat : Int),
  AVal.str s.pe, AVal.str s.rf, AVal.int IntKind.i64 s.pt, AVal.str s.wd]],
  Obj.var
  (encSS
  (C
  (cells0H
  [P0, P1,
  Obj.var
  [AVal.int IntKind.i64 10, AVal.str s.el, AVal.str s.ar,
  AVal.int IntKind.u8 (↑s.dl.toNat : Int), AVal.str s.pe, AVal.str s.rf,
  AVal.int IntKind.i64 s.pt, AVal.str s.wd]])
  n0).s)])
  else
  k
  (Out.panic (errV n3)
  [p0H
  [P0, P1,
  Obj.var
  [AVal.int IntKind.i64 10, AVal.str s.el, AVal.str s.ar, AVal.int IntKind.u8 (↑s.dl.toNat : Int),
  AVal.str s.pe, AVal.str s.rf, AVal.int IntKind.i64 s.pt, AVal.str s.wd]],
  p1H
  [P0, P1,
  Obj.var
  [AVal.int IntKind.i64 10, AVal.str s.el, AVal.str s.ar, AVal.int IntKind.u8 (↑s.dl.toNat : Int),
  AVal.str s.pe, AVal.str s.rf, AVal.int IntKind.i64 s.pt, AVal.str s.wd]],
  Obj.var
  (encSS
  (C
  (cells0H
  [P0, P1,
  Obj.var
  [AVal.int IntKind.i64 10, AVal.str s.el, AVal.str s.ar,
  AVal.int IntKind.u8 (↑s.dl.toNat : Int), AVal.str s.pe, AVal.str s.rf,
  AVal.int IntKind.i64 s.pt, AVal.str s.wd]])
  n0).s)])
  else none
  else none) := by kernel_rfl
noncomputable def layV0 (B : Int → Bool) (L : F0) (W C : FC) : Lay := (((Lay.nil.addF 52 (c8Told B)).addF 49 (m0Told L)).addF 33 (mcTold okT C)).addF 37 (mcTold okT W)
theorem smval_fun (B : Int → Bool) (L : F0) (W C : FC) (s : SS) (c : UInt8) (P0 P1 : Obj) (k : Out → Ans) : iFun Tryz.prog ((layV0 B L W C).hd Tryz.prog) (layV0 B L W C).fhs 0 40 [.ptr (.hp 2) 0, .int .u8 c.toNat] [P0, P1, .var (encSS s)] k = (
 let n0 : Int := (↑c.toNat : Int);
 let c1 : Bool :=
  tst
  (OkR (cells0H [P0, P1, Obj.var (encSS s)]) ∧
  SubL [AVal.ptr (Oid.hp 2) 0] [AVal.ptr (Oid.hp 2) 0] ∧
  [P0, P1, Obj.var (encSS s)] =
  [p0H [P0, P1, Obj.var (encSS s)], p1H [P0, P1, Obj.var (encSS s)],
  Obj.var (cells0H [P0, P1, Obj.var (encSS s)])]);
 let n2 : Int := (L (cells0H [P0, P1, Obj.var (encSS s)])).e;
 let c3 : Bool := n2 == 0;
 let c4 : Bool := okc n0;
 let n5 : Int :=
  (W
  (cells0H
  [p0H [P0, P1, Obj.var (encSS s)], p1H [P0, P1, Obj.var (encSS s)],
  Obj.var (encSS (L (cells0H [P0, P1, Obj.var (encSS s)])).s)])
  n0).e;
 let n6 : Int := (C (cells0H [P0, P1, Obj.var (encSS s)]) n0).e;
  bif bif s.k == 9 then n0 == (↑s.dl.toNat : Int) else false then
  bif c1 then
  bif c3 then
  k
  (Out.ret (AVal.tuple [])
  [p0H [P0, P1, Obj.var (encSS s)], p1H [P0, P1, Obj.var (encSS s)],
  Obj.var
  [AVal.int IntKind.i64 11, AVal.str (L (cells0H [P0, P1, Obj.var (encSS s)])).s.el, AVal.str [],
  AVal.int IntKind.u8 0, AVal.str [], AVal.str [], AVal.int IntKind.i64 0, AVal.str []]])
  else
  k
  (Out.panic (errV n2)
  [p0H [P0, P1, Obj.var (encSS s)], p1H [P0, P1, Obj.var (encSS s)],
  Obj.var (encSS (L (cells0H [P0, P1, Obj.var (encSS s)])).s)])
  else none
  else
  bif c4 then
  bif bif s.k == 10 then bif B n0 then true else n0 == 62 else false then
  bif c1 then
  bif c3 then
  bif
  tst
  (((OkR
  (cells0H
  [p0H [P0, P1, Obj.var (encSS s)], p1H [P0, P1, Obj.var (encSS s)],
  Obj.var (encSS (L (cells0H [P0, P1, Obj.var (encSS s)])).s)]) ∧
  okT
  (cells0H
  [p0H [P0, P1, Obj.var (encSS s)], p1H [P0, P1, Obj.var (encSS s)],
  Obj.var (encSS (L (cells0H [P0, P1, Obj.var (encSS s)])).s)])) ∧
  c4 = true) ∧
  SubL [AVal.ptr (Oid.hp 2) 0, AVal.int IntKind.u8 n0] [AVal.ptr (Oid.hp 2) 0, AVal.int IntKind.u8 n0] ∧
  [p0H [P0, P1, Obj.var (encSS s)], p1H [P0, P1, Obj.var (encSS s)],
  Obj.var (encSS (L (cells0H [P0, P1, Obj.var (encSS s)])).s)] =
  [p0H
  [p0H [P0, P1, Obj.var (encSS s)], p1H [P0, P1, Obj.var (encSS s)],
  Obj.var (encSS (L (cells0H [P0, P1, Obj.var (encSS s)])).s)],
  p1H
  [p0H [P0, P1, Obj.var (encSS s)], p1H [P0, P1, Obj.var (encSS s)],
  Obj.var (encSS (L (cells0H [P0, P1, Obj.var (encSS s)])).s)],
  Obj.var
  (cells0H
  [p0H [P0, P1, Obj.var (encSS s)], p1H [P0, P1, Obj.var (encSS s)],
  Obj.var (encSS (L (cells0H [P0, P1, Obj.var (encSS s)])).s)])]) then
  bif n5 == 0 then
  k
  (Out.ret (AVal.tuple [])
  [p0H
  [p0H [P0, P1, Obj.var (encSS s)], p1H [P0, P1, Obj.var (encSS s)],
  Obj.var (encSS (L (cells0H [P0, P1, Obj.var (encSS s)])).s)],
  p1H
  [p0H [P0, P1, Obj.var (encSS s)], p1H [P0, P1, Obj.var (encSS s)],
  Obj.var (encSS (L (cells0H [P0, P1, Obj.var (encSS s)])).s)],
  Obj.var
  (encSS
  (W
  (cells0H
  [p0H [P0, P1, Obj.var (encSS s)], p1H [P0, P1, Obj.var (encSS s)],
  Obj.var (encSS (L (cells0H [P0, P1, Obj.var (encSS s)])).s)])
  n0).s)])
  else
  k
  (Out.panic (errV n5)
  [p0H
  [p0H [P0, P1, Obj.var (encSS s)], p1H [P0, P1, Obj.var (encSS s)],
  Obj.var (encSS (L (cells0H [P0, P1, Obj.var (encSS s)])).s)],
  p1H
  [p0H [P0, P1, Obj.var (encSS s)], p1H [P0, P1, Obj.var (encSS s)],
  Obj.var (encSS (L (cells0H [P0, P1, Obj.var (encSS s)])).s)],
  Obj.var
  (encSS
  (W
  (cells0H
  [p0H [P0, P1, Obj.var (encSS s)], p1H [P0, P1, Obj.var (encSS s)],
  Obj.var (encSS (L (cells0H [P0, P1, Obj.var (encSS s)])).s)])
  n0).s)])
  else none
  else
  k
  (Out.panic (errV n2)
  [p0H [P0, P1, Obj.var (encSS s)], p1H [P0, P1, Obj.var (encSS s)],
  Obj.var (encSS (L (cells0H [P0, P1, Obj.var (encSS s)])).s)])
  else none
  else
  bif
  tst
  (((OkR (cells0H [P0, P1, Obj.var (encSS s)]) ∧ okT (cells0H [P0, P1, Obj.var (encSS s)])) ∧ c4 = true) ∧
  SubL [AVal.ptr (Oid.hp 2) 0, AVal.int IntKind.u8 n0] [AVal.ptr (Oid.hp 2) 0, AVal.int IntKind.u8 n0] ∧
  [P0, P1, Obj.var (encSS s)] =
  [p0H [P0, P1, Obj.var (encSS s)], p1H [P0, P1, Obj.var (encSS s)],
  Obj.var (cells0H [P0, P1, Obj.var (encSS s)])]) then
  bif n6 == 0 then
  k
  (Out.ret (AVal.tuple [])
  [p0H [P0, P1, Obj.var (encSS s)], p1H [P0, P1, Obj.var (encSS s)],
  Obj.var (encSS (C (cells0H [P0, P1, Obj.var (encSS s)]) n0).s)])
  else
  k
  (Out.panic (errV n6)
  [p0H [P0, P1, Obj.var (encSS s)], p1H [P0, P1, Obj.var (encSS s)],
  Obj.var (encSS (C (cells0H [P0, P1, Obj.var (encSS s)]) n0).s)])
  else none
  else none) := by kernel_rfl
noncomputable def layB0 (L : Int → Bool) (ok : List AVal → Prop) (S : FC) : Lay := ((Lay.nil.addF 50 (c8Told L)).addF 69 lowTold).addF 23 (mcTold ok S)
theorem smbegin_fun (L : Int → Bool) (ok : List AVal → Prop) (S : FC) (s : SS) (c : UInt8) (P0 P1 : Obj) (k : Out → Ans) : iFun Tryz.prog ((layB0 L ok S).hd Tryz.prog) (layB0 L ok S).fhs 0 34 [.ptr (.hp 2) 0, .int .u8 c.toNat] [P0, P1, .var (encSS s)] k = (
 let n0 : Int := (↑c.toNat : Int);
 let c1 : Bool := okc n0;
 let n2 : Int :=
  (S
  (cells0H
  [P0, P1,
  Obj.var
  [AVal.int IntKind.i64 0, AVal.str [], AVal.str [], AVal.int IntKind.u8 0, AVal.str [], AVal.str [],
  AVal.int IntKind.i64 0, AVal.str []]])
  n0).e;
  bif c1 then
  bif L n0 then
  k
  (Out.ret (AVal.tuple [])
  [P0, P1,
  Obj.var
  [AVal.int IntKind.i64 3, AVal.str [lowC (byteOf [AVal.int IntKind.u8 n0])], AVal.str [],
  AVal.int IntKind.u8 0, AVal.str [], AVal.str [], AVal.int IntKind.i64 0, AVal.str []]])
  else
  bif n0 == 47 then
  k
  (Out.ret (AVal.tuple [])
  [P0, P1,
  Obj.var
  [AVal.int IntKind.i64 2, AVal.str [], AVal.str [], AVal.int IntKind.u8 0, AVal.str [], AVal.str [],
  AVal.int IntKind.i64 0, AVal.str []]])
  else
  bif n0 == 33 then
  k
  (Out.ret (AVal.tuple [])
  [P0, P1,
  Obj.var
  [AVal.int IntKind.i64 13, AVal.str [], AVal.str [], AVal.int IntKind.u8 0, AVal.str [], AVal.str [],
  AVal.int IntKind.i64 0, AVal.str []]])
  else
  bif n0 == 63 then
  k
  (Out.ret (AVal.tuple [])
  [P0, P1,
  Obj.var
  [AVal.int IntKind.i64 15, AVal.str [], AVal.str [], AVal.int IntKind.u8 0, AVal.str [], AVal.str [],
  AVal.int IntKind.i64 0, AVal.str []]])
  else
  bif
  tst
  (((OkR
  (cells0H
  [P0, P1,
  Obj.var
  [AVal.int IntKind.i64 0, AVal.str [], AVal.str [], AVal.int IntKind.u8 0, AVal.str [],
  AVal.str [], AVal.int IntKind.i64 0, AVal.str []]]) ∧
  ok
  (cells0H
  [P0, P1,
  Obj.var
  [AVal.int IntKind.i64 0, AVal.str [], AVal.str [], AVal.int IntKind.u8 0, AVal.str [],
  AVal.str [], AVal.int IntKind.i64 0, AVal.str []]])) ∧
  c1 = true) ∧
  SubL [AVal.ptr (Oid.hp 2) 0, AVal.int IntKind.u8 n0] [AVal.ptr (Oid.hp 2) 0, AVal.int IntKind.u8 n0] ∧
  [P0, P1,
  Obj.var
  [AVal.int IntKind.i64 0, AVal.str [], AVal.str [], AVal.int IntKind.u8 0, AVal.str [],
  AVal.str [], AVal.int IntKind.i64 0, AVal.str []]] =
  [p0H
  [P0, P1,
  Obj.var
  [AVal.int IntKind.i64 0, AVal.str [], AVal.str [], AVal.int IntKind.u8 0, AVal.str [],
  AVal.str [], AVal.int IntKind.i64 0, AVal.str []]],
  p1H
  [P0, P1,
  Obj.var
  [AVal.int IntKind.i64 0, AVal.str [], AVal.str [], AVal.int IntKind.u8 0, AVal.str [],
  AVal.str [], AVal.int IntKind.i64 0, AVal.str []]],
  Obj.var
  (cells0H
  [P0, P1,
  Obj.var
  [AVal.int IntKind.i64 0, AVal.str [], AVal.str [], AVal.int IntKind.u8 0, AVal.str [],
  AVal.str [], AVal.int IntKind.i64 0, AVal.str []]])]) then
  bif n2 == 0 then
  k
  (Out.ret (AVal.tuple [])
  [p0H
  [P0, P1,
  Obj.var
  [AVal.int IntKind.i64 0, AVal.str [], AVal.str [], AVal.int IntKind.u8 0, AVal.str [],
  AVal.str [], AVal.int IntKind.i64 0, AVal.str []]],
  p1H
  [P0, P1,
  Obj.var
  [AVal.int IntKind.i64 0, AVal.str [], AVal.str [], AVal.int IntKind.u8 0, AVal.str [],
  AVal.str [], AVal.int IntKind.i64 0, AVal.str []]],
  Obj.var
  (encSS
  (S
  (cells0H
  [P0, P1,
  Obj.var
  [AVal.int IntKind.i64 0, AVal.str [], AVal.str [], AVal.int IntKind.u8 0, AVal.str [],
  AVal.str [], AVal.int IntKind.i64 0, AVal.str []]])
  n0).s)])
  else
  k
  (Out.panic (errV n2)
  [p0H
  [P0, P1,
  Obj.var
  [AVal.int IntKind.i64 0, AVal.str [], AVal.str [], AVal.int IntKind.u8 0, AVal.str [],
  AVal.str [], AVal.int IntKind.i64 0, AVal.str []]],
  p1H
  [P0, P1,
  Obj.var
  [AVal.int IntKind.i64 0, AVal.str [], AVal.str [], AVal.int IntKind.u8 0, AVal.str [],
  AVal.str [], AVal.int IntKind.i64 0, AVal.str []]],
  Obj.var
  (encSS
  (S
  (cells0H
  [P0, P1,
  Obj.var
  [AVal.int IntKind.i64 0, AVal.str [], AVal.str [], AVal.int IntKind.u8 0, AVal.str [],
  AVal.str [], AVal.int IntKind.i64 0, AVal.str []]])
  n0).s)])
  else none
  else none) := by kernel_rfl
theorem smbeginE_fun (L : Int → Bool) (ok : List AVal → Prop) (S : FC) (s : SS) (c : UInt8) (P0 P1 : Obj) (k : Out → Ans) : iFun Tryz.prog ((layB0 L ok S).hd Tryz.prog) (layB0 L ok S).fhs 0 35 [.ptr (.hp 2) 0, .int .u8 c.toNat] [P0, P1, .var (encSS s)] k = (
 let n0 : Int := (↑c.toNat : Int);
  bif okc n0 then
  bif L n0 then
  k
  (Out.ret (AVal.tuple [])
  [P0, P1,
  Obj.var
  [AVal.int IntKind.i64 4, AVal.str [47, lowC (byteOf [AVal.int IntKind.u8 n0])], AVal.str [],
  AVal.int IntKind.u8 0, AVal.str [], AVal.str [], AVal.int IntKind.i64 0, AVal.str []]])
  else
  bif n0 == 62 then
  k
  (Out.ret (AVal.tuple [])
  [P0, P1,
  Obj.var
  [AVal.int IntKind.i64 0, AVal.str [], AVal.str [], AVal.int IntKind.u8 0, AVal.str [], AVal.str [],
  AVal.int IntKind.i64 0, AVal.str []]])
  else
  k
  (Out.ret (AVal.tuple [])
  [P0, P1,
  Obj.var
  [AVal.int IntKind.i64 15, AVal.str [], AVal.str [], AVal.int IntKind.u8 0, AVal.str [], AVal.str [],
  AVal.int IntKind.i64 0, AVal.str []]])
  else none) := by kernel_rfl
theorem smrem_fun (L : Int → Bool) (ok : List AVal → Prop) (S : FC) (s : SS) (c : UInt8) (P0 P1 : Obj) (k : Out → Ans) : iFun Tryz.prog ((layB0 L ok S).hd Tryz.prog) (layB0 L ok S).fhs 0 41 [.ptr (.hp 2) 0, .int .u8 c.toNat] [P0, P1, .var (encSS s)] k = (
 let n0 : Int := (↑c.toNat : Int);
 let c1 : Bool := n0 == 45;
 let n2 : Int :=
  (S
  (cells0H
  [P0, P1,
  Obj.var
  [AVal.int IntKind.i64 15, AVal.str s.el, AVal.str s.ar, AVal.int IntKind.u8 (↑s.dl.toNat : Int),
  AVal.str s.pe, AVal.str s.rf, AVal.int IntKind.i64 s.pt, AVal.str s.wd]])
  n0).e;
 let c3 : Bool := s.pe == [45, 45];
  bif bif s.k == 13 then c1 else false then
  k
  (Out.ret (AVal.tuple [])
  [P0, P1,
  Obj.var
  [AVal.int IntKind.i64 14, AVal.str s.el, AVal.str s.ar, AVal.int IntKind.u8 (↑s.dl.toNat : Int),
  AVal.str s.pe, AVal.str s.rf, AVal.int IntKind.i64 s.pt, AVal.str s.wd]])
  else
  bif bif s.k == 14 then c1 else false then
  k
  (Out.ret (AVal.tuple [])
  [P0, P1,
  Obj.var
  [AVal.int IntKind.i64 16, AVal.str s.el, AVal.str s.ar, AVal.int IntKind.u8 (↑s.dl.toNat : Int),
  AVal.str s.pe, AVal.str s.rf, AVal.int IntKind.i64 s.pt, AVal.str s.wd]])
  else
  bif s.k != 16 then
  bif
  tst
  (((OkR
  (cells0H
  [P0, P1,
  Obj.var
  [AVal.int IntKind.i64 15, AVal.str s.el, AVal.str s.ar,
  AVal.int IntKind.u8 (↑s.dl.toNat : Int), AVal.str s.pe, AVal.str s.rf,
  AVal.int IntKind.i64 s.pt, AVal.str s.wd]]) ∧
  ok
  (cells0H
  [P0, P1,
  Obj.var
  [AVal.int IntKind.i64 15, AVal.str s.el, AVal.str s.ar,
  AVal.int IntKind.u8 (↑s.dl.toNat : Int), AVal.str s.pe, AVal.str s.rf,
  AVal.int IntKind.i64 s.pt, AVal.str s.wd]])) ∧
  okc n0 = true) ∧
  SubL [AVal.ptr (Oid.hp 2) 0, AVal.int IntKind.u8 n0] [AVal.ptr (Oid.hp 2) 0, AVal.int IntKind.u8 n0] ∧
  [P0, P1,
  Obj.var
  [AVal.int IntKind.i64 15, AVal.str s.el, AVal.str s.ar, AVal.int IntKind.u8 (↑s.dl.toNat : Int),
  AVal.str s.pe, AVal.str s.rf, AVal.int IntKind.i64 s.pt, AVal.str s.wd]] =
  [p0H
  [P0, P1,
  Obj.var
  [AVal.int IntKind.i64 15, AVal.str s.el, AVal.str s.ar,
  AVal.int IntKind.u8 (↑s.dl.toNat : Int), AVal.str s.pe, AVal.str s.rf,
  AVal.int IntKind.i64 s.pt, AVal.str s.wd]],
  p1H
  [P0, P1,
  Obj.var
  [AVal.int IntKind.i64 15, AVal.str s.el, AVal.str s.ar,
  AVal.int IntKind.u8 (↑s.dl.toNat : Int), AVal.str s.pe, AVal.str s.rf,
  AVal.int IntKind.i64 s.pt, AVal.str s.wd]],
  Obj.var
  (cells0H
  [P0, P1,
  Obj.var
  [AVal.int IntKind.i64 15, AVal.str s.el, AVal.str s.ar,
  AVal.int IntKind.u8 (↑s.dl.toNat : Int), AVal.str s.pe, AVal.str s.rf,
  AVal.int IntKind.i64 s.pt, AVal.str s.wd]])]) then
  bif n2 == 0 then
  k
  (Out.ret (AVal.tuple [])
  [p0H
  [P0, P1,
  Obj.var
  [AVal.int IntKind.i64 15, AVal.str s.el, AVal.str s.ar, AVal.int IntKind.u8 (↑s.dl.toNat : Int),
  AVal.str s.pe, AVal.str s.rf, AVal.int IntKind.i64 s.pt, AVal.str s.wd]],
  p1H
  [P0, P1,
  Obj.var
  [AVal.int IntKind.i64 15, AVal.str s.el, AVal.str s.ar, AVal.int IntKind.u8 (↑s.dl.toNat : Int),
  AVal.str s.pe, AVal.str s.rf, AVal.int IntKind.i64 s.pt, AVal.str s.wd]],
  Obj.var
  (encSS
  (S
  (cells0H
  [P0, P1,
  Obj.var
  [AVal.int IntKind.i64 15, AVal.str s.el, AVal.str s.ar,
  AVal.int IntKind.u8 (↑s.dl.toNat : Int), AVal.str s.pe, AVal.str s.rf,
  AVal.int IntKind.i64 s.pt, AVal.str s.wd]])
  n0).s)])
  else
  k
  (Out.panic (errV n2)
  [p0H
  [P0, P1,
  Obj.var
  [AVal.int IntKind.i64 15, AVal.str s.el, AVal.str s.ar, AVal.int IntKind.u8 (↑s.dl.toNat : Int),
  AVal.str s.pe, AVal.str s.rf, AVal.int IntKind.i64 s.pt, AVal.str s.wd]],
  p1H
  [P0, P1,
  Obj.var
  [AVal.int IntKind.i64 15, AVal.str s.el, AVal.str s.ar, AVal.int IntKind.u8 (↑s.dl.toNat : Int),
  AVal.str s.pe, AVal.str s.rf, AVal.int IntKind.i64 s.pt, AVal.str s.wd]],
  Obj.var
  (encSS
  (S
  (cells0H
  [P0, P1,
  Obj.var
  [AVal.int IntKind.i64 15, AVal.str s.el, AVal.str s.ar,
  AVal.int IntKind.u8 (↑s.dl.toNat : Int), AVal.str s.pe, AVal.str s.rf,
  AVal.int IntKind.i64 s.pt, AVal.str s.wd]])
  n0).s)])
  else none
  else
  bif bif c1 then !c3 else false then
  bif decide (List.length s.pe + 1 ≤ 4611686018427387904) then
  k
  (Out.ret (AVal.tuple [])
  [P0, P1,
  Obj.var
  [AVal.int IntKind.i64 s.k, AVal.str s.el, AVal.str s.ar, AVal.int IntKind.u8 (↑s.dl.toNat : Int),
  AVal.str (List.append s.pe [45]), AVal.str s.rf, AVal.int IntKind.i64 s.pt, AVal.str s.wd]])
  else none
  else
  bif bif n0 == 62 then c3 else false then
  k
  (Out.ret (AVal.tuple [])
  [P0, P1,
  Obj.var
  [AVal.int IntKind.i64 0, AVal.str [], AVal.str [], AVal.int IntKind.u8 0, AVal.str [], AVal.str [],
  AVal.int IntKind.i64 0, AVal.str []]])
  else
  bif n0 != 45 then
  k
  (Out.ret (AVal.tuple [])
  [P0, P1,
  Obj.var
  [AVal.int IntKind.i64 s.k, AVal.str s.el, AVal.str s.ar, AVal.int IntKind.u8 (↑s.dl.toNat : Int),
  AVal.str [], AVal.str s.rf, AVal.int IntKind.i64 s.pt, AVal.str s.wd]])
  else k (Out.ret (AVal.tuple []) [P0, P1, Obj.var (encSS s)])) := by kernel_rfl
noncomputable def layWt (T : Bs → Bs → Bool) : Lay := Lay.nil.addF 71 (startsTold T)
theorem smwaits_fun (T : Bs → Bs → Bool) (s : SS) (t : Bs) (P0 P1 : Obj) (k : Out → Ans) : iFun Tryz.prog ((layWt T).hd Tryz.prog) (layWt T).fhs 0 56 [.ptr (.hp 2) 0, .str t] [P0, P1, .var (encSS s)] k = (
 let l0 : List UInt8 := 60 :: 47 :: s.el;
 let c1 : Bool := decide (List.length t ≤ 1048576);
  bif decide (2 + List.length s.el ≤ 4611686018427387904) then
  bif decide (l0.length ≤ 1048576) && c1 then
  bif c1 then
  k
  (Out.ret (AVal.bool (bif T l0 t then true else bif s.k == 19 then T [60, 33, 45, 45] t else false))
  [P0, P1, Obj.var (encSS s)])
  else none
  else none
  else none) := by kernel_rfl
noncomputable def layPl (S : FX) (L : F0) (C : FC) : Lay := ((Lay.nil.addF 47 (mxTold S)).addF 49 (m0Told L)).addF 33 (mcTold okT C)
theorem smplain_fun (S : FX) (L : F0) (C : FC) (s : SS) (c : UInt8) (P0 P1 : Obj) (k : Out → Ans) : iFun Tryz.prog ((layPl S L C).hd Tryz.prog) (layPl S L C).fhs 0 55 [.ptr (.hp 2) 0, .int .u8 c.toNat] [P0, P1, .var (encSS s)] k = (
 let n0 : Int := (↑c.toNat : Int);
 let c1 : Bool := s.k == 17;
 let n2 : Int := (L (cells0H [P0, P1, Obj.var (encSS s)])).e;
 let n3 : Int := (C (cells0H [P0, P1, Obj.var (encSS s)]) n0).e;
 let l4 : List UInt8 := [byteOf [AVal.int IntKind.u8 n0]];
 let n5 : Int := (S (cells0H [P0, P1, Obj.var (encSS s)]) l4).e;
  bif n0 == 60 then
  bif c1 then
  bif
  tst
  (OkR (cells0H [P0, P1, Obj.var (encSS s)]) ∧
  SubL [AVal.ptr (Oid.hp 2) 0] [AVal.ptr (Oid.hp 2) 0] ∧
  [P0, P1, Obj.var (encSS s)] =
  [p0H [P0, P1, Obj.var (encSS s)], p1H [P0, P1, Obj.var (encSS s)],
  Obj.var (cells0H [P0, P1, Obj.var (encSS s)])]) then
  bif n2 == 0 then
  k
  (Out.ret (AVal.tuple [])
  [p0H [P0, P1, Obj.var (encSS s)], p1H [P0, P1, Obj.var (encSS s)],
  Obj.var
  [AVal.int IntKind.i64 (L (cells0H [P0, P1, Obj.var (encSS s)])).s.k,
  AVal.str (L (cells0H [P0, P1, Obj.var (encSS s)])).s.el,
  AVal.str (L (cells0H [P0, P1, Obj.var (encSS s)])).s.ar,
  AVal.int IntKind.u8 (↑(L (cells0H [P0, P1, Obj.var (encSS s)])).s.dl.toNat : Int), AVal.str [60],
  AVal.str (L (cells0H [P0, P1, Obj.var (encSS s)])).s.rf,
  AVal.int IntKind.i64 (L (cells0H [P0, P1, Obj.var (encSS s)])).s.pt,
  AVal.str (L (cells0H [P0, P1, Obj.var (encSS s)])).s.wd]])
  else
  k
  (Out.panic (errV n2)
  [p0H [P0, P1, Obj.var (encSS s)], p1H [P0, P1, Obj.var (encSS s)],
  Obj.var (encSS (L (cells0H [P0, P1, Obj.var (encSS s)])).s)])
  else none
  else
  k
  (Out.ret (AVal.tuple [])
  [P0, P1,
  Obj.var
  [AVal.int IntKind.i64 s.k, AVal.str s.el, AVal.str s.ar, AVal.int IntKind.u8 (↑s.dl.toNat : Int),
  AVal.str [60], AVal.str s.rf, AVal.int IntKind.i64 s.pt, AVal.str s.wd]])
  else
  bif c1 then
  bif
  tst
  (((OkR (cells0H [P0, P1, Obj.var (encSS s)]) ∧ okT (cells0H [P0, P1, Obj.var (encSS s)])) ∧ okc n0 = true) ∧
  SubL [AVal.ptr (Oid.hp 2) 0, AVal.int IntKind.u8 n0] [AVal.ptr (Oid.hp 2) 0, AVal.int IntKind.u8 n0] ∧
  [P0, P1, Obj.var (encSS s)] =
  [p0H [P0, P1, Obj.var (encSS s)], p1H [P0, P1, Obj.var (encSS s)],
  Obj.var (cells0H [P0, P1, Obj.var (encSS s)])]) then
  bif n3 == 0 then
  k
  (Out.ret (AVal.tuple [])
  [p0H [P0, P1, Obj.var (encSS s)], p1H [P0, P1, Obj.var (encSS s)],
  Obj.var (encSS (C (cells0H [P0, P1, Obj.var (encSS s)]) n0).s)])
  else
  k
  (Out.panic (errV n3)
  [p0H [P0, P1, Obj.var (encSS s)], p1H [P0, P1, Obj.var (encSS s)],
  Obj.var (encSS (C (cells0H [P0, P1, Obj.var (encSS s)]) n0).s)])
  else none
  else
  bif
  tst
  ((OkR (cells0H [P0, P1, Obj.var (encSS s)]) ∧ 1 ≤ 1048576) ∧
  SubL [AVal.ptr (Oid.hp 2) 0, AVal.str l4] [AVal.ptr (Oid.hp 2) 0, AVal.str l4] ∧
  [P0, P1, Obj.var (encSS s)] =
  [p0H [P0, P1, Obj.var (encSS s)], p1H [P0, P1, Obj.var (encSS s)],
  Obj.var (cells0H [P0, P1, Obj.var (encSS s)])]) then
  bif n5 == 0 then
  k
  (Out.ret (AVal.tuple [])
  [p0H [P0, P1, Obj.var (encSS s)], p1H [P0, P1, Obj.var (encSS s)],
  Obj.var (encSS (S (cells0H [P0, P1, Obj.var (encSS s)]) l4).s)])
  else
  k
  (Out.panic (errV n5)
  [p0H [P0, P1, Obj.var (encSS s)], p1H [P0, P1, Obj.var (encSS s)],
  Obj.var (encSS (S (cells0H [P0, P1, Obj.var (encSS s)]) l4).s)])
  else none) := by kernel_rfl
noncomputable def wtTold (F : List AVal → Bs → Bool) : FSp := mkF (fun xs H => (mhD H, aS xs 1)) (fun a => OkR a.1.x ∧ a.2.length ≤ 100000) (fun a => [.ptr (.hp 2) 0, .str a.2]) (fun a => [a.1.P0, a.1.P1, .var a.1.x]) (fun a k => k (.ret (.bool (F a.1.x a.2)) [a.1.P0, a.1.P1, .var a.1.x]))
noncomputable def layRw (B : Int → Bool) (S : FX) (W : List AVal → Bs → Bool) (P T : FC) : Lay := ((((Lay.nil.addF 52 (c8Told B)).addF 47 (mxTold S)).addF 56 (wtTold W)).addF 55 (mcTold okT P)).addF 36 (mcTold okT T)
theorem smraw_fun (B : Int → Bool) (S : FX) (W : List AVal → Bs → Bool) (P T : FC) (s : SS) (c : UInt8) (P0 P1 : Obj) (k : Out → Ans) : iFun Tryz.prog ((layRw B S W P T).hd Tryz.prog) (layRw B S W P T).fhs 0 42 [.ptr (.hp 2) 0, .int .u8 c.toNat] [P0, P1, .var (encSS s)] k = (
 let n0 : Int := (↑c.toNat : Int);
 let c1 : Bool := okc n0;
 let n2 : Int := (P (cells0H [P0, P1, Obj.var (encSS s)]) n0).e;
 let l3 : List UInt8 := List.append s.pe [byteOf [AVal.int IntKind.u8 n0]];
 let n4 : Int := (↑(List.length s.pe) : Int);
 let c5 : Bool := n4 == IntKind.i64.wrap ((↑(List.length s.el) : Int) + 2);
 let n6 : Int :=
  (T
  (cells0H
  [p0H [P0, P1, Obj.var (encSS s)], p1H [P0, P1, Obj.var (encSS s)],
  Obj.var
  [AVal.int IntKind.i64 4, AVal.str (47 :: s.el), AVal.str [], AVal.int IntKind.u8 0, AVal.str [],
  AVal.str [], AVal.int IntKind.i64 0, AVal.str []]])
  n0).e;
 let n7 : Int :=
  (S
  (cells0H
  [p0H [P0, P1, Obj.var (encSS s)], p1H [P0, P1, Obj.var (encSS s)],
  Obj.var
  [AVal.int IntKind.i64 s.k, AVal.str s.el, AVal.str s.ar, AVal.int IntKind.u8 (↑s.dl.toNat : Int),
  AVal.str [], AVal.str s.rf, AVal.int IntKind.i64 s.pt, AVal.str s.wd]])
  s.pe).e;
 let n8 : Int :=
  (P
  (cells0H
  [p0H
  [p0H [P0, P1, Obj.var (encSS s)], p1H [P0, P1, Obj.var (encSS s)],
  Obj.var
  [AVal.int IntKind.i64 s.k, AVal.str s.el, AVal.str s.ar, AVal.int IntKind.u8 (↑s.dl.toNat : Int),
  AVal.str [], AVal.str s.rf, AVal.int IntKind.i64 s.pt, AVal.str s.wd]],
  p1H
  [p0H [P0, P1, Obj.var (encSS s)], p1H [P0, P1, Obj.var (encSS s)],
  Obj.var
  [AVal.int IntKind.i64 s.k, AVal.str s.el, AVal.str s.ar, AVal.int IntKind.u8 (↑s.dl.toNat : Int),
  AVal.str [], AVal.str s.rf, AVal.int IntKind.i64 s.pt, AVal.str s.wd]],
  Obj.var
  (encSS
  (S
  (cells0H
  [p0H [P0, P1, Obj.var (encSS s)], p1H [P0, P1, Obj.var (encSS s)],
  Obj.var
  [AVal.int IntKind.i64 s.k, AVal.str s.el, AVal.str s.ar,
  AVal.int IntKind.u8 (↑s.dl.toNat : Int), AVal.str [], AVal.str s.rf,
  AVal.int IntKind.i64 s.pt, AVal.str s.wd]])
  s.pe).s)])
  n0).e;
  bif s.pe == [] then
  bif
  tst
  (((OkR (cells0H [P0, P1, Obj.var (encSS s)]) ∧ okT (cells0H [P0, P1, Obj.var (encSS s)])) ∧ c1 = true) ∧
  SubL [AVal.ptr (Oid.hp 2) 0, AVal.int IntKind.u8 n0] [AVal.ptr (Oid.hp 2) 0, AVal.int IntKind.u8 n0] ∧
  [P0, P1, Obj.var (encSS s)] =
  [p0H [P0, P1, Obj.var (encSS s)], p1H [P0, P1, Obj.var (encSS s)],
  Obj.var (cells0H [P0, P1, Obj.var (encSS s)])]) then
  bif n2 == 0 then
  k
  (Out.ret (AVal.tuple [])
  [p0H [P0, P1, Obj.var (encSS s)], p1H [P0, P1, Obj.var (encSS s)],
  Obj.var (encSS (P (cells0H [P0, P1, Obj.var (encSS s)]) n0).s)])
  else
  k
  (Out.panic (errV n2)
  [p0H [P0, P1, Obj.var (encSS s)], p1H [P0, P1, Obj.var (encSS s)],
  Obj.var (encSS (P (cells0H [P0, P1, Obj.var (encSS s)]) n0).s)])
  else none
  else
  bif decide (List.length s.pe + 1 ≤ 4611686018427387904) then
  bif
  tst
  ((OkR (cells0H [P0, P1, Obj.var (encSS s)]) ∧ l3.length ≤ 100000) ∧
  SubL [AVal.ptr (Oid.hp 2) 0, AVal.str l3] [AVal.ptr (Oid.hp 2) 0, AVal.str l3] ∧
  [P0, P1, Obj.var (encSS s)] =
  [p0H [P0, P1, Obj.var (encSS s)], p1H [P0, P1, Obj.var (encSS s)],
  Obj.var (cells0H [P0, P1, Obj.var (encSS s)])]) then
  bif W (cells0H [P0, P1, Obj.var (encSS s)]) l3 then
  bif !!l3 == [60, 33, 45, 45] then
  k
  (Out.panic (AVal.iface 25 (AVal.int IntKind.i64 94))
  [p0H [P0, P1, Obj.var (encSS s)], p1H [P0, P1, Obj.var (encSS s)],
  Obj.var (cells0H [P0, P1, Obj.var (encSS s)])])
  else
  k
  (Out.ret (AVal.tuple [])
  [p0H [P0, P1, Obj.var (encSS s)], p1H [P0, P1, Obj.var (encSS s)],
  Obj.var
  [AVal.int IntKind.i64 s.k, AVal.str s.el, AVal.str s.ar, AVal.int IntKind.u8 (↑s.dl.toNat : Int),
  AVal.str l3, AVal.str s.rf, AVal.int IntKind.i64 s.pt, AVal.str s.wd]])
  else
  bif decide (1 < n4) || !c5 then
  bif c1 then
  bif
  bif bif c5 then (↑(List.getD s.pe 1 0).toNat : Int) == 47 else false then
  bif bif B n0 then true else n0 == 47 then true else n0 == 62
  else false then
  bif decide (1 + List.length s.el ≤ 4611686018427387904) then
  bif
  tst
  (((OkR
  (cells0H
  [p0H [P0, P1, Obj.var (encSS s)], p1H [P0, P1, Obj.var (encSS s)],
  Obj.var
  [AVal.int IntKind.i64 4, AVal.str (47 :: s.el), AVal.str [], AVal.int IntKind.u8 0,
  AVal.str [], AVal.str [], AVal.int IntKind.i64 0, AVal.str []]]) ∧
  okT
  (cells0H
  [p0H [P0, P1, Obj.var (encSS s)], p1H [P0, P1, Obj.var (encSS s)],
  Obj.var
  [AVal.int IntKind.i64 4, AVal.str (47 :: s.el), AVal.str [], AVal.int IntKind.u8 0,
  AVal.str [], AVal.str [], AVal.int IntKind.i64 0, AVal.str []]])) ∧
  c1 = true) ∧
  SubL [AVal.ptr (Oid.hp 2) 0, AVal.int IntKind.u8 n0]
  [AVal.ptr (Oid.hp 2) 0, AVal.int IntKind.u8 n0] ∧
  [p0H [P0, P1, Obj.var (encSS s)], p1H [P0, P1, Obj.var (encSS s)],
  Obj.var
  [AVal.int IntKind.i64 4, AVal.str (47 :: s.el), AVal.str [], AVal.int IntKind.u8 0,
  AVal.str [], AVal.str [], AVal.int IntKind.i64 0, AVal.str []]] =
  [p0H
  [p0H [P0, P1, Obj.var (encSS s)], p1H [P0, P1, Obj.var (encSS s)],
  Obj.var
  [AVal.int IntKind.i64 4, AVal.str (47 :: s.el), AVal.str [], AVal.int IntKind.u8 0,
  AVal.str [], AVal.str [], AVal.int IntKind.i64 0, AVal.str []]],
  p1H
  [p0H [P0, P1, Obj.var (encSS s)], p1H [P0, P1, Obj.var (encSS s)],
  Obj.var
  [AVal.int IntKind.i64 4, AVal.str (47 :: s.el), AVal.str [], AVal.int IntKind.u8 0,
  AVal.str [], AVal.str [], AVal.int IntKind.i64 0, AVal.str []]],
  Obj.var
  (cells0H
  [p0H [P0, P1, Obj.var (encSS s)], p1H [P0, P1, Obj.var (encSS s)],
  Obj.var
  [AVal.int IntKind.i64 4, AVal.str (47 :: s.el), AVal.str [],
  AVal.int IntKind.u8 0, AVal.str [], AVal.str [], AVal.int IntKind.i64 0,
  AVal.str []]])]) then
  bif n6 == 0 then
  k
  (Out.ret (AVal.tuple [])
  [p0H
  [p0H [P0, P1, Obj.var (encSS s)], p1H [P0, P1, Obj.var (encSS s)],
  Obj.var
  [AVal.int IntKind.i64 4, AVal.str (47 :: s.el), AVal.str [], AVal.int IntKind.u8 0,
  AVal.str [], AVal.str [], AVal.int IntKind.i64 0, AVal.str []]],
  p1H
  [p0H [P0, P1, Obj.var (encSS s)], p1H [P0, P1, Obj.var (encSS s)],
  Obj.var
  [AVal.int IntKind.i64 4, AVal.str (47 :: s.el), AVal.str [], AVal.int IntKind.u8 0,
  AVal.str [], AVal.str [], AVal.int IntKind.i64 0, AVal.str []]],
  Obj.var
  (encSS
  (T
  (cells0H
  [p0H [P0, P1, Obj.var (encSS s)], p1H [P0, P1, Obj.var (encSS s)],
  Obj.var
  [AVal.int IntKind.i64 4, AVal.str (47 :: s.el), AVal.str [],
  AVal.int IntKind.u8 0, AVal.str [], AVal.str [], AVal.int IntKind.i64 0,
  AVal.str []]])
  n0).s)])
  else
  k
  (Out.panic (errV n6)
  [p0H
  [p0H [P0, P1, Obj.var (encSS s)], p1H [P0, P1, Obj.var (encSS s)],
  Obj.var
  [AVal.int IntKind.i64 4, AVal.str (47 :: s.el), AVal.str [], AVal.int IntKind.u8 0,
  AVal.str [], AVal.str [], AVal.int IntKind.i64 0, AVal.str []]],
  p1H
  [p0H [P0, P1, Obj.var (encSS s)], p1H [P0, P1, Obj.var (encSS s)],
  Obj.var
  [AVal.int IntKind.i64 4, AVal.str (47 :: s.el), AVal.str [], AVal.int IntKind.u8 0,
  AVal.str [], AVal.str [], AVal.int IntKind.i64 0, AVal.str []]],
  Obj.var
  (encSS
  (T
  (cells0H
  [p0H [P0, P1, Obj.var (encSS s)], p1H [P0, P1, Obj.var (encSS s)],
  Obj.var
  [AVal.int IntKind.i64 4, AVal.str (47 :: s.el), AVal.str [],
  AVal.int IntKind.u8 0, AVal.str [], AVal.str [], AVal.int IntKind.i64 0,
  AVal.str []]])
  n0).s)])
  else none
  else none
  else
  bif
  tst
  ((OkR
  (cells0H
  [p0H [P0, P1, Obj.var (encSS s)], p1H [P0, P1, Obj.var (encSS s)],
  Obj.var
  [AVal.int IntKind.i64 s.k, AVal.str s.el, AVal.str s.ar,
  AVal.int IntKind.u8 (↑s.dl.toNat : Int), AVal.str [], AVal.str s.rf,
  AVal.int IntKind.i64 s.pt, AVal.str s.wd]]) ∧
  List.length s.pe ≤ 1048576) ∧
  SubL [AVal.ptr (Oid.hp 2) 0, AVal.str s.pe] [AVal.ptr (Oid.hp 2) 0, AVal.str s.pe] ∧
  [p0H [P0, P1, Obj.var (encSS s)], p1H [P0, P1, Obj.var (encSS s)],
  Obj.var
  [AVal.int IntKind.i64 s.k, AVal.str s.el, AVal.str s.ar,
  AVal.int IntKind.u8 (↑s.dl.toNat : Int), AVal.str [], AVal.str s.rf,
  AVal.int IntKind.i64 s.pt, AVal.str s.wd]] =
  [p0H
  [p0H [P0, P1, Obj.var (encSS s)], p1H [P0, P1, Obj.var (encSS s)],
  Obj.var
  [AVal.int IntKind.i64 s.k, AVal.str s.el, AVal.str s.ar,
  AVal.int IntKind.u8 (↑s.dl.toNat : Int), AVal.str [], AVal.str s.rf,
  AVal.int IntKind.i64 s.pt, AVal.str s.wd]],
  p1H
  [p0H [P0, P1, Obj.var (encSS s)], p1H [P0, P1, Obj.var (encSS s)],
  Obj.var
  [AVal.int IntKind.i64 s.k, AVal.str s.el, AVal.str s.ar,
  AVal.int IntKind.u8 (↑s.dl.toNat : Int), AVal.str [], AVal.str s.rf,
  AVal.int IntKind.i64 s.pt, AVal.str s.wd]],
  Obj.var
  (cells0H
  [p0H [P0, P1, Obj.var (encSS s)], p1H [P0, P1, Obj.var (encSS s)],
  Obj.var
  [AVal.int IntKind.i64 s.k, AVal.str s.el, AVal.str s.ar,
  AVal.int IntKind.u8 (↑s.dl.toNat : Int), AVal.str [], AVal.str s.rf,
  AVal.int IntKind.i64 s.pt, AVal.str s.wd]])]) then
  bif n7 == 0 then
  bif
  tst
  (((OkR
  (cells0H
  [p0H
  [p0H [P0, P1, Obj.var (encSS s)], p1H [P0, P1, Obj.var (encSS s)],
  Obj.var
  [AVal.int IntKind.i64 s.k, AVal.str s.el, AVal.str s.ar,
  AVal.int IntKind.u8 (↑s.dl.toNat : Int), AVal.str [], AVal.str s.rf,
  AVal.int IntKind.i64 s.pt, AVal.str s.wd]],
  p1H
  [p0H [P0, P1, Obj.var (encSS s)], p1H [P0, P1, Obj.var (encSS s)],
  Obj.var
  [AVal.int IntKind.i64 s.k, AVal.str s.el, AVal.str s.ar,
  AVal.int IntKind.u8 (↑s.dl.toNat : Int), AVal.str [], AVal.str s.rf,
  AVal.int IntKind.i64 s.pt, AVal.str s.wd]],
  Obj.var
  (encSS
  (S
  (cells0H
  [p0H [P0, P1, Obj.var (encSS s)], p1H [P0, P1, Obj.var (encSS s)],
  Obj.var
  [AVal.int IntKind.i64 s.k, AVal.str s.el, AVal.str s.ar,
  AVal.int IntKind.u8 (↑s.dl.toNat : Int), AVal.str [], AVal.str s.rf,
  AVal.int IntKind.i64 s.pt, AVal.str s.wd]])
  s.pe).s)]) ∧
  okT
  (cells0H
  [p0H
  [p0H [P0, P1, Obj.var (encSS s)], p1H [P0, P1, Obj.var (encSS s)],
  Obj.var
  [AVal.int IntKind.i64 s.k, AVal.str s.el, AVal.str s.ar,
  AVal.int IntKind.u8 (↑s.dl.toNat : Int), AVal.str [], AVal.str s.rf,
  AVal.int IntKind.i64 s.pt, AVal.str s.wd]],
  p1H
  [p0H [P0, P1, Obj.var (encSS s)], p1H [P0, P1, Obj.var (encSS s)],
  Obj.var
  [AVal.int IntKind.i64 s.k, AVal.str s.el, AVal.str s.ar,
  AVal.int IntKind.u8 (↑s.dl.toNat : Int), AVal.str [], AVal.str s.rf,
  AVal.int IntKind.i64 s.pt, AVal.str s.wd]],
  Obj.var
  (encSS
  (S
  (cells0H
  [p0H [P0, P1, Obj.var (encSS s)], p1H [P0, P1, Obj.var (encSS s)],
  Obj.var
  [AVal.int IntKind.i64 s.k, AVal.str s.el, AVal.str s.ar,
  AVal.int IntKind.u8 (↑s.dl.toNat : Int), AVal.str [], AVal.str s.rf,
  AVal.int IntKind.i64 s.pt, AVal.str s.wd]])
  s.pe).s)])) ∧
  c1 = true) ∧
  SubL [AVal.ptr (Oid.hp 2) 0, AVal.int IntKind.u8 n0]
  [AVal.ptr (Oid.hp 2) 0, AVal.int IntKind.u8 n0] ∧
  [p0H
  [p0H [P0, P1, Obj.var (encSS s)], p1H [P0, P1, Obj.var (encSS s)],
  Obj.var
  [AVal.int IntKind.i64 s.k, AVal.str s.el, AVal.str s.ar,
  AVal.int IntKind.u8 (↑s.dl.toNat : Int), AVal.str [], AVal.str s.rf,
  AVal.int IntKind.i64 s.pt, AVal.str s.wd]],
  p1H
  [p0H [P0, P1, Obj.var (encSS s)], p1H [P0, P1, Obj.var (encSS s)],
  Obj.var
  [AVal.int IntKind.i64 s.k, AVal.str s.el, AVal.str s.ar,
  AVal.int IntKind.u8 (↑s.dl.toNat : Int), AVal.str [], AVal.str s.rf,
  AVal.int IntKind.i64 s.pt, AVal.str s.wd]],
  Obj.var
  (encSS
  (S
  (cells0H
  [p0H [P0, P1, Obj.var (encSS s)], p1H [P0, P1, Obj.var (encSS s)],
  Obj.var
  [AVal.int IntKind.i64 s.k, AVal.str s.el, AVal.str s.ar,
  AVal.int IntKind.u8 (↑s.dl.toNat : Int), AVal.str [], AVal.str s.rf,
  AVal.int IntKind.i64 s.pt, AVal.str s.wd]])
  s.pe).s)] =
  [p0H
  [p0H
  [p0H [P0, P1, Obj.var (encSS s)], p1H [P0, P1, Obj.var (encSS s)],
  Obj.var
  [AVal.int IntKind.i64 s.k, AVal.str s.el, AVal.str s.ar,
  AVal.int IntKind.u8 (↑s.dl.toNat : Int), AVal.str [], AVal.str s.rf,
  AVal.int IntKind.i64 s.pt, AVal.str s.wd]],
  p1H
  [p0H [P0, P1, Obj.var (encSS s)], p1H [P0, P1, Obj.var (encSS s)],
  Obj.var
  [AVal.int IntKind.i64 s.k, AVal.str s.el, AVal.str s.ar,
  AVal.int IntKind.u8 (↑s.dl.toNat : Int), AVal.str [], AVal.str s.rf,
  AVal.int IntKind.i64 s.pt, AVal.str s.wd]],
  Obj.var
  (encSS
  (S
  (cells0H
  [p0H [P0, P1, Obj.var (encSS s)], p1H [P0, P1, Obj.var (encSS s)],
  Obj.var
  [AVal.int IntKind.i64 s.k, AVal.str s.el, AVal.str s.ar,
  AVal.int IntKind.u8 (↑s.dl.toNat : Int), AVal.str [], AVal.str s.rf,
  AVal.int IntKind.i64 s.pt, AVal.str s.wd]])
  s.pe).s)],
  p1H
  [p0H
  [p0H [P0, P1, Obj.var (encSS s)], p1H [P0, P1, Obj.var (encSS s)],
  Obj.var
  [AVal.int IntKind.i64 s.k, AVal.str s.el, AVal.str s.ar,
  AVal.int IntKind.u8 (↑s.dl.toNat : Int), AVal.str [], AVal.str s.rf,
  AVal.int IntKind.i64 s.pt, AVal.str s.wd]],
  p1H
  [p0H [P0, P1, Obj.var (encSS s)], p1H [P0, P1, Obj.var (encSS s)],
  Obj.var
  [AVal.int IntKind.i64 s.k, AVal.str s.el, AVal.str s.ar,
  AVal.int IntKind.u8 (↑s.dl.toNat : Int), AVal.str [], AVal.str s.rf,
  AVal.int IntKind.i64 s.pt, AVal.str s.wd]],
  Obj.var
  (encSS
  (S
  (cells0H
  [p0H [P0, P1, Obj.var (encSS s)], p1H [P0, P1, Obj.var (encSS s)],
  Obj.var
  [AVal.int IntKind.i64 s.k, AVal.str s.el, AVal.str s.ar,
  AVal.int IntKind.u8 (↑s.dl.toNat : Int), AVal.str [], AVal.str s.rf,
  AVal.int IntKind.i64 s.pt, AVal.str s.wd]])
  s.pe).s)],
  Obj.var
  (cells0H
  [p0H
  [p0H [P0, P1, Obj.var (encSS s)], p1H [P0, P1, Obj.var (encSS s)],
  Obj.var
  [AVal.int IntKind.i64 s.k, AVal.str s.el, AVal.str s.ar,
  AVal.int IntKind.u8 (↑s.dl.toNat : Int), AVal.str [], AVal.str s.rf,
  AVal.int IntKind.i64 s.pt, AVal.str s.wd]],
  p1H
  [p0H [P0, P1, Obj.var (encSS s)], p1H [P0, P1, Obj.var (encSS s)],
  Obj.var
  [AVal.int IntKind.i64 s.k, AVal.str s.el, AVal.str s.ar,
  AVal.int IntKind.u8 (↑s.dl.toNat : Int), AVal.str [], AVal.str s.rf,
  AVal.int IntKind.i64 s.pt, AVal.str s.wd]],
  Obj.var
  (encSS
  (S
  (cells0H
  [p0H [P0, P1, Obj.var (encSS s)], p1H [P0, P1, Obj.var (encSS s)],
  Obj.var
  [AVal.int IntKind.i64 s.k, AVal.str s.el, AVal.str s.ar,
  AVal.int IntKind.u8 (↑s.dl.toNat : Int), AVal.str [],
  AVal.str s.rf, AVal.int IntKind.i64 s.pt, AVal.str s.wd]])
  s.pe).s)])]) then
  bif n8 == 0 then
  k
  (Out.ret (AVal.tuple [])
  [p0H
  [p0H
  [p0H [P0, P1, Obj.var (encSS s)], p1H [P0, P1, Obj.var (encSS s)],
  Obj.var
  [AVal.int IntKind.i64 s.k, AVal.str s.el, AVal.str s.ar,
  AVal.int IntKind.u8 (↑s.dl.toNat : Int), AVal.str [], AVal.str s.rf,
  AVal.int IntKind.i64 s.pt, AVal.str s.wd]],
  p1H
  [p0H [P0, P1, Obj.var (encSS s)], p1H [P0, P1, Obj.var (encSS s)],
  Obj.var
  [AVal.int IntKind.i64 s.k, AVal.str s.el, AVal.str s.ar,
  AVal.int IntKind.u8 (↑s.dl.toNat : Int), AVal.str [], AVal.str s.rf,
  AVal.int IntKind.i64 s.pt, AVal.str s.wd]],
  Obj.var
  (encSS
  (S
  (cells0H
  [p0H [P0, P1, Obj.var (encSS s)], p1H [P0, P1, Obj.var (encSS s)],
  Obj.var
  [AVal.int IntKind.i64 s.k, AVal.str s.el, AVal.str s.ar,
  AVal.int IntKind.u8 (↑s.dl.toNat : Int), AVal.str [], AVal.str s.rf,
  AVal.int IntKind.i64 s.pt, AVal.str s.wd]])
  s.pe).s)],
  p1H
  [p0H
  [p0H [P0, P1, Obj.var (encSS s)], p1H [P0, P1, Obj.var (encSS s)],
  Obj.var
  [AVal.int IntKind.i64 s.k, AVal.str s.el, AVal.str s.ar,
  AVal.int IntKind.u8 (↑s.dl.toNat : Int), AVal.str [], AVal.str s.rf,
  AVal.int IntKind.i64 s.pt, AVal.str s.wd]],
  p1H
  [p0H [P0, P1, Obj.var (encSS s)], p1H [P0, P1, Obj.var (encSS s)],
  Obj.var
  [AVal.int IntKind.i64 s.k, AVal.str s.el, AVal.str s.ar,
  AVal.int IntKind.u8 (↑s.dl.toNat : Int), AVal.str [], AVal.str s.rf,
  AVal.int IntKind.i64 s.pt, AVal.str s.wd]],
  Obj.var
  (encSS
  (S
  (cells0H
  [p0H [P0, P1, Obj.var (encSS s)], p1H [P0, P1, Obj.var (encSS s)],
  Obj.var
  [AVal.int IntKind.i64 s.k, AVal.str s.el, AVal.str s.ar,
  AVal.int IntKind.u8 (↑s.dl.toNat : Int), AVal.str [], AVal.str s.rf,
  AVal.int IntKind.i64 s.pt, AVal.str s.wd]])
  s.pe).s)],
  Obj.var
  (encSS
  (P
  (cells0H
  [p0H
  [p0H [P0, P1, Obj.var (encSS s)], p1H [P0, P1, Obj.var (encSS s)],
  Obj.var
  [AVal.int IntKind.i64 s.k, AVal.str s.el, AVal.str s.ar,
  AVal.int IntKind.u8 (↑s.dl.toNat : Int), AVal.str [], AVal.str s.rf,
  AVal.int IntKind.i64 s.pt, AVal.str s.wd]],
  p1H
  [p0H [P0, P1, Obj.var (encSS s)], p1H [P0, P1, Obj.var (encSS s)],
  Obj.var
  [AVal.int IntKind.i64 s.k, AVal.str s.el, AVal.str s.ar,
  AVal.int IntKind.u8 (↑s.dl.toNat : Int), AVal.str [], AVal.str s.rf,
  AVal.int IntKind.i64 s.pt, AVal.str s.wd]],
  Obj.var
  (encSS
  (S
  (cells0H
  [p0H [P0, P1, Obj.var (encSS s)], p1H [P0, P1, Obj.var (encSS s)],
  Obj.var
  [AVal.int IntKind.i64 s.k, AVal.str s.el, AVal.str s.ar,
  AVal.int IntKind.u8 (↑s.dl.toNat : Int), AVal.str [],
  AVal.str s.rf, AVal.int IntKind.i64 s.pt, AVal.str s.wd]])
  s.pe).s)])
  n0).s)])
  else
  k
  (Out.panic (errV n8)
  [p0H
  [p0H
  [p0H [P0, P1, Obj.var (encSS s)], p1H [P0, P1, Obj.var (encSS s)],
  Obj.var
  [AVal.int IntKind.i64 s.k, AVal.str s.el, AVal.str s.ar,
  AVal.int IntKind.u8 (↑s.dl.toNat : Int), AVal.str [], AVal.str s.rf,
  AVal.int IntKind.i64 s.pt, AVal.str s.wd]],
  p1H
  [p0H [P0, P1, Obj.var (encSS s)], p1H [P0, P1, Obj.var (encSS s)],
  Obj.var
  [AVal.int IntKind.i64 s.k, AVal.str s.el, AVal.str s.ar,
  AVal.int IntKind.u8 (↑s.dl.toNat : Int), AVal.str [], AVal.str s.rf,
  AVal.int IntKind.i64 s.pt, AVal.str s.wd]],
  Obj.var
  (encSS
  (S
  (cells0H
  [p0H [P0, P1, Obj.var (encSS s)], p1H [P0, P1, Obj.var (encSS s)],
  Obj.var
  [AVal.int IntKind.i64 s.k, AVal.str s.el, AVal.str s.ar,
  AVal.int IntKind.u8 (↑s.dl.toNat : Int), AVal.str [], AVal.str s.rf,
  AVal.int IntKind.i64 s.pt, AVal.str s.wd]])
  s.pe).s)],
  p1H
  [p0H
  [p0H [P0, P1, Obj.var (encSS s)], p1H [P0, P1, Obj.var (encSS s)],
  Obj.var
  [AVal.int IntKind.i64 s.k, AVal.str s.el, AVal.str s.ar,
  AVal.int IntKind.u8 (↑s.dl.toNat : Int), AVal.str [], AVal.str s.rf,
  AVal.int IntKind.i64 s.pt, AVal.str s.wd]],
  p1H
  [p0H [P0, P1, Obj.var (encSS s)], p1H [P0, P1, Obj.var (encSS s)],
  Obj.var
  [AVal.int IntKind.i64 s.k, AVal.str s.el, AVal.str s.ar,
  AVal.int IntKind.u8 (↑s.dl.toNat : Int), AVal.str [], AVal.str s.rf,
  AVal.int IntKind.i64 s.pt, AVal.str s.wd]],
  Obj.var
  (encSS
  (S
  (cells0H
  [p0H [P0, P1, Obj.var (encSS s)], p1H [P0, P1, Obj.var (encSS s)],
  Obj.var
  [AVal.int IntKind.i64 s.k, AVal.str s.el, AVal.str s.ar,
  AVal.int IntKind.u8 (↑s.dl.toNat : Int), AVal.str [], AVal.str s.rf,
  AVal.int IntKind.i64 s.pt, AVal.str s.wd]])
  s.pe).s)],
  Obj.var
  (encSS
  (P
  (cells0H
  [p0H
  [p0H [P0, P1, Obj.var (encSS s)], p1H [P0, P1, Obj.var (encSS s)],
  Obj.var
  [AVal.int IntKind.i64 s.k, AVal.str s.el, AVal.str s.ar,
  AVal.int IntKind.u8 (↑s.dl.toNat : Int), AVal.str [], AVal.str s.rf,
  AVal.int IntKind.i64 s.pt, AVal.str s.wd]],
  p1H
  [p0H [P0, P1, Obj.var (encSS s)], p1H [P0, P1, Obj.var (encSS s)],
  Obj.var
  [AVal.int IntKind.i64 s.k, AVal.str s.el, AVal.str s.ar,
  AVal.int IntKind.u8 (↑s.dl.toNat : Int), AVal.str [], AVal.str s.rf,
  AVal.int IntKind.i64 s.pt, AVal.str s.wd]],
  Obj.var
  (encSS
  (S
  (cells0H
  [p0H [P0, P1, Obj.var (encSS s)], p1H [P0, P1, Obj.var (encSS s)],
  Obj.var
  [AVal.int IntKind.i64 s.k, AVal.str s.el, AVal.str s.ar,
  AVal.int IntKind.u8 (↑s.dl.toNat : Int), AVal.str [],
  AVal.str s.rf, AVal.int IntKind.i64 s.pt, AVal.str s.wd]])
  s.pe).s)])
  n0).s)])
  else none
  else
  k
  (Out.panic (errV n7)
  [p0H
  [p0H [P0, P1, Obj.var (encSS s)], p1H [P0, P1, Obj.var (encSS s)],
  Obj.var
  [AVal.int IntKind.i64 s.k, AVal.str s.el, AVal.str s.ar,
  AVal.int IntKind.u8 (↑s.dl.toNat : Int), AVal.str [], AVal.str s.rf,
  AVal.int IntKind.i64 s.pt, AVal.str s.wd]],
  p1H
  [p0H [P0, P1, Obj.var (encSS s)], p1H [P0, P1, Obj.var (encSS s)],
  Obj.var
  [AVal.int IntKind.i64 s.k, AVal.str s.el, AVal.str s.ar,
  AVal.int IntKind.u8 (↑s.dl.toNat : Int), AVal.str [], AVal.str s.rf,
  AVal.int IntKind.i64 s.pt, AVal.str s.wd]],
  Obj.var
  (encSS
  (S
  (cells0H
  [p0H [P0, P1, Obj.var (encSS s)], p1H [P0, P1, Obj.var (encSS s)],
  Obj.var
  [AVal.int IntKind.i64 s.k, AVal.str s.el, AVal.str s.ar,
  AVal.int IntKind.u8 (↑s.dl.toNat : Int), AVal.str [], AVal.str s.rf,
  AVal.int IntKind.i64 s.pt, AVal.str s.wd]])
  s.pe).s)])
  else none
  else none
  else none
  else none
  else none) := by kernel_rfl
end Go.Mu
set_option linter.unusedVariables false
set_option linter.unusedSimpArgs false
set_option maxRecDepth 100000
namespace Go.Mu
open Go Go.Proofs
variable (P0 P1 : Obj)
theorem call_tail {p : Prop} (hp : p) (r : ScR) (k : Out → Ans) : (bif tst p then (bif r.e == 0 then k (.ret (.tuple []) [P0, P1, .var (encSS r.s)]) else k (.panic (errV r.e) [P0, P1, .var (encSS r.s)])) else none) = k (scOut P0 P1 r) := by
  rw [tst_true hp]
  exact scPost_eq P0 P1 r k
theorem call_then {p : Prop} (hp : p) (r : ScR) (f : SS → ScR) (X : Ans) (k : Out → Ans) (h : r.e = 0 → X = k (scOut P0 P1 (f r.s))) : (bif tst p then (bif r.e == 0 then X else k (.panic (errV r.e) [P0, P1, .var (encSS r.s)])) else none) = k (scOut P0 P1 (r.then f)) := by
  rw [tst_true hp]
  unfold ScR.then
  cases he : r.e == 0 with
  | true => exact h (by simpa using he)
  | false =>
    have : scOut P0 P1 r = .panic (errV r.e) [P0, P1, .var (encSS r.s)] := by unfold scOut; rw [he]; rfl
    show k _ = k (scOut P0 P1 r)
    rw [this]
abbrev eqH (P0 P1 : Obj) (x : List AVal) : Prop := [P0, P1, Obj.var x] = [p0H [P0, P1, Obj.var x], p1H [P0, P1, Obj.var x], Obj.var (cells0H [P0, P1, Obj.var x])]
theorem sub_okM {s : SS} (h : OkM s) (x : Bs) : OkM (subS s x).s := by
  have hs := sub_same s x
  refine ⟨by rw [hs.2.1]; exact h.el, by rw [hs.2.2.1]; exact h.ar, by rw [hs.2.2.2.2.1]; exact h.pe, by rw [hs.2.2.2.1]; exact h.rf, ?_⟩
  unfold subS
  cases langM s == 1
  · cases langM s == 2
    · cases langM s == 3
      · exact h.pw
      · exact feedP_pw csStep_pw x _ _ h.pw
    · exact feedP_pw jsStep_pw x _ _ h.pw
  · exact feedP_pw urlStep_pw x _ _ h.pw
theorem flush_okM {s : SS} (h : OkM s) : OkM (flushS s).s := sub_okM (h.rf0 (t := []) (by simp)) _
/- char -/
theorem layCh_ok : (layCh subX flushX unfM).OK Tryz.prog := (((Lay.nil_ok.addF mxSub_ok).addF m0Flush_ok).addF onePTold_ok).addF unfTold_ok
theorem mchar_ok (s : SS) (c : UInt8) (h : OkM s) (_ : True) : CallOK Tryz.prog 33 [.ptr (.hp 2) 0, .int .u8 c.toNat] [P0, P1, .var (encSS s)] (scOut P0 P1 (charS oneP unfM s c)) := layCh_ok.call (fun k => by
  refine (smchar_fun subX flushX unfM s c P0 P1 k).trans ?_
  have hr := h.rf
  have h0 : OkM { s with rf := [] } := h.rf0 (t := []) (by simp)
  simp only [byteOf0, ek38]
  have tail : ∀ (s' : SS) (p : Prop), p → (bif c == 38 then k (.ret (.tuple []) [P0, P1, .var (encSS { s' with rf := [38] })]) else bif tst p then (bif (subX (encSS s') [c]).e == 0 then k (.ret (.tuple []) [P0, P1, .var (encSS (subX (encSS s') [c]).s)]) else k (.panic (errV (subX (encSS s') [c]).e) [P0, P1, .var (encSS (subX (encSS s') [c]).s)])) else none) = k (scOut P0 P1 (charS0 s' c)) := fun s' p hp => by
    unfold charS0
    cases c == 38 with
    | true => rfl
    | false => exact (call_tail P0 P1 hp (subX (encSS s') [c]) k).trans (congrArg (fun r => k (scOut P0 P1 r)) (subX_enc s' [c]))
  unfold charS
  cases hrf : s.rf == [] with
  | true =>
    have e : (s.rf != []) = false := by unfold bne; rw [hrf]; rfl
    rw [e]
    exact tail s _ ⟨⟨OkR_enc h, by omega⟩, .refl _, rfl⟩
  | false =>
    have e : (s.rf != []) = true := by unfold bne; rw [hrf]; rfl
    rw [e]
    have e1 : (List.append s.rf [c]) = s.rf ++ [c] := rfl
    have l1 : (s.rf ++ [c]).length = s.rf.length + 1 := by rw [List.length_append]; rfl
    rw [e1]
    simp only [Bool.not_false, cond_true, l1, dT (show s.rf.length + 1 ≤ 4611686018427387904 by omega), dT (show s.rf.length + 1 ≤ 1099511627776 by omega), dT (show s.rf.length + 1 ≤ 1048576 by omega)]
    have ei : (((oneP (s.rf ++ [c])).2 : Int) == ((s.rf.length + 1 : Nat) : Int)) = ((oneP (s.rf ++ [c])).2 == s.rf.length + 1) := by rw [Bool.eq_iff_iff, beq_iff_eq, beq_iff_eq]; omega
    have ho := (oneP_is (s.rf ++ [c]) (by rw [l1]; omega)).1
    rw [ei]
    cases (oneP (s.rf ++ [c])).2 == s.rf.length + 1 with
    | true => exact (call_tail P0 P1 ⟨⟨OkR_enc h0, by omega⟩, .refl _, rfl⟩ (subX (encSS { s with rf := [] }) (oneP (s.rf ++ [c])).1) k).trans (congrArg (fun r => k (scOut P0 P1 r)) (subX_enc _ _))
    | false =>
      cases unfM (s.rf ++ [c]) with
      | true => rfl
      | false =>
        have ef : flushX (encSS s) = flushS s := flushX_enc s
        have hf := flush_okM h
        refine Eq.trans ?_ (call_then P0 P1 (p := OkR (encSS s) ∧ SubL [AVal.ptr (Oid.hp 2) 0] [AVal.ptr (Oid.hp 2) 0] ∧ eqH P0 P1 (encSS s)) ⟨OkR_enc h, .refl _, rfl⟩ (flushS s) (fun s => charS0 s c) _ k (fun _ => tail (flushS s).s ((OkR (encSS (flushS s).s) ∧ 1 ≤ 1048576) ∧ SubL [AVal.ptr (Oid.hp 2) 0, AVal.str [c]] [AVal.ptr (Oid.hp 2) 0, AVal.str [c]] ∧ eqH P0 P1 (encSS (flushS s).s)) ⟨⟨OkR_enc hf, by omega⟩, .refl _, rfl⟩))
        rw [← ef]
        rfl)
noncomputable def charX : FC := fun x n => charS oneP unfM (decSS x) (u8 n)
theorem charX_enc (s : SS) (c : UInt8) : charX (encSS s) c.toNat = charS oneP unfM s c := by unfold charX; rw [decSS_enc, u8_back]
theorem mcChar_ok : ∀ xs H k out, mcTold okT charX xs H k = some out → ∃ o, CallOK Tryz.prog 33 xs H o ∧ k o = some out := mcTold_ok (ok := fun _ => True) mchar_ok
/- end -/
theorem layE0_ok : layE0.OK Tryz.prog := Lay.nil_ok.addF elmTold_ok
theorem elmK_r (s : Bs) : 0 ≤ elmK s ∧ elmK s ≤ 4 := by
  unfold elmK
  repeat' with_reducible apply i_bif (P := fun x => 0 ≤ x ∧ x ≤ 4)
  all_goals omega
theorem mend_ok (s : SS) (h : OkM s) : CallOK Tryz.prog 54 [.ptr (.hp 2) 0] [P0, P1, .var (encSS s)] (scOut P0 P1 (endS s)) := layE0_ok.call (fun k => by
  refine (smend_fun s P0 P1 k).trans ?_
  have hr := elmK_r s.el
  have e : IntKind.i64.wrap (IntKind.i64.wrap (17 + elmK s.el) - 1) = 16 + elmK s.el := by
    rw [wrap_of (n := 17 + elmK s.el) (by omega) (by omega), wrap_of (by omega) (by omega)]; omega
  rw [e]
  unfold endS
  cases decide (elmK s.el ≤ 3) with
  | false => rfl
  | true => cases elmK s.el == 0 <;> rfl)
noncomputable def endX : F0 := fun x => endS (decSS x)
theorem endX_enc (s : SS) : endX (encSS s) = endS s := by unfold endX; rw [decSS_enc]
theorem m0End_ok : ∀ xs H k out, m0Told endX xs H k = some out → ∃ o, CallOK Tryz.prog 54 xs H o ∧ k o = some out := m0Told_ok mend_ok
/- within -/
theorem layW0_ok : (layW0 blankR endX).OK Tryz.prog := ((Lay.nil_ok.addF blankT_ok).addF lowTold_ok).addF m0End_ok
theorem mwithin_ok (s : SS) (c : UInt8) (h : OkM s) (_ : True) : CallOK Tryz.prog 37 [.ptr (.hp 2) 0, .int .u8 c.toNat] [P0, P1, .var (encSS s)] (scOut P0 P1 (withinS s c)) := layW0_ok.call (fun k => by
  refine (smwithin_fun blankR endX s c P0 P1 k).trans ?_
  simp only [okc_u8, blankR_u8, ek47, ek62, low1, cond_true]
  unfold withinS
  cases blankB c with
  | true => rfl
  | false =>
    cases c == 47 with
    | true => rfl
    | false =>
      cases c == 62 with
      | true => exact (call_tail P0 P1 ⟨OkR_enc h, .refl _, rfl⟩ (endX (encSS s)) k).trans (congrArg (fun r => k (scOut P0 P1 r)) (endX_enc s))
      | false => rfl)
noncomputable def withinX : FC := fun x n => withinS (decSS x) (u8 n)
theorem withinX_enc (s : SS) (c : UInt8) : withinX (encSS s) c.toNat = withinS s c := by unfold withinX; rw [decSS_enc, u8_back]
theorem mcWithin_ok : ∀ xs H k out, mcTold okT withinX xs H k = some out → ∃ o, CallOK Tryz.prog 37 xs H o ∧ k o = some out := mcTold_ok (ok := fun _ => True) mwithin_ok
/- tagName, attr -/
theorem layT0_ok : (layT0 blankR withinX).OK Tryz.prog := ((Lay.nil_ok.addF blankT_ok).addF lowTold_ok).addF mcWithin_ok
theorem dl33' (n : Nat) : decide ((n : Int) < 33) = decide (n < 33) := by rw [decide_eq_decide]; omega
theorem dl32' (n : Nat) : decide ((n : Int) < 32) = decide (n < 32) := by rw [decide_eq_decide]; omega
theorem mtag_ok (s : SS) (c : UInt8) (h : OkM s) (_ : True) : CallOK Tryz.prog 36 [.ptr (.hp 2) 0, .int .u8 c.toNat] [P0, P1, .var (encSS s)] (scOut P0 P1 (tagNameS s c)) := layT0_ok.call (fun k => by
  refine (smtag_fun blankR withinX s c P0 P1 k).trans ?_
  have hl := h.el
  simp only [okc_u8, blankR_u8, ek47, ek62, byteOf1, cond_true, bif_or, dT (show s.el.length + 1 ≤ 4611686018427387904 by omega), dl33', dl32']
  unfold tagNameS
  cases blankB c || c == 47 || c == 62 with
  | true => exact (call_tail P0 P1 ⟨⟨⟨OkR_enc h, trivial⟩, by trivial⟩, .refl _, rfl⟩ (withinX (encSS s) c.toNat) k).trans (congrArg (fun r => k (scOut P0 P1 r)) (withinX_enc s c))
  | false =>
    cases s.k == 4 with
    | true =>
      have e : decide ((s.el.length : Int) < 32 + (bif true then 1 else 0)) = decide (s.el.length < 33) := by rw [decide_eq_decide]; show (s.el.length : Int) < 32 + 1 ↔ _; omega
      rw [e]
      cases decide (s.el.length < 33) <;> rfl
    | false =>
      have e : decide ((s.el.length : Int) < 32 + (bif false then 1 else 0)) = decide (s.el.length < 32) := by rw [decide_eq_decide]; show (s.el.length : Int) < 32 + 0 ↔ _; omega
      rw [e]
      cases decide (s.el.length < 32) <;> rfl)
noncomputable def tagX : FC := fun x n => tagNameS (decSS x) (u8 n)
theorem tagX_enc (s : SS) (c : UInt8) : tagX (encSS s) c.toNat = tagNameS s c := by unfold tagX; rw [decSS_enc, u8_back]
theorem mcTag_ok : ∀ xs H k out, mcTold okT tagX xs H k = some out → ∃ o, CallOK Tryz.prog 36 xs H o ∧ k o = some out := mcTold_ok (ok := fun _ => True) mtag_ok
theorem ek61b (c : UInt8) : ((c.toNat : Int) == 61) = (c == 61) := eqk c 61 rfl
theorem mattr_ok (s : SS) (c : UInt8) (h : OkM s) (_ : True) : CallOK Tryz.prog 38 [.ptr (.hp 2) 0, .int .u8 c.toNat] [P0, P1, .var (encSS s)] (scOut P0 P1 (attrS s c)) := layT0_ok.call (fun k => by
  refine (smattr_fun blankR withinX s c P0 P1 k).trans ?_
  have hl := h.ar
  simp only [okc_u8, blankR_u8, ek47, ek62, ek61b, byteOf1, cond_true, bif_or, dT (show s.ar.length + 1 ≤ 4611686018427387904 by omega), dl32']
  unfold attrS
  cases blankB c with
  | true => rfl
  | false =>
    cases c == 61 with
    | true => rfl
    | false =>
      cases c == 47 || c == 62 || s.k == 7 with
      | true => exact (call_tail P0 P1 ⟨⟨⟨OkR_enc h, trivial⟩, by trivial⟩, .refl _, rfl⟩ (withinX (encSS s) c.toNat) k).trans (congrArg (fun r => k (scOut P0 P1 r)) (withinX_enc s c))
      | false => cases decide (s.ar.length < 32) <;> rfl)
noncomputable def attrX : FC := fun x n => attrS (decSS x) (u8 n)
theorem attrX_enc (s : SS) (c : UInt8) : attrX (encSS s) c.toNat = attrS s c := by unfold attrX; rw [decSS_enc, u8_back]
theorem mcAttr_ok : ∀ xs H k out, mcTold okT attrX xs H k = some out → ∃ o, CallOK Tryz.prog 38 xs H o ∧ k o = some out := mcTold_ok (ok := fun _ => True) mattr_ok
/- want, inValue -/
theorem layA0_ok : (layA0 blankR endX charX).OK Tryz.prog := ((Lay.nil_ok.addF blankT_ok).addF m0End_ok).addF mcChar_ok
theorem OkM.kd {s : SS} (h : OkM s) (k : Int) : OkM { s with k := k } := ⟨h.el, h.ar, h.pe, h.rf, h.pw⟩
theorem mwant_ok (s : SS) (c : UInt8) (h : OkM s) (_ : True) : CallOK Tryz.prog 39 [.ptr (.hp 2) 0, .int .u8 c.toNat] [P0, P1, .var (encSS s)] (scOut P0 P1 (wantS oneP unfM s c)) := layA0_ok.call (fun k => by
  refine (smwant_fun blankR endX charX s c P0 P1 k).trans ?_
  simp only [okc_u8, blankR_u8, ek34, ek39, ek62, cond_true, bif_or]
  unfold wantS
  cases blankB c with
  | true => rfl
  | false =>
    cases c == 34 || c == 39 with
    | true => rfl
    | false =>
      cases c == 62 with
      | true => exact (call_tail P0 P1 ⟨OkR_enc h, .refl _, rfl⟩ (endX (encSS s)) k).trans (congrArg (fun r => k (scOut P0 P1 r)) (endX_enc s))
      | false => exact (call_tail P0 P1 ⟨⟨⟨OkR_enc (h.kd 10), trivial⟩, by trivial⟩, .refl _, rfl⟩ (charX (encSS { s with k := 10 }) c.toNat) k).trans (congrArg (fun r => k (scOut P0 P1 r)) (charX_enc _ c)))
noncomputable def wantX : FC := fun x n => wantS oneP unfM (decSS x) (u8 n)
theorem wantX_enc (s : SS) (c : UInt8) : wantX (encSS s) c.toNat = wantS oneP unfM s c := by unfold wantX; rw [decSS_enc, u8_back]
theorem mcWant_ok : ∀ xs H k out, mcTold okT wantX xs H k = some out → ∃ o, CallOK Tryz.prog 39 xs H o ∧ k o = some out := mcTold_ok (ok := fun _ => True) mwant_ok
theorem layV0_ok : (layV0 blankR flushX withinX charX).OK Tryz.prog := (((Lay.nil_ok.addF blankT_ok).addF m0Flush_ok).addF mcChar_ok).addF mcWithin_ok
theorem eku (c d : UInt8) : ((c.toNat : Int) == (d.toNat : Int)) = (c == d) := eqk c d rfl
theorem mval_ok (s : SS) (c : UInt8) (h : OkM s) (_ : True) : CallOK Tryz.prog 40 [.ptr (.hp 2) 0, .int .u8 c.toNat] [P0, P1, .var (encSS s)] (scOut P0 P1 (inValueS oneP unfM s c)) := layV0_ok.call (fun k => by
  refine (smval_fun blankR flushX withinX charX s c P0 P1 k).trans ?_
  have ef : flushX (encSS s) = flushS s := flushX_enc s
  have hf := flush_okM h
  simp only [okc_u8, blankR_u8, eku, ek62, cond_true, bif_or, bif_and]
  unfold inValueS
  cases s.k == 9 && c == s.dl with
  | true =>
    refine Eq.trans ?_ (call_then P0 P1 (p := OkR (encSS s) ∧ SubL [AVal.ptr (Oid.hp 2) 0] [AVal.ptr (Oid.hp 2) 0] ∧ eqH P0 P1 (encSS s)) ⟨OkR_enc h, .refl _, rfl⟩ (flushS s) (fun s => sOk (toS s 11)) _ k (fun _ => rfl))
    rw [← ef]
    rfl
  | false =>
    cases s.k == 10 && (blankB c || c == 62) with
    | true =>
      refine Eq.trans ?_ (call_then P0 P1 (p := OkR (encSS s) ∧ SubL [AVal.ptr (Oid.hp 2) 0] [AVal.ptr (Oid.hp 2) 0] ∧ eqH P0 P1 (encSS s)) ⟨OkR_enc h, .refl _, rfl⟩ (flushS s) (fun s => withinS s c) _ k (fun _ => (call_tail P0 P1 (p := ((OkR (encSS (flushS s).s) ∧ okT (encSS (flushS s).s)) ∧ True) ∧ SubL [AVal.ptr (Oid.hp 2) 0, AVal.int IntKind.u8 c.toNat] [AVal.ptr (Oid.hp 2) 0, AVal.int IntKind.u8 c.toNat] ∧ eqH P0 P1 (encSS (flushS s).s)) ⟨⟨⟨OkR_enc hf, trivial⟩, trivial⟩, .refl _, rfl⟩ (withinX (encSS (flushS s).s) c.toNat) k).trans (congrArg (fun r => k (scOut P0 P1 r)) (withinX_enc _ c))))
      rw [← ef]
      rfl
    | false => exact (call_tail P0 P1 ⟨⟨⟨OkR_enc h, trivial⟩, by trivial⟩, .refl _, rfl⟩ (charX (encSS s) c.toNat) k).trans (congrArg (fun r => k (scOut P0 P1 r)) (charX_enc s c)))
noncomputable def valX : FC := fun x n => inValueS oneP unfM (decSS x) (u8 n)
theorem valX_enc (s : SS) (c : UInt8) : valX (encSS s) c.toNat = inValueS oneP unfM s c := by unfold valX; rw [decSS_enc, u8_back]
theorem mcVal_ok : ∀ xs H k out, mcTold okT valX xs H k = some out → ∃ o, CallOK Tryz.prog 40 xs H o ∧ k o = some out := mcTold_ok (ok := fun _ => True) mval_ok
end Go.Mu
set_option linter.unusedVariables false
set_option linter.unusedSimpArgs false
set_option maxRecDepth 100000
namespace Go.Mu
open Go Go.Proofs
noncomputable def layS0 (C : FC) : Lay := Lay.nil.addF 33 (mcTold okT C)
theorem smst0_fun (C : FC) (el ar : Bs) (dl : UInt8) (pe rf : Bs) (pt : Int) (wd : Bs) (c : UInt8) (P0 P1 : Obj) (k : Out → Ans) : iFun Tryz.prog ((layS0 C).hd Tryz.prog) (layS0 C).fhs 0 23 [.ptr (.hp 2) 0, .int .u8 c.toNat] [P0, P1, .var (encSS ⟨0, el, ar, dl, pe, rf, pt, wd⟩)] k = (
 let n0 : Int := (↑c.toNat : Int);
 let n1 : Int := (C (cells0H [P0, P1, Obj.var (encSS (SS.mk 0 el ar dl pe rf pt wd))]) n0).e;
  bif n0 == 60 then
  k
  (Out.ret (AVal.tuple [])
  [P0, P1,
  Obj.var
  [AVal.int IntKind.i64 1, AVal.str [], AVal.str [], AVal.int IntKind.u8 0, AVal.str [], AVal.str [],
  AVal.int IntKind.i64 0, AVal.str []]])
  else
  bif
  tst
  (((OkR (cells0H [P0, P1, Obj.var (encSS (SS.mk 0 el ar dl pe rf pt wd))]) ∧
  okT (cells0H [P0, P1, Obj.var (encSS (SS.mk 0 el ar dl pe rf pt wd))])) ∧
  okc n0 = true) ∧
  SubL [AVal.ptr (Oid.hp 2) 0, AVal.int IntKind.u8 n0] [AVal.ptr (Oid.hp 2) 0, AVal.int IntKind.u8 n0] ∧
  [P0, P1, Obj.var (encSS (SS.mk 0 el ar dl pe rf pt wd))] =
  [p0H [P0, P1, Obj.var (encSS (SS.mk 0 el ar dl pe rf pt wd))],
  p1H [P0, P1, Obj.var (encSS (SS.mk 0 el ar dl pe rf pt wd))],
  Obj.var (cells0H [P0, P1, Obj.var (encSS (SS.mk 0 el ar dl pe rf pt wd))])]) then
  bif n1 == 0 then
  k
  (Out.ret (AVal.tuple [])
  [p0H [P0, P1, Obj.var (encSS (SS.mk 0 el ar dl pe rf pt wd))],
  p1H [P0, P1, Obj.var (encSS (SS.mk 0 el ar dl pe rf pt wd))],
  Obj.var (encSS (C (cells0H [P0, P1, Obj.var (encSS (SS.mk 0 el ar dl pe rf pt wd))]) n0).s)])
  else
  k
  (Out.panic (errV n1)
  [p0H [P0, P1, Obj.var (encSS (SS.mk 0 el ar dl pe rf pt wd))],
  p1H [P0, P1, Obj.var (encSS (SS.mk 0 el ar dl pe rf pt wd))],
  Obj.var (encSS (C (cells0H [P0, P1, Obj.var (encSS (SS.mk 0 el ar dl pe rf pt wd))]) n0).s)])
  else none) := by kernel_rfl
theorem smst15_fun (C : FC) (el ar : Bs) (dl : UInt8) (pe rf : Bs) (pt : Int) (wd : Bs) (c : UInt8) (P0 P1 : Obj) (k : Out → Ans) : iFun Tryz.prog ((layS0 C).hd Tryz.prog) (layS0 C).fhs 0 23 [.ptr (.hp 2) 0, .int .u8 c.toNat] [P0, P1, .var (encSS ⟨15, el, ar, dl, pe, rf, pt, wd⟩)] k = (
  bif (↑c.toNat : Int) == 62 then
  k
  (Out.ret (AVal.tuple [])
  [P0, P1,
  Obj.var
  [AVal.int IntKind.i64 0, AVal.str [], AVal.str [], AVal.int IntKind.u8 0, AVal.str [], AVal.str [],
  AVal.int IntKind.i64 0, AVal.str []]])
  else k (Out.ret (AVal.tuple []) [P0, P1, Obj.var (encSS (SS.mk 15 el ar dl pe rf pt wd))])) := by kernel_rfl
def okE : List AVal → Prop := fun x => (decSS x).el.length ≤ 900
noncomputable def layS1 (C Bg BE T W A Wa V Re Ra : FC) : Lay := (((((((((Lay.nil.addF 33 (mcTold okT C)).addF 34 (mcTold okT Bg)).addF 35 (mcTold okT BE)).addF 36 (mcTold okT T)).addF 37 (mcTold okT W)).addF 38 (mcTold okT A)).addF 39 (mcTold okT Wa)).addF 40 (mcTold okT V)).addF 41 (mcTold okT Re)).addF 42 (mcTold okE Ra)
end Go.Mu
set_option linter.unusedVariables false
set_option linter.unusedSimpArgs false
set_option maxRecDepth 100000
namespace Go.Mu
open Go Go.Proofs
variable (P0 P1 : Obj)
/- data, bogus -/
def ok0 (s : SS) : Prop := s.k = 0 ∨ s.k = 15
noncomputable def stepB (s : SS) (c : UInt8) : ScR := bif s.k == 0 then dataS oneP unfM s c else bogusS s c
theorem layS0_ok : (layS0 charX).OK Tryz.prog := Lay.nil_ok.addF mcChar_ok
theorem stepB_ok (s : SS) (c : UInt8) (h : OkM s) (hk : ok0 s) : CallOK Tryz.prog 23 [.ptr (.hp 2) 0, .int .u8 c.toNat] [P0, P1, .var (encSS s)] (scOut P0 P1 (stepB s c)) := layS0_ok.call (fun k => by
  obtain ⟨sk, el, ar, dl, pe, rf, pt, wd⟩ := s
  rcases hk with hk | hk
  · have hk : sk = 0 := hk
    subst hk
    refine (smst0_fun charX el ar dl pe rf pt wd c P0 P1 k).trans ?_
    simp only [okc_u8, ek60, cond_true]
    show _ = k (scOut P0 P1 (dataS oneP unfM ⟨0, el, ar, dl, pe, rf, pt, wd⟩ c))
    unfold dataS
    cases c == 60 with
    | true => rfl
    | false => exact (call_tail P0 P1 ⟨⟨⟨OkR_enc h, trivial⟩, by trivial⟩, .refl _, rfl⟩ (charX (encSS ⟨0, el, ar, dl, pe, rf, pt, wd⟩) c.toNat) k).trans (congrArg (fun r => k (scOut P0 P1 r)) (charX_enc _ c))
  · have hk : sk = 15 := hk
    subst hk
    refine (smst15_fun charX el ar dl pe rf pt wd c P0 P1 k).trans ?_
    simp only [okc_u8, ek62, cond_true]
    show _ = k (scOut P0 P1 (bogusS ⟨15, el, ar, dl, pe, rf, pt, wd⟩ c))
    unfold bogusS
    cases c == 62 <;> rfl)
noncomputable def stepBX : FC := fun x n => stepB (decSS x) (u8 n)
theorem stepBX_enc (s : SS) (c : UInt8) : stepBX (encSS s) c.toNat = stepB s c := by unfold stepBX; rw [decSS_enc, u8_back]
def ok0R : List AVal → Prop := fun x => ok0 (decSS x)
theorem ok0R_enc {s : SS} (h : ok0 s) : ok0R (encSS s) := by unfold ok0R; rw [decSS_enc]; exact h
theorem mcStepB_ok : ∀ xs H k out, mcTold ok0R stepBX xs H k = some out → ∃ o, CallOK Tryz.prog 23 xs H o ∧ k o = some out := mcTold_ok (ok := ok0) stepB_ok
theorem layB0_ok : (layB0 letterR ok0R stepBX).OK Tryz.prog := ((Lay.nil_ok.addF letterT_ok).addF lowTold_ok).addF mcStepB_ok
theorem ok_ss0 : OkM ss0 := ⟨by decide, by decide, by decide, by decide, ⟨by decide, by decide, by decide⟩⟩
theorem mbegin_ok (s : SS) (c : UInt8) (h : OkM s) (_ : True) : CallOK Tryz.prog 34 [.ptr (.hp 2) 0, .int .u8 c.toNat] [P0, P1, .var (encSS s)] (scOut P0 P1 (beginS oneP unfM s c)) := layB0_ok.call (fun k => by
  refine (smbegin_fun letterR ok0R stepBX s c P0 P1 k).trans ?_
  simp only [okc_u8, letterR_u8, ek47, ek33, ek63, low1, cond_true]
  unfold beginS
  cases letterB c with
  | true => rfl
  | false =>
    cases c == 47 with
    | true => rfl
    | false =>
      cases c == 33 with
      | true => rfl
      | false =>
        cases c == 63 with
        | true => rfl
        | false => exact (call_tail P0 P1 ⟨⟨⟨OkR_enc ok_ss0, ok0R_enc (s := ss0) (.inl rfl)⟩, by trivial⟩, .refl _, rfl⟩ (stepBX (encSS ss0) c.toNat) k).trans (congrArg (fun r => k (scOut P0 P1 r)) (stepBX_enc ss0 c)))
noncomputable def beginX : FC := fun x n => beginS oneP unfM (decSS x) (u8 n)
theorem beginX_enc (s : SS) (c : UInt8) : beginX (encSS s) c.toNat = beginS oneP unfM s c := by unfold beginX; rw [decSS_enc, u8_back]
theorem mcBegin_ok : ∀ xs H k out, mcTold okT beginX xs H k = some out → ∃ o, CallOK Tryz.prog 34 xs H o ∧ k o = some out := mcTold_ok (ok := fun _ => True) mbegin_ok
theorem mbeginE_ok (s : SS) (c : UInt8) (h : OkM s) (_ : True) : CallOK Tryz.prog 35 [.ptr (.hp 2) 0, .int .u8 c.toNat] [P0, P1, .var (encSS s)] (scOut P0 P1 (beginEndS s c)) := layB0_ok.call (fun k => by
  refine (smbeginE_fun letterR ok0R stepBX s c P0 P1 k).trans ?_
  simp only [okc_u8, letterR_u8, ek62, low1, cond_true]
  unfold beginEndS
  cases letterB c with
  | true => rfl
  | false => cases c == 62 <;> rfl)
noncomputable def beginEX : FC := fun x n => beginEndS (decSS x) (u8 n)
theorem beginEX_enc (s : SS) (c : UInt8) : beginEX (encSS s) c.toNat = beginEndS s c := by unfold beginEX; rw [decSS_enc, u8_back]
theorem mcBeginE_ok : ∀ xs H k out, mcTold okT beginEX xs H k = some out → ∃ o, CallOK Tryz.prog 35 xs H o ∧ k o = some out := mcTold_ok (ok := fun _ => True) mbeginE_ok
theorem mrem_ok (s : SS) (c : UInt8) (h : OkM s) (_ : True) : CallOK Tryz.prog 41 [.ptr (.hp 2) 0, .int .u8 c.toNat] [P0, P1, .var (encSS s)] (scOut P0 P1 (remarkS s c)) := layB0_ok.call (fun k => by
  refine (smrem_fun letterR ok0R stepBX s c P0 P1 k).trans ?_
  have hp := h.pe
  simp only [okc_u8, ek45, ek62, bif_and, dT (show s.pe.length + 1 ≤ 4611686018427387904 by omega), cond_true, bne]
  unfold remarkS
  simp only [bne]
  cases s.k == 13 && c == 45 with
  | true => rfl
  | false =>
    cases s.k == 14 && c == 45 with
    | true => rfl
    | false =>
      cases s.k == 16 with
      | false => exact (call_tail P0 P1 ⟨⟨⟨OkR_enc (h.kd 15), ok0R_enc (s := { s with k := 15 }) (.inr rfl)⟩, by trivial⟩, .refl _, rfl⟩ (stepBX (encSS { s with k := 15 }) c.toNat) k).trans (congrArg (fun r => k (scOut P0 P1 r)) (stepBX_enc { s with k := 15 } c))
      | true =>
        cases hA : c == 45 && !(s.pe == [45, 45]) with
        | true => rfl
        | false => cases hB : c == 62 && s.pe == [45, 45] <;> cases c == 45 <;> rfl)
noncomputable def remX : FC := fun x n => remarkS (decSS x) (u8 n)
theorem remX_enc (s : SS) (c : UInt8) : remX (encSS s) c.toNat = remarkS s c := by unfold remX; rw [decSS_enc, u8_back]
theorem mcRem_ok : ∀ xs H k out, mcTold okT remX xs H k = some out → ∃ o, CallOK Tryz.prog 41 xs H o ∧ k o = some out := mcTold_ok (ok := fun _ => True) mrem_ok
/- waits, plain, raw -/
theorem layWt_ok : (layWt startsB).OK Tryz.prog := Lay.nil_ok.addF startsTold_ok
theorem mwaits_ok (s : SS) (t : Bs) (h : OkM s) (ht : t.length ≤ 100000) : CallOK Tryz.prog 56 [.ptr (.hp 2) 0, .str t] [P0, P1, .var (encSS s)] (.ret (.bool (waitsB s t)) [P0, P1, .var (encSS s)]) := layWt_ok.call (fun k => by
  refine (smwaits_fun startsB s t P0 P1 k).trans ?_
  have hl := h.el
  have e1 : (60 :: 47 :: s.el : Bs).length = s.el.length + 2 := rfl
  simp only [e1, dT (show 2 + s.el.length ≤ 4611686018427387904 by omega), dT (show s.el.length + 2 ≤ 1048576 by omega), dT (show t.length ≤ 1048576 by omega), Bool.and_self, cond_true, bif_or, bif_and]
  rfl)
noncomputable def waitsX : List AVal → Bs → Bool := fun x t => waitsB (decSS x) t
theorem waitsX_enc (s : SS) (t : Bs) : waitsX (encSS s) t = waitsB s t := by unfold waitsX; rw [decSS_enc]
theorem wtTold_ok : ∀ xs H k out, wtTold waitsX xs H k = some out → ∃ o, CallOK Tryz.prog 56 xs H o ∧ k o = some out := mkF_ok fun a ha => by
  obtain ⟨⟨P0, P1, x⟩, t⟩ := a
  obtain ⟨⟨h1, h2⟩, h3⟩ := ha
  simp only at h1 h2 h3
  obtain ⟨s, rfl⟩ := isS_get h1
  rw [decSS_enc] at h2
  refine ⟨_, fun k => rfl, ?_⟩
  show CallOK _ _ _ _ (.ret (.bool (waitsX (encSS s) t)) [P0, P1, .var (encSS s)])
  rw [waitsX_enc]
  exact mwaits_ok P0 P1 s t h2 h3
theorem layPl_ok : (layPl subX flushX charX).OK Tryz.prog := ((Lay.nil_ok.addF mxSub_ok).addF m0Flush_ok).addF mcChar_ok
theorem mplain_ok (s : SS) (c : UInt8) (h : OkM s) (_ : True) : CallOK Tryz.prog 55 [.ptr (.hp 2) 0, .int .u8 c.toNat] [P0, P1, .var (encSS s)] (scOut P0 P1 (plainS oneP unfM s c)) := layPl_ok.call (fun k => by
  refine (smplain_fun subX flushX charX s c P0 P1 k).trans ?_
  have ef : flushX (encSS s) = flushS s := flushX_enc s
  simp only [okc_u8, ek60, byteOf0]
  unfold plainS
  cases c == 60 with
  | true =>
    cases s.k == 17 with
    | true =>
      refine Eq.trans ?_ (call_then P0 P1 (p := OkR (encSS s) ∧ SubL [AVal.ptr (Oid.hp 2) 0] [AVal.ptr (Oid.hp 2) 0] ∧ eqH P0 P1 (encSS s)) ⟨OkR_enc h, .refl _, rfl⟩ (flushS s) (fun s => sOk { s with pe := [60] }) _ k (fun _ => rfl))
      rw [← ef]
      rfl
    | false => rfl
  | false =>
    cases s.k == 17 with
    | true => exact (call_tail P0 P1 ⟨⟨⟨OkR_enc h, trivial⟩, by trivial⟩, .refl _, rfl⟩ (charX (encSS s) c.toNat) k).trans (congrArg (fun r => k (scOut P0 P1 r)) (charX_enc s c))
    | false => exact (call_tail P0 P1 ⟨⟨OkR_enc h, by omega⟩, .refl _, rfl⟩ (subX (encSS s) [c]) k).trans (congrArg (fun r => k (scOut P0 P1 r)) (subX_enc s [c])))
noncomputable def plainX : FC := fun x n => plainS oneP unfM (decSS x) (u8 n)
theorem plainX_enc (s : SS) (c : UInt8) : plainX (encSS s) c.toNat = plainS oneP unfM s c := by unfold plainX; rw [decSS_enc, u8_back]
theorem mcPlain_ok : ∀ xs H k out, mcTold okT plainX xs H k = some out → ∃ o, CallOK Tryz.prog 55 xs H o ∧ k o = some out := mcTold_ok (ok := fun _ => True) mplain_ok
theorem layRw_ok : (layRw blankR subX waitsX plainX tagX).OK Tryz.prog := ((((Lay.nil_ok.addF blankT_ok).addF mxSub_ok).addF wtTold_ok).addF mcPlain_ok).addF mcTag_ok
theorem mraw_ok (s : SS) (c : UInt8) (h : OkM s) (he : s.el.length ≤ 900) : CallOK Tryz.prog 42 [.ptr (.hp 2) 0, .int .u8 c.toNat] [P0, P1, .var (encSS s)] (scOut P0 P1 (rawS oneP unfM s c)) := layRw_ok.call (fun k => by
  refine (smraw_fun blankR subX waitsX plainX tagX s c P0 P1 k).trans ?_
  have hp := h.pe
  have hl := h.el
  have h0 : OkM { s with pe := [] } := ⟨h.el, h.ar, by simp, h.rf, h.pw⟩
  have ht : OkM { ss0 with k := 4, el := 47 :: s.el } := ⟨by show (47 :: s.el : Bs).length ≤ 1000; rw [List.length_cons]; omega, ok_ss0.ar, ok_ss0.pe, ok_ss0.rf, ok_ss0.pw⟩
  have w1 : IntKind.i64.wrap ((s.el.length : Int) + 2) = (s.el.length : Int) + 2 := wrap_of (by omega) (by omega)
  have ew : waitsX (cells0H [P0, P1, Obj.var (encSS s)]) (s.pe ++ [c]) = waitsB s (s.pe ++ [c]) := waitsX_enc s _
  have ea : List.append s.pe [c] = s.pe ++ [c] := rfl
  have la : (s.pe ++ [c]).length = s.pe.length + 1 := by rw [List.length_append]; rfl
  have el : ((s.pe.length : Int) == (s.el.length : Int) + 2) = (s.pe.length == s.el.length + 2) := by rw [Bool.eq_iff_iff, beq_iff_eq, beq_iff_eq]; omega
  simp only [okc_u8, blankR_u8, ek47, ek62, byteOf0, ea, w1, ew, el, eqk (s.pe.getD 1 0) 47 (n := 47) rfl, dT (show s.pe.length + 1 ≤ 4611686018427387904 by omega), dT (show 1 + s.el.length ≤ 4611686018427387904 by omega), cond_true, bif_or, bif_and]
  have hs' := sub_okM h0 s.pe
  have fin := call_then P0 P1 (p := (OkR (encSS { s with pe := [] }) ∧ s.pe.length ≤ 1048576) ∧ SubL [AVal.ptr (Oid.hp 2) 0, AVal.str s.pe] [AVal.ptr (Oid.hp 2) 0, AVal.str s.pe] ∧ eqH P0 P1 (encSS { s with pe := [] })) ⟨⟨OkR_enc h0, by omega⟩, .refl _, rfl⟩ (subS { s with pe := [] } s.pe) (fun s => plainS oneP unfM s c) _ k (fun _ => (call_tail P0 P1 (p := ((OkR (encSS (subS { s with pe := [] } s.pe).s) ∧ okT (encSS (subS { s with pe := [] } s.pe).s)) ∧ True) ∧ SubL [AVal.ptr (Oid.hp 2) 0, AVal.int IntKind.u8 c.toNat] [AVal.ptr (Oid.hp 2) 0, AVal.int IntKind.u8 c.toNat] ∧ eqH P0 P1 (encSS (subS { s with pe := [] } s.pe).s)) ⟨⟨⟨OkR_enc hs', trivial⟩, trivial⟩, .refl _, rfl⟩ (plainX (encSS (subS { s with pe := [] } s.pe).s) c.toNat) k).trans (congrArg (fun r => k (scOut P0 P1 r)) (plainX_enc _ c)))
  rw [← subX_enc { s with pe := [] } s.pe] at fin
  unfold rawS
  rw [← subX_enc { s with pe := [] } s.pe]
  cases s.pe == [] with
  | true => exact (call_tail P0 P1 ⟨⟨⟨OkR_enc h, trivial⟩, by trivial⟩, .refl _, rfl⟩ (plainX (encSS s) c.toNat) k).trans (congrArg (fun r => k (scOut P0 P1 r)) (plainX_enc s c))
  | false =>
    refine (congrArg (fun c => cond c _ none) (tst_true ⟨⟨OkR_enc h, by rw [la]; omega⟩, .refl _, rfl⟩)).trans ((cond_true _ _).trans ?_)
    cases waitsB s (s.pe ++ [c]) with
    | true =>
      simp only [bne]
      cases (s.pe ++ [c] == [60, 33, 45, 45]) <;> rfl
    | false =>
      cases hlen : s.pe.length == s.el.length + 2 with
      | true =>
        have h2 : s.pe.length = s.el.length + 2 := by simpa using hlen
        simp only [dT (show (1 : Int) < (s.pe.length : Int) by omega), Bool.true_or, cond_true, cond_false, Bool.true_and]
        cases s.pe.getD 1 0 == 47 && (blankB c || c == 47 || c == 62) with
        | true => exact (call_tail P0 P1 ⟨⟨⟨OkR_enc ht, trivial⟩, by trivial⟩, .refl _, rfl⟩ (tagX (encSS { ss0 with k := 4, el := 47 :: s.el }) c.toNat) k).trans (congrArg (fun r => k (scOut P0 P1 r)) (tagX_enc _ c))
        | false => exact fin
      | false =>
        simp only [Bool.not_false, Bool.or_true, cond_true, cond_false, Bool.false_and]
        exact fin)
noncomputable def rawX : FC := fun x n => rawS oneP unfM (decSS x) (u8 n)
theorem rawX_enc (s : SS) (c : UInt8) : rawX (encSS s) c.toNat = rawS oneP unfM s c := by unfold rawX; rw [decSS_enc, u8_back]
theorem mcRaw_ok : ∀ xs H k out, mcTold okE rawX xs H k = some out → ∃ o, CallOK Tryz.prog 42 xs H o ∧ k o = some out := mcTold_ok (ok := fun s => s.el.length ≤ 900) mraw_ok
end Go.Mu
set_option linter.unusedVariables false
set_option linter.unusedSimpArgs false
set_option maxRecDepth 100000
namespace Go.Mu
open Go Go.Proofs
noncomputable def layStp0 (M : List AVal → Int) (F : FC) : Lay := (Lay.nil.addF 12 (ksTold M)).addF 23 (mcTold okE F)
noncomputable def layStp (M : List AVal → Int) (F : FC) : Lay := (layStp0 M F).addL 13 { heap := [4, 5, 17] }
theorem stp_fun (M : List AVal → Int) (F : FC) (s : SS) (c : UInt8) (k : Out → Ans) : iFun Tryz.prog ((layStp M F).hd Tryz.prog) (layStp M F).fhs 0 13 [.agg (encSS s), .int .u8 c.toNat] [] k = (
 let n0 : Int :=
  M
  (cellsG
  (AVal.agg
  [AVal.int IntKind.i64 s.k, AVal.str s.el, AVal.str s.ar, AVal.int IntKind.u8 (↑s.dl.toNat : Int), AVal.str s.pe,
  AVal.str s.rf, AVal.int IntKind.i64 s.pt, AVal.str s.wd]));
 let n1 : Int := (↑c.toNat : Int);
 let n2 : Int :=
  (F
  (cells0H
  [Obj.var
  [AVal.int IntKind.i64 0, AVal.str [], AVal.str [], AVal.int IntKind.u8 0, AVal.str [], AVal.str [],
  AVal.int IntKind.i64 0, AVal.str []],
  Obj.var [AVal.int IntKind.i64 0],
  Obj.var
  [AVal.int IntKind.i64 s.k, AVal.str s.el, AVal.str s.ar, AVal.int IntKind.u8 (↑s.dl.toNat : Int),
  AVal.str s.pe, AVal.str s.rf, AVal.int IntKind.i64 s.pt, AVal.str s.wd]])
  n1).e;
  bif
  tst
  (isS
  (cellsG
  (AVal.agg
  [AVal.int IntKind.i64 s.k, AVal.str s.el, AVal.str s.ar, AVal.int IntKind.u8 (↑s.dl.toNat : Int),
  AVal.str s.pe, AVal.str s.rf, AVal.int IntKind.i64 s.pt, AVal.str s.wd])) ∧
  SubL
  [AVal.agg
  [AVal.int IntKind.i64 s.k, AVal.str s.el, AVal.str s.ar, AVal.int IntKind.u8 (↑s.dl.toNat : Int),
  AVal.str s.pe, AVal.str s.rf, AVal.int IntKind.i64 s.pt, AVal.str s.wd]]
  [AVal.agg
  (cellsG
  (AVal.agg
  [AVal.int IntKind.i64 s.k, AVal.str s.el, AVal.str s.ar, AVal.int IntKind.u8 (↑s.dl.toNat : Int),
  AVal.str s.pe, AVal.str s.rf, AVal.int IntKind.i64 s.pt, AVal.str s.wd]))] ∧
  ([] : Heap) = []) then
  bif n0 != 0 then
  k
  (Out.ret
  (AVal.tuple
  [AVal.agg
  [AVal.int IntKind.i64 0, AVal.str [], AVal.str [], AVal.int IntKind.u8 0, AVal.str [], AVal.str [],
  AVal.int IntKind.i64 0, AVal.str []],
  AVal.int IntKind.i64 n0])
  [Obj.var
  [AVal.int IntKind.i64 0, AVal.str [], AVal.str [], AVal.int IntKind.u8 0, AVal.str [], AVal.str [],
  AVal.int IntKind.i64 0, AVal.str []],
  Obj.var [AVal.int IntKind.i64 n0]])
  else
  bif
  tst
  (((OkR
  (cells0H
  [Obj.var
  [AVal.int IntKind.i64 0, AVal.str [], AVal.str [], AVal.int IntKind.u8 0, AVal.str [],
  AVal.str [], AVal.int IntKind.i64 0, AVal.str []],
  Obj.var [AVal.int IntKind.i64 0],
  Obj.var
  [AVal.int IntKind.i64 s.k, AVal.str s.el, AVal.str s.ar,
  AVal.int IntKind.u8 (↑s.dl.toNat : Int), AVal.str s.pe, AVal.str s.rf,
  AVal.int IntKind.i64 s.pt, AVal.str s.wd]]) ∧
  okE
  (cells0H
  [Obj.var
  [AVal.int IntKind.i64 0, AVal.str [], AVal.str [], AVal.int IntKind.u8 0, AVal.str [],
  AVal.str [], AVal.int IntKind.i64 0, AVal.str []],
  Obj.var [AVal.int IntKind.i64 0],
  Obj.var
  [AVal.int IntKind.i64 s.k, AVal.str s.el, AVal.str s.ar,
  AVal.int IntKind.u8 (↑s.dl.toNat : Int), AVal.str s.pe, AVal.str s.rf,
  AVal.int IntKind.i64 s.pt, AVal.str s.wd]])) ∧
  okc n1 = true) ∧
  SubL [AVal.ptr (Oid.hp 2) 0, AVal.int IntKind.u8 n1] [AVal.ptr (Oid.hp 2) 0, AVal.int IntKind.u8 n1] ∧
  [Obj.var
  [AVal.int IntKind.i64 0, AVal.str [], AVal.str [], AVal.int IntKind.u8 0, AVal.str [], AVal.str [],
  AVal.int IntKind.i64 0, AVal.str []],
  Obj.var [AVal.int IntKind.i64 0],
  Obj.var
  [AVal.int IntKind.i64 s.k, AVal.str s.el, AVal.str s.ar, AVal.int IntKind.u8 (↑s.dl.toNat : Int),
  AVal.str s.pe, AVal.str s.rf, AVal.int IntKind.i64 s.pt, AVal.str s.wd]] =
  [p0H
  [Obj.var
  [AVal.int IntKind.i64 0, AVal.str [], AVal.str [], AVal.int IntKind.u8 0, AVal.str [],
  AVal.str [], AVal.int IntKind.i64 0, AVal.str []],
  Obj.var [AVal.int IntKind.i64 0],
  Obj.var
  [AVal.int IntKind.i64 s.k, AVal.str s.el, AVal.str s.ar,
  AVal.int IntKind.u8 (↑s.dl.toNat : Int), AVal.str s.pe, AVal.str s.rf,
  AVal.int IntKind.i64 s.pt, AVal.str s.wd]],
  p1H
  [Obj.var
  [AVal.int IntKind.i64 0, AVal.str [], AVal.str [], AVal.int IntKind.u8 0, AVal.str [],
  AVal.str [], AVal.int IntKind.i64 0, AVal.str []],
  Obj.var [AVal.int IntKind.i64 0],
  Obj.var
  [AVal.int IntKind.i64 s.k, AVal.str s.el, AVal.str s.ar,
  AVal.int IntKind.u8 (↑s.dl.toNat : Int), AVal.str s.pe, AVal.str s.rf,
  AVal.int IntKind.i64 s.pt, AVal.str s.wd]],
  Obj.var
  (cells0H
  [Obj.var
  [AVal.int IntKind.i64 0, AVal.str [], AVal.str [], AVal.int IntKind.u8 0, AVal.str [],
  AVal.str [], AVal.int IntKind.i64 0, AVal.str []],
  Obj.var [AVal.int IntKind.i64 0],
  Obj.var
  [AVal.int IntKind.i64 s.k, AVal.str s.el, AVal.str s.ar,
  AVal.int IntKind.u8 (↑s.dl.toNat : Int), AVal.str s.pe, AVal.str s.rf,
  AVal.int IntKind.i64 s.pt, AVal.str s.wd]])]) then
  bif n2 == 0 then
  k
  (Out.ret
  (AVal.tuple
  [AVal.agg
  [AVal.int IntKind.i64
  (F
  (cells0H
  [Obj.var
  [AVal.int IntKind.i64 0, AVal.str [], AVal.str [], AVal.int IntKind.u8 0, AVal.str [],
  AVal.str [], AVal.int IntKind.i64 0, AVal.str []],
  Obj.var [AVal.int IntKind.i64 0],
  Obj.var
  [AVal.int IntKind.i64 s.k, AVal.str s.el, AVal.str s.ar,
  AVal.int IntKind.u8 (↑s.dl.toNat : Int), AVal.str s.pe, AVal.str s.rf,
  AVal.int IntKind.i64 s.pt, AVal.str s.wd]])
  n1).s.k,
  AVal.str
  (F
  (cells0H
  [Obj.var
  [AVal.int IntKind.i64 0, AVal.str [], AVal.str [], AVal.int IntKind.u8 0, AVal.str [],
  AVal.str [], AVal.int IntKind.i64 0, AVal.str []],
  Obj.var [AVal.int IntKind.i64 0],
  Obj.var
  [AVal.int IntKind.i64 s.k, AVal.str s.el, AVal.str s.ar,
  AVal.int IntKind.u8 (↑s.dl.toNat : Int), AVal.str s.pe, AVal.str s.rf,
  AVal.int IntKind.i64 s.pt, AVal.str s.wd]])
  n1).s.el,
  AVal.str
  (F
  (cells0H
  [Obj.var
  [AVal.int IntKind.i64 0, AVal.str [], AVal.str [], AVal.int IntKind.u8 0, AVal.str [],
  AVal.str [], AVal.int IntKind.i64 0, AVal.str []],
  Obj.var [AVal.int IntKind.i64 0],
  Obj.var
  [AVal.int IntKind.i64 s.k, AVal.str s.el, AVal.str s.ar,
  AVal.int IntKind.u8 (↑s.dl.toNat : Int), AVal.str s.pe, AVal.str s.rf,
  AVal.int IntKind.i64 s.pt, AVal.str s.wd]])
  n1).s.ar,
  AVal.int IntKind.u8
  (↑(F
  (cells0H
  [Obj.var
  [AVal.int IntKind.i64 0, AVal.str [], AVal.str [], AVal.int IntKind.u8 0,
  AVal.str [], AVal.str [], AVal.int IntKind.i64 0, AVal.str []],
  Obj.var [AVal.int IntKind.i64 0],
  Obj.var
  [AVal.int IntKind.i64 s.k, AVal.str s.el, AVal.str s.ar,
  AVal.int IntKind.u8 (↑s.dl.toNat : Int), AVal.str s.pe, AVal.str s.rf,
  AVal.int IntKind.i64 s.pt, AVal.str s.wd]])
  n1).s.dl.toNat :
  Int),
  AVal.str
  (F
  (cells0H
  [Obj.var
  [AVal.int IntKind.i64 0, AVal.str [], AVal.str [], AVal.int IntKind.u8 0, AVal.str [],
  AVal.str [], AVal.int IntKind.i64 0, AVal.str []],
  Obj.var [AVal.int IntKind.i64 0],
  Obj.var
  [AVal.int IntKind.i64 s.k, AVal.str s.el, AVal.str s.ar,
  AVal.int IntKind.u8 (↑s.dl.toNat : Int), AVal.str s.pe, AVal.str s.rf,
  AVal.int IntKind.i64 s.pt, AVal.str s.wd]])
  n1).s.pe,
  AVal.str
  (F
  (cells0H
  [Obj.var
  [AVal.int IntKind.i64 0, AVal.str [], AVal.str [], AVal.int IntKind.u8 0, AVal.str [],
  AVal.str [], AVal.int IntKind.i64 0, AVal.str []],
  Obj.var [AVal.int IntKind.i64 0],
  Obj.var
  [AVal.int IntKind.i64 s.k, AVal.str s.el, AVal.str s.ar,
  AVal.int IntKind.u8 (↑s.dl.toNat : Int), AVal.str s.pe, AVal.str s.rf,
  AVal.int IntKind.i64 s.pt, AVal.str s.wd]])
  n1).s.rf,
  AVal.int IntKind.i64
  (F
  (cells0H
  [Obj.var
  [AVal.int IntKind.i64 0, AVal.str [], AVal.str [], AVal.int IntKind.u8 0, AVal.str [],
  AVal.str [], AVal.int IntKind.i64 0, AVal.str []],
  Obj.var [AVal.int IntKind.i64 0],
  Obj.var
  [AVal.int IntKind.i64 s.k, AVal.str s.el, AVal.str s.ar,
  AVal.int IntKind.u8 (↑s.dl.toNat : Int), AVal.str s.pe, AVal.str s.rf,
  AVal.int IntKind.i64 s.pt, AVal.str s.wd]])
  n1).s.pt,
  AVal.str
  (F
  (cells0H
  [Obj.var
  [AVal.int IntKind.i64 0, AVal.str [], AVal.str [], AVal.int IntKind.u8 0, AVal.str [],
  AVal.str [], AVal.int IntKind.i64 0, AVal.str []],
  Obj.var [AVal.int IntKind.i64 0],
  Obj.var
  [AVal.int IntKind.i64 s.k, AVal.str s.el, AVal.str s.ar,
  AVal.int IntKind.u8 (↑s.dl.toNat : Int), AVal.str s.pe, AVal.str s.rf,
  AVal.int IntKind.i64 s.pt, AVal.str s.wd]])
  n1).s.wd],
  AVal.int IntKind.i64 0])
  [Obj.var
  [AVal.int IntKind.i64
  (F
  (cells0H
  [Obj.var
  [AVal.int IntKind.i64 0, AVal.str [], AVal.str [], AVal.int IntKind.u8 0, AVal.str [],
  AVal.str [], AVal.int IntKind.i64 0, AVal.str []],
  Obj.var [AVal.int IntKind.i64 0],
  Obj.var
  [AVal.int IntKind.i64 s.k, AVal.str s.el, AVal.str s.ar,
  AVal.int IntKind.u8 (↑s.dl.toNat : Int), AVal.str s.pe, AVal.str s.rf,
  AVal.int IntKind.i64 s.pt, AVal.str s.wd]])
  n1).s.k,
  AVal.str
  (F
  (cells0H
  [Obj.var
  [AVal.int IntKind.i64 0, AVal.str [], AVal.str [], AVal.int IntKind.u8 0, AVal.str [],
  AVal.str [], AVal.int IntKind.i64 0, AVal.str []],
  Obj.var [AVal.int IntKind.i64 0],
  Obj.var
  [AVal.int IntKind.i64 s.k, AVal.str s.el, AVal.str s.ar,
  AVal.int IntKind.u8 (↑s.dl.toNat : Int), AVal.str s.pe, AVal.str s.rf,
  AVal.int IntKind.i64 s.pt, AVal.str s.wd]])
  n1).s.el,
  AVal.str
  (F
  (cells0H
  [Obj.var
  [AVal.int IntKind.i64 0, AVal.str [], AVal.str [], AVal.int IntKind.u8 0, AVal.str [],
  AVal.str [], AVal.int IntKind.i64 0, AVal.str []],
  Obj.var [AVal.int IntKind.i64 0],
  Obj.var
  [AVal.int IntKind.i64 s.k, AVal.str s.el, AVal.str s.ar,
  AVal.int IntKind.u8 (↑s.dl.toNat : Int), AVal.str s.pe, AVal.str s.rf,
  AVal.int IntKind.i64 s.pt, AVal.str s.wd]])
  n1).s.ar,
  AVal.int IntKind.u8
  (↑(F
  (cells0H
  [Obj.var
  [AVal.int IntKind.i64 0, AVal.str [], AVal.str [], AVal.int IntKind.u8 0,
  AVal.str [], AVal.str [], AVal.int IntKind.i64 0, AVal.str []],
  Obj.var [AVal.int IntKind.i64 0],
  Obj.var
  [AVal.int IntKind.i64 s.k, AVal.str s.el, AVal.str s.ar,
  AVal.int IntKind.u8 (↑s.dl.toNat : Int), AVal.str s.pe, AVal.str s.rf,
  AVal.int IntKind.i64 s.pt, AVal.str s.wd]])
  n1).s.dl.toNat :
  Int),
  AVal.str
  (F
  (cells0H
  [Obj.var
  [AVal.int IntKind.i64 0, AVal.str [], AVal.str [], AVal.int IntKind.u8 0, AVal.str [],
  AVal.str [], AVal.int IntKind.i64 0, AVal.str []],
  Obj.var [AVal.int IntKind.i64 0],
  Obj.var
  [AVal.int IntKind.i64 s.k, AVal.str s.el, AVal.str s.ar,
  AVal.int IntKind.u8 (↑s.dl.toNat : Int), AVal.str s.pe, AVal.str s.rf,
  AVal.int IntKind.i64 s.pt, AVal.str s.wd]])
  n1).s.pe,
  AVal.str
  (F
  (cells0H
  [Obj.var
  [AVal.int IntKind.i64 0, AVal.str [], AVal.str [], AVal.int IntKind.u8 0, AVal.str [],
  AVal.str [], AVal.int IntKind.i64 0, AVal.str []],
  Obj.var [AVal.int IntKind.i64 0],
  Obj.var
  [AVal.int IntKind.i64 s.k, AVal.str s.el, AVal.str s.ar,
  AVal.int IntKind.u8 (↑s.dl.toNat : Int), AVal.str s.pe, AVal.str s.rf,
  AVal.int IntKind.i64 s.pt, AVal.str s.wd]])
  n1).s.rf,
  AVal.int IntKind.i64
  (F
  (cells0H
  [Obj.var
  [AVal.int IntKind.i64 0, AVal.str [], AVal.str [], AVal.int IntKind.u8 0, AVal.str [],
  AVal.str [], AVal.int IntKind.i64 0, AVal.str []],
  Obj.var [AVal.int IntKind.i64 0],
  Obj.var
  [AVal.int IntKind.i64 s.k, AVal.str s.el, AVal.str s.ar,
  AVal.int IntKind.u8 (↑s.dl.toNat : Int), AVal.str s.pe, AVal.str s.rf,
  AVal.int IntKind.i64 s.pt, AVal.str s.wd]])
  n1).s.pt,
  AVal.str
  (F
  (cells0H
  [Obj.var
  [AVal.int IntKind.i64 0, AVal.str [], AVal.str [], AVal.int IntKind.u8 0, AVal.str [],
  AVal.str [], AVal.int IntKind.i64 0, AVal.str []],
  Obj.var [AVal.int IntKind.i64 0],
  Obj.var
  [AVal.int IntKind.i64 s.k, AVal.str s.el, AVal.str s.ar,
  AVal.int IntKind.u8 (↑s.dl.toNat : Int), AVal.str s.pe, AVal.str s.rf,
  AVal.int IntKind.i64 s.pt, AVal.str s.wd]])
  n1).s.wd],
  Obj.var [AVal.int IntKind.i64 0],
  Obj.var
  (encSS
  (F
  (cells0H
  [Obj.var
  [AVal.int IntKind.i64 0, AVal.str [], AVal.str [], AVal.int IntKind.u8 0, AVal.str [],
  AVal.str [], AVal.int IntKind.i64 0, AVal.str []],
  Obj.var [AVal.int IntKind.i64 0],
  Obj.var
  [AVal.int IntKind.i64 s.k, AVal.str s.el, AVal.str s.ar,
  AVal.int IntKind.u8 (↑s.dl.toNat : Int), AVal.str s.pe, AVal.str s.rf,
  AVal.int IntKind.i64 s.pt, AVal.str s.wd]])
  n1).s)])
  else
  k
  (Out.ret
  (AVal.tuple
  [AVal.agg
  [AVal.int IntKind.i64 0, AVal.str [], AVal.str [], AVal.int IntKind.u8 0, AVal.str [], AVal.str [],
  AVal.int IntKind.i64 0, AVal.str []],
  AVal.int IntKind.i64 n2])
  [Obj.var
  [AVal.int IntKind.i64 0, AVal.str [], AVal.str [], AVal.int IntKind.u8 0, AVal.str [], AVal.str [],
  AVal.int IntKind.i64 0, AVal.str []],
  Obj.var [AVal.int IntKind.i64 n2],
  Obj.var
  (encSS
  (F
  (cells0H
  [Obj.var
  [AVal.int IntKind.i64 0, AVal.str [], AVal.str [], AVal.int IntKind.u8 0, AVal.str [],
  AVal.str [], AVal.int IntKind.i64 0, AVal.str []],
  Obj.var [AVal.int IntKind.i64 0],
  Obj.var
  [AVal.int IntKind.i64 s.k, AVal.str s.el, AVal.str s.ar,
  AVal.int IntKind.u8 (↑s.dl.toNat : Int), AVal.str s.pe, AVal.str s.rf,
  AVal.int IntKind.i64 s.pt, AVal.str s.wd]])
  n1).s)])
  else none
  else none) := by kernel_rfl
/- Feed -/
noncomputable def sgTold (F : List AVal → Int → SS × Int) : FSp := mkF (fun xs H => (cellsG (xs.getD 0 .undef), aI xs 1)) (fun a => isS a.1 ∧ okc a.2 = true) (fun a => [.agg a.1, .int .u8 a.2]) (fun _ => []) (fun a k => k (.ret (.tuple [.agg (encSS (F a.1 a.2).1), .int .i64 (F a.1 a.2).2]) []))
abbrev FdR := List AVal → Bs → SS × Nat × Int
structure FmA where
  t : Bs
  x : List AVal
  i : Nat
  H : Heap
noncomputable def fmSp (R : FdR) : LSp := mkL (fun vs bs H => FmA.mk (aS vs 0) (bs.getD 0 []) (aI vs 4).toNat H) (fun a => isS a.x ∧ a.i = 0 ∧ a.t.length ≤ 1099511627776) (fun a => [.str a.t, .ptr (.tmp 2) 0, .ptr (.tmp 4) 0, .int .i64 a.t.length, .int .i64 (a.i : Nat)]) (fun a => [a.x, encSS ss0]) (fun a => a.H)
  (fun a k => cond ((R a.x a.t).2.2 != 0) (k .ret [.str a.t, .ptr (.tmp 2) 0, .ptr (.tmp 4) 0, .int .i64 ((R a.x a.t).2.1 : Nat), .int .i64 (R a.x a.t).2.2] [encSS (R a.x a.t).1, encSS ss0] a.H) (k (.exit 0) [.str a.t, .ptr (.tmp 2) 0, .ptr (.tmp 4) 0, .undef, .undef] [encSS (R a.x a.t).1, encSS ss0] a.H))
noncomputable def fmFH (R : FdR) : FH := .of [(5, loopSpec 38 [1,2,4,17,18] [2,4] [1,2,4,5,6] [2,4] (fmSp R))]
noncomputable def layFm0 (M : List AVal → Int) (F : List AVal → Int → SS × Int) : Lay := (Lay.nil.addF 12 (ksTold M)).addF 13 (sgTold F)
theorem fm_step (M : List AVal → Int) (F : List AVal → Int → SS × Int) (R : FdR) (t : Bs) (s : SS) (n i : Int) (H : Heap) (D : List (FuncId × List AVal)) (k : Kont) : lturn Tryz.prog (layFm0 M F) (fmFH R) 5 5 [1,2,4,17,18] [2,4] [1,2,4,5,6] [2,4] (stL 38 [1,2,4,17,18] [.str t, .ptr (.tmp 2) 0, .ptr (.tmp 4) 0, .int .i64 n, .int .i64 i] [2,4] [encSS s, encSS ss0] H D) k = (
 let n0 : Int := (↑(List.getD t i.toNat 0).toNat : Int);
 let n1 : Int :=
  (F
  (cellsG
  (AVal.agg
  [AVal.int IntKind.i64 s.k, AVal.str s.el, AVal.str s.ar, AVal.int IntKind.u8 (↑s.dl.toNat : Int),
  AVal.str s.pe, AVal.str s.rf, AVal.int IntKind.i64 s.pt, AVal.str s.wd]))
  n0).snd;
  bif decide (i < n) then
  bif decide (0 ≤ i) && decide (i < (↑(List.length t) : Int)) then
  bif
  tst
  ((isS
  (cellsG
  (AVal.agg
  [AVal.int IntKind.i64 s.k, AVal.str s.el, AVal.str s.ar, AVal.int IntKind.u8 (↑s.dl.toNat : Int),
  AVal.str s.pe, AVal.str s.rf, AVal.int IntKind.i64 s.pt, AVal.str s.wd])) ∧
  okc n0 = true) ∧
  SubL
  [AVal.agg
  [AVal.int IntKind.i64 s.k, AVal.str s.el, AVal.str s.ar, AVal.int IntKind.u8 (↑s.dl.toNat : Int),
  AVal.str s.pe, AVal.str s.rf, AVal.int IntKind.i64 s.pt, AVal.str s.wd],
  AVal.int IntKind.u8 n0]
  [AVal.agg
  (cellsG
  (AVal.agg
  [AVal.int IntKind.i64 s.k, AVal.str s.el, AVal.str s.ar,
  AVal.int IntKind.u8 (↑s.dl.toNat : Int), AVal.str s.pe, AVal.str s.rf,
  AVal.int IntKind.i64 s.pt, AVal.str s.wd])),
  AVal.int IntKind.u8 n0] ∧
  ([] : Heap) = []) then
  bif n1 != 0 then
  k AExit.ret
  (stL 38 [1, 2, 4, 5, 6]
  [AVal.str t, AVal.ptr (Oid.tmp 2) 0, AVal.ptr (Oid.tmp 4) 0, AVal.int IntKind.i64 i,
  AVal.int IntKind.i64 n1]
  [2, 4]
  [[AVal.int IntKind.i64
  (F
  (cellsG
  (AVal.agg
  [AVal.int IntKind.i64 s.k, AVal.str s.el, AVal.str s.ar,
  AVal.int IntKind.u8 (↑s.dl.toNat : Int), AVal.str s.pe, AVal.str s.rf,
  AVal.int IntKind.i64 s.pt, AVal.str s.wd]))
  n0).fst.k,
  AVal.str
  (F
  (cellsG
  (AVal.agg
  [AVal.int IntKind.i64 s.k, AVal.str s.el, AVal.str s.ar,
  AVal.int IntKind.u8 (↑s.dl.toNat : Int), AVal.str s.pe, AVal.str s.rf,
  AVal.int IntKind.i64 s.pt, AVal.str s.wd]))
  n0).fst.el,
  AVal.str
  (F
  (cellsG
  (AVal.agg
  [AVal.int IntKind.i64 s.k, AVal.str s.el, AVal.str s.ar,
  AVal.int IntKind.u8 (↑s.dl.toNat : Int), AVal.str s.pe, AVal.str s.rf,
  AVal.int IntKind.i64 s.pt, AVal.str s.wd]))
  n0).fst.ar,
  AVal.int IntKind.u8
  (↑(F
  (cellsG
  (AVal.agg
  [AVal.int IntKind.i64 s.k, AVal.str s.el, AVal.str s.ar,
  AVal.int IntKind.u8 (↑s.dl.toNat : Int), AVal.str s.pe, AVal.str s.rf,
  AVal.int IntKind.i64 s.pt, AVal.str s.wd]))
  n0).fst.dl.toNat :
  Int),
  AVal.str
  (F
  (cellsG
  (AVal.agg
  [AVal.int IntKind.i64 s.k, AVal.str s.el, AVal.str s.ar,
  AVal.int IntKind.u8 (↑s.dl.toNat : Int), AVal.str s.pe, AVal.str s.rf,
  AVal.int IntKind.i64 s.pt, AVal.str s.wd]))
  n0).fst.pe,
  AVal.str
  (F
  (cellsG
  (AVal.agg
  [AVal.int IntKind.i64 s.k, AVal.str s.el, AVal.str s.ar,
  AVal.int IntKind.u8 (↑s.dl.toNat : Int), AVal.str s.pe, AVal.str s.rf,
  AVal.int IntKind.i64 s.pt, AVal.str s.wd]))
  n0).fst.rf,
  AVal.int IntKind.i64
  (F
  (cellsG
  (AVal.agg
  [AVal.int IntKind.i64 s.k, AVal.str s.el, AVal.str s.ar,
  AVal.int IntKind.u8 (↑s.dl.toNat : Int), AVal.str s.pe, AVal.str s.rf,
  AVal.int IntKind.i64 s.pt, AVal.str s.wd]))
  n0).fst.pt,
  AVal.str
  (F
  (cellsG
  (AVal.agg
  [AVal.int IntKind.i64 s.k, AVal.str s.el, AVal.str s.ar,
  AVal.int IntKind.u8 (↑s.dl.toNat : Int), AVal.str s.pe, AVal.str s.rf,
  AVal.int IntKind.i64 s.pt, AVal.str s.wd]))
  n0).fst.wd],
  [AVal.int IntKind.i64 0, AVal.str [], AVal.str [], AVal.int IntKind.u8 0, AVal.str [], AVal.str [],
  AVal.int IntKind.i64 0, AVal.str []]]
  H D)
  else
  k AExit.normal
  (stL 38 [1, 2, 4, 17, 18]
  [AVal.str t, AVal.ptr (Oid.tmp 2) 0, AVal.ptr (Oid.tmp 4) 0, AVal.int IntKind.i64 n,
  AVal.int IntKind.i64 (IntKind.i64.wrap (i + 1))]
  [2, 4]
  [[AVal.int IntKind.i64
  (F
  (cellsG
  (AVal.agg
  [AVal.int IntKind.i64 s.k, AVal.str s.el, AVal.str s.ar,
  AVal.int IntKind.u8 (↑s.dl.toNat : Int), AVal.str s.pe, AVal.str s.rf,
  AVal.int IntKind.i64 s.pt, AVal.str s.wd]))
  n0).fst.k,
  AVal.str
  (F
  (cellsG
  (AVal.agg
  [AVal.int IntKind.i64 s.k, AVal.str s.el, AVal.str s.ar,
  AVal.int IntKind.u8 (↑s.dl.toNat : Int), AVal.str s.pe, AVal.str s.rf,
  AVal.int IntKind.i64 s.pt, AVal.str s.wd]))
  n0).fst.el,
  AVal.str
  (F
  (cellsG
  (AVal.agg
  [AVal.int IntKind.i64 s.k, AVal.str s.el, AVal.str s.ar,
  AVal.int IntKind.u8 (↑s.dl.toNat : Int), AVal.str s.pe, AVal.str s.rf,
  AVal.int IntKind.i64 s.pt, AVal.str s.wd]))
  n0).fst.ar,
  AVal.int IntKind.u8
  (↑(F
  (cellsG
  (AVal.agg
  [AVal.int IntKind.i64 s.k, AVal.str s.el, AVal.str s.ar,
  AVal.int IntKind.u8 (↑s.dl.toNat : Int), AVal.str s.pe, AVal.str s.rf,
  AVal.int IntKind.i64 s.pt, AVal.str s.wd]))
  n0).fst.dl.toNat :
  Int),
  AVal.str
  (F
  (cellsG
  (AVal.agg
  [AVal.int IntKind.i64 s.k, AVal.str s.el, AVal.str s.ar,
  AVal.int IntKind.u8 (↑s.dl.toNat : Int), AVal.str s.pe, AVal.str s.rf,
  AVal.int IntKind.i64 s.pt, AVal.str s.wd]))
  n0).fst.pe,
  AVal.str
  (F
  (cellsG
  (AVal.agg
  [AVal.int IntKind.i64 s.k, AVal.str s.el, AVal.str s.ar,
  AVal.int IntKind.u8 (↑s.dl.toNat : Int), AVal.str s.pe, AVal.str s.rf,
  AVal.int IntKind.i64 s.pt, AVal.str s.wd]))
  n0).fst.rf,
  AVal.int IntKind.i64
  (F
  (cellsG
  (AVal.agg
  [AVal.int IntKind.i64 s.k, AVal.str s.el, AVal.str s.ar,
  AVal.int IntKind.u8 (↑s.dl.toNat : Int), AVal.str s.pe, AVal.str s.rf,
  AVal.int IntKind.i64 s.pt, AVal.str s.wd]))
  n0).fst.pt,
  AVal.str
  (F
  (cellsG
  (AVal.agg
  [AVal.int IntKind.i64 s.k, AVal.str s.el, AVal.str s.ar,
  AVal.int IntKind.u8 (↑s.dl.toNat : Int), AVal.str s.pe, AVal.str s.rf,
  AVal.int IntKind.i64 s.pt, AVal.str s.wd]))
  n0).fst.wd],
  [AVal.int IntKind.i64 0, AVal.str [], AVal.str [], AVal.int IntKind.u8 0, AVal.str [], AVal.str [],
  AVal.int IntKind.i64 0, AVal.str []]]
  H D)
  else none
  else none
  else
  k (AExit.exit 0)
  (stL 38 [1, 2, 4, 5, 6] [AVal.str t, AVal.ptr (Oid.tmp 2) 0, AVal.ptr (Oid.tmp 4) 0, AVal.undef, AVal.undef] [2, 4]
  [[AVal.int IntKind.i64 s.k, AVal.str s.el, AVal.str s.ar, AVal.int IntKind.u8 (↑s.dl.toNat : Int), AVal.str s.pe,
  AVal.str s.rf, AVal.int IntKind.i64 s.pt, AVal.str s.wd],
  [AVal.int IntKind.i64 0, AVal.str [], AVal.str [], AVal.int IntKind.u8 0, AVal.str [], AVal.str [],
  AVal.int IntKind.i64 0, AVal.str []]]
        H D)) := by kernel_rfl
noncomputable def layFm (M : List AVal → Int) (F : List AVal → Int → SS × Int) (R : FdR) : Lay := (layFm0 M F).addL 5 (fmFH R)
theorem fm_fun (M : List AVal → Int) (F : List AVal → Int → SS × Int) (R : FdR) (s : SS) (t : Bs) (k : Out → Ans) : iFun Tryz.prog ((layFm M F R).hd Tryz.prog) (layFm M F R).fhs 0 5 [.agg (encSS s), .str t] [] k = (
 let n0 : Int :=
  M
  (cellsG
  (AVal.agg
  [AVal.int IntKind.i64 s.k, AVal.str s.el, AVal.str s.ar, AVal.int IntKind.u8 (↑s.dl.toNat : Int), AVal.str s.pe,
  AVal.str s.rf, AVal.int IntKind.i64 s.pt, AVal.str s.wd]));
 let n1 : Int :=
  (R
  [AVal.int IntKind.i64 s.k, AVal.str s.el, AVal.str s.ar, AVal.int IntKind.u8 (↑s.dl.toNat : Int), AVal.str s.pe,
  AVal.str s.rf, AVal.int IntKind.i64 s.pt, AVal.str s.wd]
  t).snd.snd;
  bif
  tst
  (isS
  (cellsG
  (AVal.agg
  [AVal.int IntKind.i64 s.k, AVal.str s.el, AVal.str s.ar, AVal.int IntKind.u8 (↑s.dl.toNat : Int),
  AVal.str s.pe, AVal.str s.rf, AVal.int IntKind.i64 s.pt, AVal.str s.wd])) ∧
  SubL
  [AVal.agg
  [AVal.int IntKind.i64 s.k, AVal.str s.el, AVal.str s.ar, AVal.int IntKind.u8 (↑s.dl.toNat : Int),
  AVal.str s.pe, AVal.str s.rf, AVal.int IntKind.i64 s.pt, AVal.str s.wd]]
  [AVal.agg
  (cellsG
  (AVal.agg
  [AVal.int IntKind.i64 s.k, AVal.str s.el, AVal.str s.ar, AVal.int IntKind.u8 (↑s.dl.toNat : Int),
  AVal.str s.pe, AVal.str s.rf, AVal.int IntKind.i64 s.pt, AVal.str s.wd]))] ∧
  ([] : Heap) = []) then
  bif n0 != 0 then
  k
  (Out.ret
  (AVal.tuple
  [AVal.agg
  [AVal.int IntKind.i64 0, AVal.str [], AVal.str [], AVal.int IntKind.u8 0, AVal.str [], AVal.str [],
  AVal.int IntKind.i64 0, AVal.str []],
  AVal.int IntKind.i64 0, AVal.int IntKind.i64 n0])
  [])
  else
  bif
  tst
  ((isS
  [AVal.int IntKind.i64 s.k, AVal.str s.el, AVal.str s.ar, AVal.int IntKind.u8 (↑s.dl.toNat : Int),
  AVal.str s.pe, AVal.str s.rf, AVal.int IntKind.i64 s.pt, AVal.str s.wd] ∧
  Int.toNat 0 = 0 ∧ List.length t ≤ 1099511627776) ∧
  SubTL
  [AVal.str t, AVal.ptr (Oid.tmp 2) 0, AVal.ptr (Oid.tmp 4) 0,
  AVal.int IntKind.i64 (↑(List.length t) : Int), AVal.int IntKind.i64 0]
  [AVal.str t, AVal.ptr (Oid.tmp 2) 0, AVal.ptr (Oid.tmp 4) 0,
  AVal.int IntKind.i64 (↑(List.length t) : Int), AVal.int IntKind.i64 (↑(Int.toNat 0) : Int)] ∧
  [[AVal.int IntKind.i64 s.k, AVal.str s.el, AVal.str s.ar, AVal.int IntKind.u8 (↑s.dl.toNat : Int),
  AVal.str s.pe, AVal.str s.rf, AVal.int IntKind.i64 s.pt, AVal.str s.wd],
  [AVal.int IntKind.i64 0, AVal.str [], AVal.str [], AVal.int IntKind.u8 0, AVal.str [], AVal.str [],
  AVal.int IntKind.i64 0, AVal.str []]] =
  [[AVal.int IntKind.i64 s.k, AVal.str s.el, AVal.str s.ar, AVal.int IntKind.u8 (↑s.dl.toNat : Int),
  AVal.str s.pe, AVal.str s.rf, AVal.int IntKind.i64 s.pt, AVal.str s.wd],
  encSS (SS.mk 0 [] [] 0 [] [] 0 [])] ∧
  ([] : Heap) = []) then
  bif n1 != 0 then
  k
  (Out.ret
  (AVal.tuple
  [AVal.agg
  [AVal.int IntKind.i64 0, AVal.str [], AVal.str [], AVal.int IntKind.u8 0, AVal.str [], AVal.str [],
  AVal.int IntKind.i64 0, AVal.str []],
  AVal.int IntKind.i64
  (↑(R
  [AVal.int IntKind.i64 s.k, AVal.str s.el, AVal.str s.ar,
  AVal.int IntKind.u8 (↑s.dl.toNat : Int), AVal.str s.pe, AVal.str s.rf,
  AVal.int IntKind.i64 s.pt, AVal.str s.wd]
  t).snd.fst :
  Int),
  AVal.int IntKind.i64 n1])
  [])
  else
  k
  (Out.ret
  (AVal.tuple
  [AVal.agg
  [AVal.int IntKind.i64
  (R
  [AVal.int IntKind.i64 s.k, AVal.str s.el, AVal.str s.ar,
  AVal.int IntKind.u8 (↑s.dl.toNat : Int), AVal.str s.pe, AVal.str s.rf,
  AVal.int IntKind.i64 s.pt, AVal.str s.wd]
  t).fst.k,
  AVal.str
  (R
  [AVal.int IntKind.i64 s.k, AVal.str s.el, AVal.str s.ar,
  AVal.int IntKind.u8 (↑s.dl.toNat : Int), AVal.str s.pe, AVal.str s.rf,
  AVal.int IntKind.i64 s.pt, AVal.str s.wd]
  t).fst.el,
  AVal.str
  (R
  [AVal.int IntKind.i64 s.k, AVal.str s.el, AVal.str s.ar,
  AVal.int IntKind.u8 (↑s.dl.toNat : Int), AVal.str s.pe, AVal.str s.rf,
  AVal.int IntKind.i64 s.pt, AVal.str s.wd]
  t).fst.ar,
  AVal.int IntKind.u8
  (↑(R
  [AVal.int IntKind.i64 s.k, AVal.str s.el, AVal.str s.ar,
  AVal.int IntKind.u8 (↑s.dl.toNat : Int), AVal.str s.pe, AVal.str s.rf,
  AVal.int IntKind.i64 s.pt, AVal.str s.wd]
  t).fst.dl.toNat :
  Int),
  AVal.str
  (R
  [AVal.int IntKind.i64 s.k, AVal.str s.el, AVal.str s.ar,
  AVal.int IntKind.u8 (↑s.dl.toNat : Int), AVal.str s.pe, AVal.str s.rf,
  AVal.int IntKind.i64 s.pt, AVal.str s.wd]
  t).fst.pe,
  AVal.str
  (R
  [AVal.int IntKind.i64 s.k, AVal.str s.el, AVal.str s.ar,
  AVal.int IntKind.u8 (↑s.dl.toNat : Int), AVal.str s.pe, AVal.str s.rf,
  AVal.int IntKind.i64 s.pt, AVal.str s.wd]
  t).fst.rf,
  AVal.int IntKind.i64
  (R
  [AVal.int IntKind.i64 s.k, AVal.str s.el, AVal.str s.ar,
  AVal.int IntKind.u8 (↑s.dl.toNat : Int), AVal.str s.pe, AVal.str s.rf,
  AVal.int IntKind.i64 s.pt, AVal.str s.wd]
  t).fst.pt,
  AVal.str
  (R
  [AVal.int IntKind.i64 s.k, AVal.str s.el, AVal.str s.ar,
  AVal.int IntKind.u8 (↑s.dl.toNat : Int), AVal.str s.pe, AVal.str s.rf,
  AVal.int IntKind.i64 s.pt, AVal.str s.wd]
  t).fst.wd],
  AVal.int IntKind.i64 (↑(List.length t) : Int), AVal.int IntKind.i64 0])
  [])
  else none
  else none) := by kernel_rfl
end Go.Mu
set_option linter.unusedVariables false
set_option linter.unusedSimpArgs false
set_option maxRecDepth 100000
namespace Go.Mu
open Go Go.Proofs
theorem c0v (P0 P1 : Obj) (x : List AVal) : cells0H [P0, P1, Obj.var x] = x := rfl
theorem cGv (x : List AVal) : cellsG (.agg x) = x := rfl
theorem p0v (P0 P1 : Obj) (x : List AVal) : p0H [P0, P1, Obj.var x] = P0 := rfl
theorem p1v (P0 P1 : Obj) (x : List AVal) : p1H [P0, P1, Obj.var x] = P1 := rfl
theorem ef (a : Int) (b c : Bs) (d : UInt8) (e f : Bs) (g : Int) (h : Bs) : [AVal.int .i64 a, .str b, .str c, .int .u8 (d.toNat : Int), .str e, .str f, .int .i64 g, .str h] = encSS ⟨a, b, c, d, e, f, g, h⟩ := rfl
theorem ef0 (a : Int) (b c : Bs) (e f : Bs) (g : Int) (h : Bs) : [AVal.int .i64 a, .str b, .str c, .int .u8 0, .str e, .str f, .int .i64 g, .str h] = encSS ⟨a, b, c, 0, e, f, g, h⟩ := rfl
theorem ssEta (s : SS) : (⟨s.k, s.el, s.ar, s.dl, s.pe, s.rf, s.pt, s.wd⟩ : SS) = s := rfl
theorem ss0v : (⟨0, [], [], 0, [], [], 0, []⟩ : SS) = ss0 := rfl
theorem mark_ok {s : SS} (h : markE s = 0) : OkM s ∧ s.el.length ≤ 33 := by
  unfold markE at h
  cases h1 : inB s 0 19 with
  | false => rw [h1] at h; exact absurd h (show ¬ (4 : Int) = 0 by decide)
  | true =>
    rw [h1] at h
    cases h2 : markOk s with
    | false => rw [h2] at h; exact absurd h (show ¬ (9 : Int) = 0 by decide)
    | true =>
      unfold markOk at h2
      simp only [Bool.and_eq_true, decide_eq_true_eq] at h2
      obtain ⟨⟨⟨⟨⟨⟨⟨⟨⟨⟨⟨⟨⟨a1, a2⟩, a3⟩, a4⟩, a5⟩, a6⟩, a7⟩, _⟩, _⟩, _⟩, _⟩, _⟩, _⟩, _⟩ := h2
      exact ⟨⟨by omega, by omega, by omega, by omega, ⟨a6, a7, a5⟩⟩, a1⟩
section
variable {F : SS → UInt8 → ScR} {FX : FC}
theorem stp_of (hF : ∀ s c, FX (encSS s) c.toNat = F s c) (hT : ∀ xs H k out, mcTold okE FX xs H k = some out → ∃ o, CallOK Tryz.prog 23 xs H o ∧ k o = some out) (s : SS) (c : UInt8) :
    CallOK Tryz.prog 13 [.agg (encSS s), .int .u8 c.toNat] [] (.ret (.tuple [.agg (encSS (bif markE s != 0 then (ss0, markE s) else bif (F s c).e == 0 then ((F s c).s, 0) else (ss0, (F s c).e)).1), .int .i64 (bif markE s != 0 then (ss0, markE s) else bif (F s c).e == 0 then ((F s c).s, 0) else (ss0, (F s c).e)).2]) []) := by
  have hL : (layStp markR FX).OK Tryz.prog := ((Lay.nil_ok.addF markTold_ok).addF hT).addN (by kernel_rfl)
  have key := fun k => stp_fun markR FX s c k
  simp only [c0v, cGv, p0v, p1v, ef0, ef, ssEta, ss0v, hF, markR_enc, tstS, cond_true, okc_u8] at key
  cases hm : markE s != 0 with
  | true =>
    simp only [hm, cond_true] at key ⊢
    exact CallOK.shrink (H := []) (H' := []) (G := [.var (encSS ss0), .var [.int .i64 (markE s)]]) (hL.call key) (Nat.le_refl _) rfl (fun x hx => by cases hx)
  | false =>
    have hm0 : markE s = 0 := by simpa using hm
    obtain ⟨ho, hl⟩ := mark_ok hm0
    have hE : okE (encSS s) := by unfold okE; rw [decSS_enc]; omega
    simp only [hm, cond_false] at key ⊢
    have key2 : ∀ k, iFun Tryz.prog ((layStp markR FX).hd Tryz.prog) (layStp markR FX).fhs 0 13 [.agg (encSS s), .int .u8 c.toNat] [] k = _ := fun k => (key k).trans ((congrArg (fun c => cond c _ none) (tst_true ⟨⟨⟨OkR_enc ho, hE⟩, trivial⟩, .refl _, trivial⟩)).trans (cond_true _ _))
    clear key
    cases he : (F s c).e == 0 with
    | true =>
      simp only [he, cond_true] at key2 ⊢
      exact CallOK.shrink (H := []) (H' := []) (G := [.var (encSS (F s c).s), .var [.int .i64 0], .var (encSS (F s c).s)]) (hL.call key2) (Nat.le_refl _) rfl (fun x hx => by cases hx)
    | false =>
      simp only [he, cond_false] at key2 ⊢
      exact CallOK.shrink (H := []) (H' := []) (G := [.var (encSS ss0), .var [.int .i64 (F s c).e], .var (encSS (F s c).s)]) (hL.call key2) (Nat.le_refl _) rfl (fun x hx => by cases hx)
end
end Go.Mu
