/-
  lex: what Items tells.
-/
import Derived.Test.YtlbmedmddoljnaaDoorLAct
set_option linter.unusedVariables false
set_option linter.unusedSimpArgs false
set_option maxRecDepth 100000
namespace Go.Mu
open Go Go.Proofs
/-- the pieces, linked -/
def relX (x : SpH) : SpH := { x with o := cond (isNilL x.o) (.own 5 0 0 (verO x.O + 1) false) x.o, O := cond (isNilL x.o) (.arr 3 [] (verO x.O + 1)) x.O }
theorem relX_heap (x : SpH) (rs : List (List AVal)) (u : Nat) (h : x.O = .arr 3 rs u) : relAt 3 1 5 x.heap = (relX x).heap := by
  obtain ⟨U0, U1, U2, s, o, ad, b, a, tr, O, rows, v⟩ := x
  simp only at h
  subst h
  show cond (isNilL o) _ _ = _
  unfold relX
  simp only [verO]
  cases isNilL o <;> rfl
def CanO' (x : SpH) : Prop := CanO (relX x).o (relX x).O ∧ ∃ rs u, x.O = .arr 3 rs u
noncomputable def putTold2 : FSp := mkF (fun xs H => (SpH.dec H, (aI xs 1).toNat, (aI xs 2).toNat)) (fun x => Can x.1 ∧ CanO' x.1 ∧ x.2.1 ≤ x.2.2 ∧ x.2.2 ≤ x.1.s.length ∧ x.1.s.length ≤ 1073741824 ∧ (bytesOf x.1.rows).length ≤ 1073741824) (fun x => [.ptr (.hp 3) 0, .int .i64 x.2.1, .int .i64 x.2.2]) (fun x => x.1.heap)
  (fun x k => k (.ret (.tuple []) (putM (relX x.1) x.2.1 x.2.2).heap))
theorem putTold2_ok : ∀ xs H k out, putTold2 xs H k = some out → ∃ o, CallOK Tryd.prog 27 xs H o ∧ k o = some out :=
  mkF_ok fun x h => ⟨_, fun k => rfl, by
    obtain ⟨h1, ⟨h2, rs, u, h3⟩, h4, h5, h6, h7⟩ := h
    refine relAt_ok (i := 3) (c := 1) (j := 5) ?_
    rw [relX_heap x.1 rs u h3]
    exact layX4_ok.call (put_call (relX x.1) h1 h4 h5 h6 h7)⟩
noncomputable def actTold : FSp := mkF (fun xs H => (SpH.dec H, (aI xs 1).toNat)) (fun x => Can x.1 ∧ CanO x.1.o x.1.O ∧ x.2 + 2 ≤ x.1.s.length ∧ x.1.s.length ≤ 1073741824 ∧ (bytesOf x.1.rows).length ≤ 1073741824 ∧ (rowsO x.1.O).length ≤ 1073741824) (fun x => [.ptr (.hp 3) 0, .int .i64 x.2]) (fun x => x.1.heap)
  (fun x k => cond (acBad x.1.s x.2) (k (.panic (.iface 56 (.agg [.int .i64 x.2, .int .i64 8])) x.1.heap)) (k (.ret (.int .i64 (acTo x.1.s x.2 + 2)) (actionM x.1 x.2).heap)))
theorem actTold_ok : ∀ xs H k out, actTold xs H k = some out → ∃ o, CallOK Tryd.prog 28 xs H o ∧ k o = some out :=
  mkF_ok fun x h => by
    obtain ⟨h1, h2, h3, h4, h5, h6⟩ := h
    have key := fun k => action_call x.1 x.2 h1 h2 h3 h4 h5 h6 k
    cases hb : acBad x.1.s x.2 with
    | true => simp only [hb, cond_true] at key; exact ⟨_, fun k => rfl, layX5_ok.call key⟩
    | false => simp only [hb, cond_false] at key; exact ⟨_, fun k => rfl, layX5_ok.call key⟩
noncomputable def layI1 : Lay := ((layX3.addF 27 putTold2).addF 28 actTold).addF 29 flushTold
theorem layI1_ok : layI1.OK Tryd.prog := ((layX3_ok.addF putTold2_ok).addF actTold_ok).addF flushTold_ok
abbrev itVs (s : List UInt8) (f : AVal) : List AVal := [.str s, .ptr (.hp 0) 0, .ptr (.hp 1) 0, .ptr (.hp 2) 0, .ptr (.hp 3) 0, f]
abbrev itAt (s : List UInt8) (f : Nat) : Int := Lib.index (s.drop f) [123, 123]
/-- the loop: what there is, where it stands, where it fell -/
def itM : Nat → SpH → Nat → SpH × Nat × Option Nat
  | 0, x, f => (x, f, none)
  | m + 1, x, f => bif decide (itAt x.s f < 0) then (x, f, none) else
      bif acBad x.s ((f : Int) + itAt x.s f).toNat then (putM (relX x) f ((f : Int) + itAt x.s f).toNat, f, some ((f : Int) + itAt x.s f).toNat)
      else itM m (actionM (putM (relX x) f ((f : Int) + itAt x.s f).toNat) ((f : Int) + itAt x.s f).toNat) (acTo x.s ((f : Int) + itAt x.s f).toNat + 2).toNat
def Inv (x : SpH) (f : Nat) : Prop := Can x ∧ CanO' x ∧ f ≤ x.s.length ∧ x.s.length ≤ 16384 ∧ (bytesOf x.rows).length ≤ f ∧ (rowsO (relX x).O).length ≤ f
abbrev itH (x y : SpH) : SpH := ⟨x.U0, x.U1, x.U2, x.s, y.o, y.ad, y.b, y.a, y.tr, y.O, y.rows, y.v⟩
theorem itM_keep : ∀ (m : Nat) (x : SpH) (f : Nat), (itM m x f).1 = itH x (itM m x f).1
  | 0, x, f => rfl
  | m + 1, x, f => by
    rw [itM]
    cases decide (itAt x.s f < 0)
    · cases acBad x.s ((f : Int) + itAt x.s f).toNat
      · simp only [cond_false]
        have := itM_keep m (actionM (putM (relX x) f ((f : Int) + itAt x.s f).toNat) ((f : Int) + itAt x.s f).toNat) (acTo x.s ((f : Int) + itAt x.s f).toNat + 2).toNat
        exact this
      · rfl
    · rfl
noncomputable def itSp : LSp := mkL (fun vs _ H => (SpH.dec H, (aI vs 5).toNat)) (fun x => Inv x.1 x.2) (fun x => itVs x.1.s (.int .i64 x.2)) (fun _ => []) (fun x => x.1.heap)
  (fun x k => cond (itM (x.1.s.length + 1) x.1 x.2).2.2.isSome
    (k (.panic (.iface 56 (.agg [.int .i64 ((itM (x.1.s.length + 1) x.1 x.2).2.2.getD 0 : Nat), .int .i64 8]))) (itVs x.1.s .undef) [] (itH x.1 (itM (x.1.s.length + 1) x.1 x.2).1).heap)
    (k (.exit 0) (itVs x.1.s (.int .i64 (itM (x.1.s.length + 1) x.1 x.2).2.1)) [] (itH x.1 (itM (x.1.s.length + 1) x.1 x.2).1).heap))
noncomputable def itFH : FH := { FH.of [(6, loopSpec 45 [0,2,3,4,5,6] [] [0,2,3,4,5,6] [] itSp)] with heap := [2, 3, 4, 14], typed := [(14, [(2, itT), (0, bT)])], exact := true }
theorem it_step (U0 U1 U2 O : Obj) (s : List UInt8) (o ad b : AVal) (a : Int) (tr : Bool) (rows : List (List AVal)) (v : Nat) (f : Int) (D : List (FuncId × List AVal)) (k : Kont) :
    lturn Tryd.prog layI1 itFH 11 6 [0,2,3,4,5,6] [] [0,2,3,4,5,6] [] (stL 45 [0,2,3,4,5,6] (itVs s (.int .i64 f)) [] [] (SpH.mk U0 U1 U2 s o ad b a tr O rows v).heap D) k =
    cond (decide (0 ≤ f) && decide (f ≤ (s.length : Int)) && decide ((s.length : Int) ≤ s.length)) (cond (decide (((s.take (s.length : Int).toNat).drop f.toNat).length < 4294967281))
      (cond (decide (Lib.index ((s.take (s.length : Int).toNat).drop f.toNat) [123, 123] < 0)) (k (.exit 0) (stL 45 [0,2,3,4,5,6] (itVs s (.int .i64 f)) [] [] (SpH.mk U0 U1 U2 s o ad b a tr O rows v).heap D))
        (let x : SpH := ⟨U0, U1, U2, s, o, ad, b, a, tr, O, rows, v⟩
         let n3 : Int := IntKind.i64.wrap (f + Lib.index ((s.take (s.length : Int).toNat).drop f.toNat) [123, 123])
         let x1 := putM (relX x) f.toNat n3.toNat
         cond (tst ((Can x ∧ CanO' x ∧ f.toNat ≤ n3.toNat ∧ n3.toNat ≤ s.length ∧ s.length ≤ 1073741824 ∧ (bytesOf rows).length ≤ 1073741824) ∧
            SubL [.ptr (.hp 3) 0, .int .i64 f, .int .i64 n3] [.ptr (.hp 3) 0, .int .i64 (f.toNat : Int), .int .i64 (n3.toNat : Int)] ∧ x.heap = x.heap))
          (cond (tst ((Can x1 ∧ CanO x1.o x1.O ∧ n3.toNat + 2 ≤ s.length ∧ s.length ≤ 1073741824 ∧ (bytesOf x1.rows).length ≤ 1073741824 ∧ (rowsO x1.O).length ≤ 1073741824) ∧
            SubL [.ptr (.hp 3) 0, .int .i64 n3] [.ptr (.hp 3) 0, .int .i64 (n3.toNat : Int)] ∧ x1.heap = x1.heap))
            (cond (acBad s n3.toNat) (k (.panic (.iface 56 (.agg [.int .i64 (n3.toNat : Int), .int .i64 8]))) (stL 45 [0,2,3,4,5,6] (itVs s .undef) [] [] x1.heap D))
              (k .normal (stL 45 [0,2,3,4,5,6] (itVs s (.int .i64 (acTo s n3.toNat + 2))) [] [] (actionM x1 n3.toNat).heap D))) none) none)) none) none := by kernel_rfl
theorem index_room (s p : List UInt8) (h : Lib.index s p ≥ 0) : Lib.index s p + p.length ≤ s.length := by
  induction s with
  | nil =>
    unfold Lib.index at h ⊢
    split at h
    · rename_i h1
      rw [if_pos h1]
      have : p = [] := by simpa using h1
      subst this; simp
    · simp at h
  | cons c t ih =>
    unfold Lib.index at h ⊢
    split at h
    · rename_i h1
      rw [if_pos h1]
      have := pre_len h1
      omega
    · rename_i h1
      rw [if_neg h1]
      split at h
      · simp at h
      · rename_i h2
        rw [if_neg h2]
        have := Lib.index_ge t p
        have h3 : ¬ Lib.index t p = -1 := by simpa using h2
        have := ih (by omega)
        simp only [List.length_cons]
        omega
theorem win_room : ∀ (t : List UInt8) (q e : Bool) (i : Nat), win t q e i = -1 ∨ win t q e i + 2 ≤ i + t.length
  | [], _, _, _ => .inl rfl
  | c :: t, q, e, i => by
    have ih := fun q e => win_room t q e (i + 1)
    rw [win]
    simp only [List.length_cons]
    cases e with
    | true => simp only [cond_true]; have := ih q false; omega
    | false =>
      simp only [cond_false]
      cases q && c == 92 with
      | true => simp only [cond_true]; have := ih q true; omega
      | false =>
        simp only [cond_false]
        cases c == 34 with
        | true => simp only [cond_true]; have := ih (!q) false; omega
        | false =>
          simp only [cond_false]
          cases hp : !q && [125, 125].isPrefixOf (c :: t) with
          | true =>
            simp only [cond_true]
            rw [Bool.and_eq_true] at hp
            have := pre_len hp.2
            simp only [List.length_cons, List.length_nil] at this
            omega
          | false => simp only [cond_false]; have := ih q false; omega
theorem putM_can {x : SpH} (h : Can x) (f t : Nat) : Can (putM x f t) := wsM_can (x := { x with a := _, tr := _ }) h _
theorem putM_t (x : SpH) (f t : Nat) : bytesOf (putM x f t).rows = bytesOf x.rows ++ putL x.s x.tr f t := wsM_t _ _
theorem cutM_can (x : SpH) : Can (cutM x) := wsM_can (x := { x with ad := .nilptr, b := .nilX, rows := [], v := _ }) (can_nil _) _
theorem cutM_t (x : SpH) : bytesOf (cutM x).rows = trimR (bytesOf x.rows) := by
  have := wsM_t { x with ad := .nilptr, b := .nilX, rows := [], v := bif bytesOf x.rows == [] then x.v else x.v + 1 } (trimR (bytesOf x.rows))
  exact this
theorem flushM_can (x : SpH) : Can (flushM x) := can_nil _
theorem flushM_o {x : SpH} : CanO (flushM x).o (flushM x).O := by
  unfold flushM CanO
  refine ⟨?_, rfl⟩
  simp only [rowsO, verO]
  cases flN x <;> simp
theorem pushM_o {x : SpH} {r : List AVal} (h : CanO x.o x.O) : CanO (pushM x r).o (pushM x r).O := by
  obtain ⟨h1, h2⟩ := h
  refine ⟨?_, rfl⟩
  unfold pushM
  simp only [rowsO, verO, List.length_append, List.length_cons, List.length_nil]
  rw [h1]
  rfl
theorem acM_all {x : SpH} (hc : Can x) (ho : CanO x.o x.O) (at_ : Nat) : Can (acM x at_) ∧ CanO (acM x at_).o (acM x at_).O ∧ (bytesOf (acM x at_).rows).length ≤ (bytesOf x.rows).length ∧ (rowsO (acM x at_).O).length ≤ (rowsO x.O).length + 2 := by
  have base : ∀ y : SpH, (y = cutM x ∨ y = x) → Can y ∧ CanO y.o y.O ∧ (bytesOf y.rows).length ≤ (bytesOf x.rows).length ∧ (rowsO y.O).length = (rowsO x.O).length := by
    rintro y (rfl | rfl)
    · refine ⟨cutM_can x, ho, ?_, rfl⟩
      rw [cutM_t]; exact trimR_len _
    · exact ⟨hc, ho, Nat.le_refl _, rfl⟩
  unfold acM
  have hy := base (bif trimsA (acIn x.s at_) then cutM x else x) (by cases trimsA (acIn x.s at_) <;> simp)
  generalize (bif trimsA (acIn x.s at_) then cutM x else x) = y at hy
  obtain ⟨h1, h2, h3, h4⟩ := hy
  cases rmIs x.s at_
  · simp only [cond_false]
    refine ⟨flushM_can y, pushM_o flushM_o, ?_, ?_⟩
    · show (bytesOf []).length ≤ _
      exact Nat.zero_le _
    · have := fl_len y
      show (rowsO (flushM y).O ++ [_]).length ≤ _
      simp only [List.length_append, List.length_cons, List.length_nil]
      omega
  · exact ⟨h1, h2, h3, by simp only [cond_true]; omega⟩
theorem canO_rel {x : SpH} (h : CanO x.o x.O) : relX x = x := by
  obtain ⟨U0, U1, U2, s, o, ad, b, a, tr, O, rows, v⟩ := x
  obtain ⟨h1, h2⟩ := h
  simp only at h1 h2
  unfold relX
  simp only
  rw [h1]
  rfl
theorem canO_can {x : SpH} (h : CanO x.o x.O) : CanO' x := by
  refine ⟨by rw [canO_rel h]; exact h, _, _, h.2⟩
theorem it_runs : ∀ (m : Nat) (x : SpH) (f : Nat), Inv x f → x.s.length + 1 - f ≤ m →
    ((itM m x f).2.2.isSome = true → LoopRuns (lturn Tryd.prog layI1 itFH 11 6 [0,2,3,4,5,6] [] [0,2,3,4,5,6] []) 45 [0,2,3,4,5,6] [] [0,2,3,4,5,6] [] (itVs x.s (.int .i64 f)) [] x.heap
      (.panic (.iface 56 (.agg [.int .i64 ((itM m x f).2.2.getD 0 : Nat), .int .i64 8]))) (itVs x.s .undef) [] (itM m x f).1.heap) ∧
    ((itM m x f).2.2.isSome = false → LoopRuns (lturn Tryd.prog layI1 itFH 11 6 [0,2,3,4,5,6] [] [0,2,3,4,5,6] []) 45 [0,2,3,4,5,6] [] [0,2,3,4,5,6] [] (itVs x.s (.int .i64 f)) [] x.heap
      (.exit 0) (itVs x.s (.int .i64 (itM m x f).2.1)) [] (itM m x f).1.heap) := by
  intro m
  induction m with
  | zero => 
    intro x f h hm
    obtain ⟨_, _, h3, _⟩ := h
    omega
  | succ m ih =>
    intro x f h hm
    obtain ⟨h1, h2, h3, h4, h5, h6⟩ := h
    have key := fun D k => it_step x.U0 x.U1 x.U2 x.O x.s x.o x.ad x.b x.a x.tr x.rows x.v f D k
    have hl : (x.s.drop f).length ≤ x.s.length := by simp
    have hg := Lib.index_ge (x.s.drop f) [123, 123]
    simp (disch := omega) only [Int.toNat_natCast, List.take_length, dT, cond_true, Bool.and_true] at key
    by_cases hn : itAt x.s f < 0
    · have e : itM (m + 1) x f = (x, f, none) := by rw [itM, dT hn]; rfl
      rw [e]
      refine ⟨fun h => by simp at h, fun _ => .stop (by simp) (fun D k => ?_)⟩
      have := key D k
      rw [dT hn] at this
      exact this
    · have hr := index_room (x.s.drop f) [123, 123] (by have : ¬ Lib.index (x.s.drop f) [123, 123] < 0 := hn; omega)
      have hd : (x.s.drop f).length = x.s.length - f := by simp
      simp only [List.length_cons, List.length_nil] at hr
      obtain ⟨n, hnn⟩ : ∃ n : Nat, itAt x.s f = n := ⟨(itAt x.s f).toNat, by omega⟩
      have hi : Lib.index (x.s.drop f) [123, 123] = n := hnn
      have en : ((f : Int) + itAt x.s f).toNat = f + n := by omega
      have hw : IntKind.i64.wrap ((f : Int) + Lib.index (x.s.drop f) [123, 123]) = ((f + n : Nat) : Int) := by rw [hi, wrap_of (by omega) (by omega)]; omega
      have hrx : bytesOf (relX x).rows = bytesOf x.rows := rfl
      have c1 : Can (putM (relX x) f (f + n)) := putM_can (x := relX x) h1 _ _
      have c2 : CanO (putM (relX x) f (f + n)).o (putM (relX x) f (f + n)).O := h2.1
      have c3 : (bytesOf (putM (relX x) f (f + n)).rows).length ≤ f + n := by
        rw [putM_t, List.length_append, hrx]
        have := putL_len (relX x).s (relX x).tr f (f + n)
        have h7 : (((relX x).s.take (f + n)).drop f).length ≤ n := by simp; omega
        omega
      have c4 : (rowsO (putM (relX x) f (f + n)).O).length ≤ f := h6
      have key2 : ∀ D k, lturn Tryd.prog layI1 itFH 11 6 [0,2,3,4,5,6] [] [0,2,3,4,5,6] [] (stL 45 [0,2,3,4,5,6] (itVs x.s (.int .i64 f)) [] [] x.heap D) k =
          cond (acBad x.s (f + n)) (k (.panic (.iface 56 (.agg [.int .i64 ((f + n : Nat) : Int), .int .i64 8]))) (stL 45 [0,2,3,4,5,6] (itVs x.s .undef) [] [] (putM (relX x) f (f + n)).heap D))
              (k .normal (stL 45 [0,2,3,4,5,6] (itVs x.s (.int .i64 (acTo x.s (f + n) + 2))) [] [] (actionM (putM (relX x) f (f + n)) (f + n)).heap D)) := fun D k => by
        have := key D k
        rw [dF hn, cond_false] at this
        refine this.trans ?_
        clear this
        simp only [hw, Int.toNat_natCast]
        rw [tst_true ⟨⟨h1, h2, by omega, by omega, by omega, by omega⟩, .refl _, trivial⟩, cond_true, tst_true ⟨⟨c1, c2, by omega, by omega, Nat.le_trans c3 (by omega), Nat.le_trans c4 (by omega)⟩, .refl _, trivial⟩, cond_true]
      cases hb : acBad x.s (f + n) with
      | true =>
        have e : itM (m + 1) x f = (putM (relX x) f (f + n), f, some (f + n)) := by rw [itM, dF hn, en, hb]; rfl
        rw [e]
        refine ⟨fun _ => .stop (by simp) (fun D k => ?_), fun h => by simp at h⟩
        rw [key2, hb]
        rfl
      | false =>
        obtain ⟨f1, f2, f3, f4⟩ := acFrom_le x.s (f + n) hb (by omega)
        have e : itM (m + 1) x f = itM m (actionM (putM (relX x) f (f + n)) (f + n)) (acTo x.s (f + n) + 2).toNat := by rw [itM, dF hn, en, hb]; rfl
        rw [e]
        obtain ⟨a1, a2, a3, a4⟩ := acM_all c1 c2 (f + n)
        have b2 : CanO (actionM (putM (relX x) f (f + n)) (f + n)).o (actionM (putM (relX x) f (f + n)) (f + n)).O := a2
        have inv : Inv (actionM (putM (relX x) f (f + n)) (f + n)) (acTo x.s (f + n) + 2).toNat := by
          refine ⟨a1, canO_can b2, ?_, h4, ?_, ?_⟩
          · show _ ≤ x.s.length
            have w1 := win_room (x.s.drop (acFrom x.s (f + n))) false false (acFrom x.s (f + n))
            have w2 : (x.s.drop (acFrom x.s (f + n))).length = x.s.length - acFrom x.s (f + n) := by simp
            have w3 : win (x.s.drop (acFrom x.s (f + n))) false false (acFrom x.s (f + n)) = acTo x.s (f + n) := rfl
            omega
          · have : (bytesOf (actionM (putM (relX x) f (f + n)) (f + n)).rows).length ≤ f + n := Nat.le_trans a3 c3
            omega
          · rw [canO_rel b2]
            have : (rowsO (actionM (putM (relX x) f (f + n)) (f + n)).O).length ≤ f + 2 := Nat.le_trans a4 (by omega)
            omega
        have ih2 := ih (actionM (putM (relX x) f (f + n)) (f + n)) (acTo x.s (f + n) + 2).toNat inv (by show x.s.length + 1 - _ ≤ m; omega)
        have ef : (((acTo x.s (f + n) + 2).toNat : Nat) : Int) = acTo x.s (f + n) + 2 := by omega
        rw [ef] at ih2
        have st : ∀ D k, lturn Tryd.prog layI1 itFH 11 6 [0,2,3,4,5,6] [] [0,2,3,4,5,6] [] (stL 45 [0,2,3,4,5,6] (itVs x.s (.int .i64 f)) [] [] x.heap D) k =
            k .normal (stL 45 [0,2,3,4,5,6] (itVs x.s (.int .i64 (acTo x.s (f + n) + 2))) [] [] (actionM (putM (relX x) f (f + n)) (f + n)).heap D) := fun D k => by rw [key2, hb]; rfl
        exact ⟨fun h => .step st (ih2.1 h), fun h => .step st (ih2.2 h)⟩
theorem itSp_ok : SpOK (lturn Tryd.prog layI1 itFH 11 6 [0,2,3,4,5,6] [] [0,2,3,4,5,6] []) 45 [0,2,3,4,5,6] [] [0,2,3,4,5,6] [] itSp := mkL_ok fun a h => by
  have key := it_runs (a.1.s.length + 1) a.1 a.2 h (by omega)
  rw [itM_keep] at key
  show ∃ e vs bs H, (∀ k : AExit → List AVal → List (List AVal) → Heap → Ans, cond (itM (a.1.s.length + 1) a.1 a.2).2.2.isSome _ _ = k e vs bs H) ∧ _
  cases hs : (itM (a.1.s.length + 1) a.1 a.2).2.2.isSome with
  | true => exact ⟨_, _, _, _, fun k => rfl, key.1 hs⟩
  | false => exact ⟨_, _, _, _, fun k => rfl, key.2 hs⟩
noncomputable def layI2 : Lay := layI1.addL 11 itFH
theorem layI2_ok : layI2.OK Tryd.prog := layI1_ok.loop1 (id := 6) (by kernel_rfl) (by kernel_rfl) (by kernel_rfl) itSp_ok
abbrev itX0 (s : List UInt8) : SpH := ⟨.var [.nilX], .var [.int .i64 0], .var [.int .i64 0], s, .nilX, .nilptr, .nilX, 0, false, .arr 3 [] 0, [], 0⟩
abbrev itR (s : List UInt8) : SpH × Nat × Option Nat := itM (s.length + 1) (itX0 s) 0
abbrev itY (s : List UInt8) : SpH := itH (itX0 s) (itR s).1
abbrev itZ (s : List UInt8) : SpH := putM (relX (itY s)) (itR s).2.1 s.length
abbrev itW (s : List UInt8) : SpH := flushM (itZ s)
theorem items_fun (s : List UInt8) (k : Out → Ans) : iFun Tryd.prog (layI2.hd Tryd.prog) layI2.fhs 0 11 [.str s] [] k =
  cond (decide ((s.length : Int) > 16384)) (k (.ret (.tuple [.nilX, .int .i64 0, .int .i64 5]) [.var [.nilX], .var [.int .i64 0], .var [.int .i64 5]]))
    (cond (tst (Inv (itX0 s) 0 ∧ SubTL (itVs s (.int .i64 0)) (itVs s (.int .i64 ((0 : Nat) : Int))) ∧ ([] : List (List AVal)) = [] ∧ (itX0 s).heap = (itX0 s).heap))
      (cond (itR s).2.2.isSome
        (k (.ret (.tuple [nilList, .int .i64 ((itR s).2.2.getD 0 : Nat), .int .i64 8]) ({ itY s with U0 := .var [nilList], U1 := .var [.int .i64 ((itR s).2.2.getD 0 : Nat)], U2 := .var [.int .i64 8] } : SpH).heap))
        (cond (tst ((Can (itY s) ∧ CanO' (itY s) ∧ ((itR s).2.1 : Int).toNat ≤ (s.length : Int).toNat ∧ (s.length : Int).toNat ≤ s.length ∧ s.length ≤ 1073741824 ∧ (bytesOf (itY s).rows).length ≤ 1073741824) ∧
            SubL [.ptr (.hp 3) 0, .int .i64 ((itR s).2.1 : Int), .int .i64 (s.length : Int)] [.ptr (.hp 3) 0, .int .i64 (((itR s).2.1 : Int).toNat : Int), .int .i64 ((s.length : Int).toNat : Int)] ∧ (itY s).heap = (itY s).heap))
          (cond (tst ((Can (itZ s) ∧ CanO (itZ s).o (itZ s).O ∧ (bytesOf (itZ s).rows).length ≤ 1073741824 ∧ (rowsO (itZ s).O).length ≤ 1073741824) ∧ SubL [.ptr (.hp 3) 0] [.ptr (.hp 3) 0] ∧ (itZ s).heap = (itZ s).heap))
            (k (.ret (.tuple [(itW s).o, .int .i64 s.length, .int .i64 0]) ({ itW s with U0 := .var [(itW s).o], U1 := .var [.int .i64 s.length], U2 := .var [.int .i64 0] } : SpH).heap)) none) none)) none) := by kernel_rfl
/- what is left behind the loop -/
def decItem (r : List AVal) : ItemD := ⟨intOf (r.getD 0 .undef), strOf (r.getD 1 .undef), intOf (r.getD 2 .undef)⟩
def ItR (rows : List (List AVal)) : Prop := ∀ r ∈ rows, ∃ i : ItemD, r = encItem i
theorem itR_dec : ∀ {rows : List (List AVal)}, ItR rows → (rows.map decItem).map encItem = rows
  | [], _ => rfl
  | r :: rows, h => by
    obtain ⟨i, rfl⟩ := h r (by simp)
    rw [List.map_cons, List.map_cons, itR_dec (fun r hr => h r (by simp [hr]))]
    rfl
theorem itR_app {a b : List (List AVal)} (h : ItR a) (g : ItR b) : ItR (a ++ b) := fun r hr => by
  rcases List.mem_append.1 hr with hr | hr
  · exact h r hr
  · exact g r hr
theorem itR_one (i : ItemD) : ItR [encItem i] := fun r hr => ⟨i, by simpa using hr⟩
theorem flushM_r {x : SpH} (h : ItR (rowsO x.O)) : ItR (rowsO (flushM x).O) := by
  unfold flushM
  simp only [rowsO]
  cases flN x
  · exact itR_app h (itR_one ⟨1, bytesOf x.rows, x.a⟩)
  · exact h
theorem acM_r {x : SpH} (h : ItR (rowsO x.O)) (at_ : Nat) : ItR (rowsO (acM x at_).O) := by
  unfold acM
  have hy : ItR (rowsO (bif trimsA (acIn x.s at_) then cutM x else x).O) := by cases trimsA (acIn x.s at_) <;> exact h
  generalize (bif trimsA (acIn x.s at_) then cutM x else x) = y at hy
  cases rmIs x.s at_
  · exact itR_app (flushM_r hy) (itR_one ⟨2, trimL (trimR (trimsU (trimsT (acIn x.s at_)))), at_⟩)
  · exact hy
theorem it_inv : ∀ (m : Nat) (x : SpH) (f : Nat), Inv x f → ItR (rowsO (relX x).O) → (itM m x f).2.2 = none → Inv (itM m x f).1 (itM m x f).2.1 ∧ ItR (rowsO (relX (itM m x f).1).O)
  | 0, x, f, h, hr, _ => ⟨h, hr⟩
  | m + 1, x, f, h, hi, he => by
    have h' := h
    obtain ⟨h1, h2, h3, h4, h5, h6⟩ := h
    by_cases hn : itAt x.s f < 0
    · have e : itM (m + 1) x f = (x, f, none) := by rw [itM, dT hn]; rfl
      rw [e]
      exact ⟨h', hi⟩
    · have hr := index_room (x.s.drop f) [123, 123] (by have : ¬ Lib.index (x.s.drop f) [123, 123] < 0 := hn; omega)
      have hd : (x.s.drop f).length = x.s.length - f := by simp
      simp only [List.length_cons, List.length_nil] at hr
      obtain ⟨n, hnn⟩ : ∃ n : Nat, itAt x.s f = n := ⟨(itAt x.s f).toNat, by omega⟩
      have hi2 : Lib.index (x.s.drop f) [123, 123] = n := hnn
      have en : ((f : Int) + itAt x.s f).toNat = f + n := by omega
      have hrx : bytesOf (relX x).rows = bytesOf x.rows := rfl
      have c1 : Can (putM (relX x) f (f + n)) := putM_can (x := relX x) h1 _ _
      have c2 : CanO (putM (relX x) f (f + n)).o (putM (relX x) f (f + n)).O := h2.1
      have c3 : (bytesOf (putM (relX x) f (f + n)).rows).length ≤ f + n := by
        rw [putM_t, List.length_append, hrx]
        have := putL_len (relX x).s (relX x).tr f (f + n)
        have h7 : (((relX x).s.take (f + n)).drop f).length ≤ n := by simp; omega
        omega
      have c4 : (rowsO (putM (relX x) f (f + n)).O).length ≤ f := h6
      have c5 : ItR (rowsO (putM (relX x) f (f + n)).O) := hi
      cases hb : acBad x.s (f + n) with
      | true =>
        have e : itM (m + 1) x f = (putM (relX x) f (f + n), f, some (f + n)) := by rw [itM, dF hn, en, hb]; rfl
        rw [e] at he
        simp at he
      | false =>
        obtain ⟨f1, f2, f3, f4⟩ := acFrom_le x.s (f + n) hb (by omega)
        have e : itM (m + 1) x f = itM m (actionM (putM (relX x) f (f + n)) (f + n)) (acTo x.s (f + n) + 2).toNat := by rw [itM, dF hn, en, hb]; rfl
        rw [e] at he ⊢
        obtain ⟨a1, a2, a3, a4⟩ := acM_all c1 c2 (f + n)
        have b2 : CanO (actionM (putM (relX x) f (f + n)) (f + n)).o (actionM (putM (relX x) f (f + n)) (f + n)).O := a2
        have b5 : ItR (rowsO (actionM (putM (relX x) f (f + n)) (f + n)).O) := acM_r c5 _
        have w1 := win_room (x.s.drop (acFrom x.s (f + n))) false false (acFrom x.s (f + n))
        have w2 : (x.s.drop (acFrom x.s (f + n))).length = x.s.length - acFrom x.s (f + n) := by simp
        have w3 : win (x.s.drop (acFrom x.s (f + n))) false false (acFrom x.s (f + n)) = acTo x.s (f + n) := rfl
        have inv : Inv (actionM (putM (relX x) f (f + n)) (f + n)) (acTo x.s (f + n) + 2).toNat := by
          refine ⟨a1, canO_can b2, ?_, h4, ?_, ?_⟩
          · show _ ≤ x.s.length
            omega
          · have : (bytesOf (actionM (putM (relX x) f (f + n)) (f + n)).rows).length ≤ f + n := Nat.le_trans a3 c3
            omega
          · rw [canO_rel b2]
            have : (rowsO (actionM (putM (relX x) f (f + n)) (f + n)).O).length ≤ f + 2 := Nat.le_trans a4 (by omega)
            omega
        exact it_inv m _ _ inv (by rw [canO_rel b2]; exact b5) he
theorem inv0 (s : List UInt8) (hs : s.length ≤ 16384) : Inv (itX0 s) 0 := by
  refine ⟨⟨.inl rfl, rfl, rfl⟩, ⟨⟨rfl, rfl⟩, _, _, rfl⟩, Nat.zero_le _, hs, Nat.le_refl _, Nat.le_refl _⟩
/-- the pieces -/
def itemsOf (s : List UInt8) : List ItemD := (rowsO (itW s).O).map decItem
def itBad (s : List UInt8) : Bool := (itR s).2.2.isSome
def itPl (s : List UInt8) : Nat := (itR s).2.2.getD 0
theorem items_good (s : List UInt8) (hs : s.length ≤ 16384) (hb : itBad s = false) : CallOK Tryd.prog 11 [.str s] [] (.ret (.tuple [encL false encItem ⟨0, [], 0⟩ (itemsOf s), .int .i64 s.length, .int .i64 0]) []) := by
  have hn : (itR s).2.2 = none := by unfold itBad at hb; simpa using hb
  obtain ⟨⟨h1, h2, h3, h4, h5, h6⟩, h7⟩ := it_inv (s.length + 1) (itX0 s) 0 (inv0 s hs) (fun r hr => by cases hr) hn
  have hk := itM_keep (s.length + 1) (itX0 s) 0
  have g1 : Can (itY s) := h1
  have g2 : CanO' (itY s) := h2
  have g3 : (itR s).2.1 ≤ s.length := by rw [hk] at h3; exact h3
  have g5 : (bytesOf (itY s).rows).length ≤ s.length := Nat.le_trans h5 g3
  have g6 : (rowsO (relX (itY s)).O).length ≤ s.length := Nat.le_trans h6 g3
  have g7 : ItR (rowsO (relX (itY s)).O) := h7
  have k1 : Can (itZ s) := putM_can (x := relX (itY s)) g1 _ _
  have k2 : CanO (itZ s).o (itZ s).O := g2.1
  have k3 : (bytesOf (itZ s).rows).length ≤ 2 * s.length := by
    rw [putM_t, List.length_append]
    have h8 := putL_len (relX (itY s)).s (relX (itY s)).tr (itR s).2.1 s.length
    have h9 : (((relX (itY s)).s.take s.length).drop (itR s).2.1).length ≤ s.length := by
      show ((s.take s.length).drop _).length ≤ _
      simp
    have h10 : bytesOf (relX (itY s)).rows = bytesOf (itY s).rows := rfl
    rw [h10]
    omega
  have k4 : (rowsO (itZ s).O).length ≤ s.length := g6
  have k5 : ItR (rowsO (itW s).O) := flushM_r g7
  have k6 := flushM_o (x := itZ s)
  have call : ∀ k, iFun Tryd.prog (layI2.hd Tryd.prog) layI2.fhs 0 11 [.str s] [] k = k (.ret (.tuple [(itW s).o, .int .i64 s.length, .int .i64 0]) ({ itW s with U0 := .var [(itW s).o], U1 := .var [.int .i64 s.length], U2 := .var [.int .i64 0] } : SpH).heap) := fun k => by
    have hb' : (itR s).2.2.isSome = false := hb
    rw [items_fun, dF (by omega), cond_false, tst_true ⟨inv0 s hs, .refl _, rfl, rfl⟩, cond_true, hb', cond_false,
      tst_true ⟨⟨g1, g2, by omega, by omega, by omega, by omega⟩, by simp only [Int.toNat_natCast]; exact .refl _, rfl⟩, cond_true, tst_true ⟨⟨k1, k2, by omega, by omega⟩, .refl _, rfl⟩, cond_true]
  obtain ⟨e1, e2⟩ := k6
  have hfz : freezeV ({ itW s with U0 := .var [(itW s).o], U1 := .var [.int .i64 s.length], U2 := .var [.int .i64 0] } : SpH).heap 2 (itW s).o = some (.list false (rowsO (itW s).O).length (fun i => (rowsO (itW s).O).getD i [])) := by
    have hH : ({ itW s with U0 := .var [(itW s).o], U1 := .var [.int .i64 s.length], U2 := .var [.int .i64 0] } : SpH).heap[5]? = some (.arr 3 (rowsO (itW s).O) (verO (itW s).O)) := by
      show some (itW s).O = _
      rw [← e2]
    have hfz := freezeW (len := (rowsO (itW s).O).length) (off := 0) (clip := false) (d := 1) (rows' := rowsO (itW s).O) hH (by simp) (by
      rw [List.drop_zero, List.take_length]
      refine freeze_pures _ 0 _ (fun r hr => ?_)
      obtain ⟨i, rfl⟩ := k5 r hr
      rfl)
    rw [← e1] at hfz
    exact hfz
  refine ((layI2_ok.call call).freeze (d := 3) (v' := .tuple [.list false (rowsO (itW s).O).length (fun i => (rowsO (itW s).O).getD i []), .int .i64 s.length, .int .i64 0]) ?_).sub (.refl _) ⟨Sub.tuple (.cons ?_ (.refl _)), rfl⟩
  · exact freeze_t3 hfz
  · have e3 := itR_dec k5
    show Sub (.list false (rowsO (itW s).O).length _) (.list false (itemsOf s).length _)
    have el : (itemsOf s).length = (rowsO (itW s).O).length := by unfold itemsOf; simp
    rw [el]
    refine Sub.list (fun h => h) (fun i hi => ?_)
    have : (rowsO (itW s).O).getD i [] = encItem ((itemsOf s).getD i ⟨0, [], 0⟩) := by
      conv => lhs; rw [← e3]
      unfold itemsOf
      simp only [List.getD_eq_getElem?_getD, List.getElem?_map, List.getElem?_eq_getElem hi, Option.map_some, Option.getD_some]
    rw [this]
    exact .refl _
theorem items_bad (s : List UInt8) (hs : s.length ≤ 16384) (hb : itBad s = true) : CallOK Tryd.prog 11 [.str s] [] (.ret (.tuple [nilList, .int .i64 (itPl s : Nat), .int .i64 8]) []) := by
  have hb' : (itR s).2.2.isSome = true := hb
  have key : ∀ k, iFun Tryd.prog (layI2.hd Tryd.prog) layI2.fhs 0 11 [.str s] [] k = k (.ret (.tuple [nilList, .int .i64 (itPl s : Nat), .int .i64 8]) ({ itY s with U0 := .var [nilList], U1 := .var [.int .i64 ((itR s).2.2.getD 0 : Nat)], U2 := .var [.int .i64 8] } : SpH).heap) := fun k => by
    rw [items_fun, dF (by omega), cond_false, tst_true ⟨inv0 s hs, .refl _, rfl, rfl⟩, cond_true, hb', cond_true]
    rfl
  exact layI2_ok.callF rfl key
theorem items_long (s : List UInt8) (hs : 16384 < s.length) : CallOK Tryd.prog 11 [.str s] [] (.ret (.tuple [nilList, .int .i64 0, .int .i64 5]) []) := by
  have key : ∀ k, iFun Tryd.prog (layI2.hd Tryd.prog) layI2.fhs 0 11 [.str s] [] k = k (.ret (.tuple [.nilX, .int .i64 0, .int .i64 5]) [.var [.nilX], .var [.int .i64 0], .var [.int .i64 5]]) := fun k => by
    rw [items_fun, dT (by omega), cond_true]
  exact (layI2_ok.callF rfl key).sub (.refl _) ⟨Sub.tuple (.cons Sub.nilX (.refl _)), rfl⟩
def itemsTold : FSp := mkFS [.s] (fun _ => true) (fun xs k => cond (decide (16384 < (aS xs 0).length)) (k (.ret (.tuple [nilList, .int .i64 0, .int .i64 5]) []))
  (cond (itBad (aS xs 0)) (k (.ret (.tuple [nilList, .int .i64 (itPl (aS xs 0) : Nat), .int .i64 8]) [])) (k (.ret (.tuple [encL false encItem ⟨0, [], 0⟩ (itemsOf (aS xs 0)), .int .i64 (aS xs 0).length, .int .i64 0]) []))))
theorem itemsTold_ok : ∀ xs H k out, itemsTold xs H k = some out → ∃ o, CallOK Tryd.prog 11 xs H o ∧ k o = some out := mkFS_ok fun ys xs e h => by
  obtain ⟨s, rfl⟩ : ∃ s, xs = [.str s] := ⟨_, e⟩
  show ∃ o, (∀ k : Out → Ans, cond (decide (16384 < s.length)) _ (cond (itBad s) _ _) = k o) ∧ _
  by_cases hl : 16384 < s.length
  · exact ⟨_, fun k => by rw [dT hl]; rfl, items_long s hl⟩
  · cases hb : itBad s with
    | true => exact ⟨_, fun k => by rw [dF hl]; rfl, items_bad s (by omega) hb⟩
    | false => exact ⟨_, fun k => by rw [dF hl]; rfl, items_good s (by omega) hb⟩
end Go.Mu
