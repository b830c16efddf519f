/-
  Lemmas on the given program (part 6).
-/
import Derived.Test.YtbibhpbmpnennaaDoorSN5
import Derived.Test.YtbibhpbmpnennaaDoorRows
import Derived.Lib.LaidU8
import Derived.Lib.LaidTab
import Derived.Test.YtbibhpbmpnennaaDoorProg
import Derived.KernelRfl
set_option linter.unusedVariables false
set_option linter.unusedSimpArgs false
set_option maxRecDepth 100000
namespace Go.Mu
open Go Go.Proofs
variable (P0 P1 : Obj)
theorem layS1_ok : (layS1 charX beginX beginEX tagX withinX attrX wantX valX remX rawX).OK Tryd.prog := (((((((((Lay.nil_ok.addF mcChar_ok).addF mcBegin_ok).addF mcBeginE_ok).addF mcTag_ok).addF mcWithin_ok).addF mcAttr_ok).addF mcWant_ok).addF mcVal_ok).addF mcRem_ok).addF mcRaw_ok
theorem mstep_ok (s : SS) (c : UInt8) (h : OkM s) (he : s.el.length ≤ 900) : CallOK Tryd.prog 17 [.ptr (.hp 2) 0, .int .u8 c.toNat] [P0, P1, .var (encSS s)] (scOut P0 P1 (stepS oneP unfM s c)) := layS1_ok.call (fun k => by
  obtain ⟨sk, el, ar, dl, pe, rf, pt, wd⟩ := s
  refine (smstep_fun charX beginX beginEX tagX withinX attrX wantX valX remX rawX _ c P0 P1 k).trans ?_
  by_cases h0 : sk = 0
  · subst h0
    have e60 := ek60 c
    show (bif (c.toNat : Int) == 60 then _ else _) = k (scOut P0 P1 (bif c == 60 then sOk { ss0 with k := 1 } else charS oneP unfM ⟨0, el, ar, dl, pe, rf, pt, wd⟩ c))
    rw [e60]
    cases c == 60 with
    | true => rfl
    | false => exact (call_tail P0 P1 ⟨⟨⟨OkR_enc h, trivial⟩, okc_u8 c⟩, .refl _, rfl⟩ (charX (encSS ⟨0, el, ar, dl, pe, rf, pt, wd⟩) c.toNat) k).trans (congrArg (fun r => k (scOut P0 P1 r)) (charX_enc _ c))
  by_cases h1 : sk = 1
  · subst h1
    exact (call_tail P0 P1 ⟨⟨⟨OkR_enc h, trivial⟩, okc_u8 c⟩, .refl _, rfl⟩ (beginX (encSS ⟨1, el, ar, dl, pe, rf, pt, wd⟩) c.toNat) k).trans (congrArg (fun r => k (scOut P0 P1 r)) (beginX_enc _ c))
  by_cases h2 : sk = 2
  · subst h2
    exact (call_tail P0 P1 ⟨⟨⟨OkR_enc h, trivial⟩, okc_u8 c⟩, .refl _, rfl⟩ (beginEX (encSS ⟨2, el, ar, dl, pe, rf, pt, wd⟩) c.toNat) k).trans (congrArg (fun r => k (scOut P0 P1 r)) (beginEX_enc _ c))
  by_cases h3 : sk = 3
  · subst h3
    exact (call_tail P0 P1 ⟨⟨⟨OkR_enc h, trivial⟩, okc_u8 c⟩, .refl _, rfl⟩ (tagX (encSS ⟨3, el, ar, dl, pe, rf, pt, wd⟩) c.toNat) k).trans (congrArg (fun r => k (scOut P0 P1 r)) (tagX_enc _ c))
  by_cases h4 : sk = 4
  · subst h4
    exact (call_tail P0 P1 ⟨⟨⟨OkR_enc h, trivial⟩, okc_u8 c⟩, .refl _, rfl⟩ (tagX (encSS ⟨4, el, ar, dl, pe, rf, pt, wd⟩) c.toNat) k).trans (congrArg (fun r => k (scOut P0 P1 r)) (tagX_enc _ c))
  by_cases h5 : sk = 5
  · subst h5
    exact (call_tail P0 P1 ⟨⟨⟨OkR_enc h, trivial⟩, okc_u8 c⟩, .refl _, rfl⟩ (withinX (encSS ⟨5, el, ar, dl, pe, rf, pt, wd⟩) c.toNat) k).trans (congrArg (fun r => k (scOut P0 P1 r)) (withinX_enc _ c))
  by_cases h6 : sk = 6
  · subst h6
    exact (call_tail P0 P1 ⟨⟨⟨OkR_enc h, trivial⟩, okc_u8 c⟩, .refl _, rfl⟩ (attrX (encSS ⟨6, el, ar, dl, pe, rf, pt, wd⟩) c.toNat) k).trans (congrArg (fun r => k (scOut P0 P1 r)) (attrX_enc _ c))
  by_cases h7 : sk = 7
  · subst h7
    exact (call_tail P0 P1 ⟨⟨⟨OkR_enc h, trivial⟩, okc_u8 c⟩, .refl _, rfl⟩ (attrX (encSS ⟨7, el, ar, dl, pe, rf, pt, wd⟩) c.toNat) k).trans (congrArg (fun r => k (scOut P0 P1 r)) (attrX_enc _ c))
  by_cases h8 : sk = 8
  · subst h8
    exact (call_tail P0 P1 ⟨⟨⟨OkR_enc h, trivial⟩, okc_u8 c⟩, .refl _, rfl⟩ (wantX (encSS ⟨8, el, ar, dl, pe, rf, pt, wd⟩) c.toNat) k).trans (congrArg (fun r => k (scOut P0 P1 r)) (wantX_enc _ c))
  by_cases h9 : sk = 9
  · subst h9
    exact (call_tail P0 P1 ⟨⟨⟨OkR_enc h, trivial⟩, okc_u8 c⟩, .refl _, rfl⟩ (valX (encSS ⟨9, el, ar, dl, pe, rf, pt, wd⟩) c.toNat) k).trans (congrArg (fun r => k (scOut P0 P1 r)) (valX_enc _ c))
  by_cases h10 : sk = 10
  · subst h10
    exact (call_tail P0 P1 ⟨⟨⟨OkR_enc h, trivial⟩, okc_u8 c⟩, .refl _, rfl⟩ (valX (encSS ⟨10, el, ar, dl, pe, rf, pt, wd⟩) c.toNat) k).trans (congrArg (fun r => k (scOut P0 P1 r)) (valX_enc _ c))
  by_cases h11 : sk = 11
  · subst h11
    exact (call_tail P0 P1 ⟨⟨⟨OkR_enc h, trivial⟩, okc_u8 c⟩, .refl _, rfl⟩ (withinX (encSS ⟨11, el, ar, dl, pe, rf, pt, wd⟩) c.toNat) k).trans (congrArg (fun r => k (scOut P0 P1 r)) (withinX_enc _ c))
  by_cases h12 : sk = 12
  · subst h12
    exact (call_tail P0 P1 ⟨⟨⟨OkR_enc h, trivial⟩, okc_u8 c⟩, .refl _, rfl⟩ (withinX (encSS ⟨12, el, ar, dl, pe, rf, pt, wd⟩) c.toNat) k).trans (congrArg (fun r => k (scOut P0 P1 r)) (withinX_enc _ c))
  by_cases h13 : sk = 13
  · subst h13
    exact (call_tail P0 P1 ⟨⟨⟨OkR_enc h, trivial⟩, okc_u8 c⟩, .refl _, rfl⟩ (remX (encSS ⟨13, el, ar, dl, pe, rf, pt, wd⟩) c.toNat) k).trans (congrArg (fun r => k (scOut P0 P1 r)) (remX_enc _ c))
  by_cases h14 : sk = 14
  · subst h14
    exact (call_tail P0 P1 ⟨⟨⟨OkR_enc h, trivial⟩, okc_u8 c⟩, .refl _, rfl⟩ (remX (encSS ⟨14, el, ar, dl, pe, rf, pt, wd⟩) c.toNat) k).trans (congrArg (fun r => k (scOut P0 P1 r)) (remX_enc _ c))
  by_cases h15 : sk = 15
  · subst h15
    have e62 := ek62 c
    show (bif (c.toNat : Int) == 62 then _ else _) = k (scOut P0 P1 (bif c == 62 then sOk ss0 else sOk ⟨15, el, ar, dl, pe, rf, pt, wd⟩))
    rw [e62]
    cases c == 62 <;> rfl
  by_cases h16 : sk = 16
  · subst h16
    exact (call_tail P0 P1 ⟨⟨⟨OkR_enc h, trivial⟩, okc_u8 c⟩, .refl _, rfl⟩ (remX (encSS ⟨16, el, ar, dl, pe, rf, pt, wd⟩) c.toNat) k).trans (congrArg (fun r => k (scOut P0 P1 r)) (remX_enc _ c))
  have hE : okE (encSS ⟨sk, el, ar, dl, pe, rf, pt, wd⟩) := by unfold okE; rw [decSS_enc]; exact he
  unfold stepS
  simp only [beq_f h0, beq_f h1, beq_f h2, beq_f h3, beq_f h4, beq_f h5, beq_f h6, beq_f h7, beq_f h8, beq_f h9, beq_f h10, beq_f h11, beq_f h12, beq_f h13, beq_f h14, beq_f h15, beq_f h16, cond_false, Bool.or_self]
  exact (call_tail P0 P1 ⟨⟨⟨OkR_enc h, hE⟩, okc_u8 c⟩, .refl _, rfl⟩ (rawX (encSS ⟨sk, el, ar, dl, pe, rf, pt, wd⟩) c.toNat) k).trans (congrArg (fun r => k (scOut P0 P1 r)) (rawX_enc _ c)))
noncomputable def stepX : FC := fun x n => stepS oneP unfM (decSS x) (u8 n)
theorem stepX_enc (s : SS) (c : UInt8) : stepX (encSS s) c.toNat = stepS oneP unfM s c := by unfold stepX; rw [decSS_enc, u8_back]
theorem mcStep_ok : ∀ xs H k out, mcTold okE stepX xs H k = some out → ∃ o, CallOK Tryd.prog 17 xs H o ∧ k o = some out := mcTold_ok (ok := fun s => s.el.length ≤ 900) mstep_ok
/- Step -/
theorem step_ok (s : SS) (c : UInt8) : CallOK Tryd.prog 11 [.agg (encSS s), .int .u8 c.toNat] [] (.ret (.tuple [.agg (encSS (scanStep oneP unfM s c).1), .int .i64 (scanStep oneP unfM s c).2]) []) := stp_of stepX_enc mcStep_ok s c
noncomputable def stepR : List AVal → Int → SS × Int := fun x n => scanStep oneP unfM (decSS x) (u8 n)
theorem stepR_enc (s : SS) (c : UInt8) : stepR (encSS s) c.toNat = scanStep oneP unfM s c := by unfold stepR; rw [decSS_enc, u8_back]
theorem sgTold_ok : ∀ xs H k out, sgTold stepR xs H k = some out → ∃ o, CallOK Tryd.prog 11 xs H o ∧ k o = some out := mkF_ok fun a ha => by
  obtain ⟨x, n⟩ := a
  obtain ⟨h1, h2⟩ := ha
  simp only at h1 h2
  obtain ⟨s, rfl⟩ := isS_get h1
  obtain ⟨c, rfl⟩ := okc_is h2
  refine ⟨_, fun k => rfl, ?_⟩
  show CallOK _ _ _ _ (.ret (.tuple [.agg (encSS (stepR (encSS s) c.toNat).1), .int .i64 (stepR (encSS s) c.toNat).2]) [])
  rw [stepR_enc]
  exact step_ok s c
/- Feed -/
theorem layFm0_ok : (layFm0 markR stepR).OK Tryd.prog := (Lay.nil_ok.addF markTold_ok).addF sgTold_ok
noncomputable def feedR : FdR := fun x t => feedL oneP unfM (decSS x) t
theorem feedR_enc (s : SS) (t : Bs) : feedR (encSS s) t = feedL oneP unfM s t := by unfold feedR; rw [decSS_enc]
theorem fm_rd (R : FdR) (t : Bs) (s : SS) (i : Nat) (hi : i < t.length) (hl : t.length ≤ 1099511627776) (H : Heap) (D : List (FuncId × List AVal)) (k : Kont) :
    lturn Tryd.prog (layFm0 markR stepR) (fmFH R) 6 5 [1,2,4,17,18] [2,4] [1,2,4,5,6] [2,4] (stL 38 [1,2,4,17,18] [.str t, .ptr (.tmp 2) 0, .ptr (.tmp 4) 0, .int .i64 t.length, .int .i64 (i : Nat)] [2,4] [encSS s, encSS ss0] H D) k =
    bif (scanStep oneP unfM s (t.getD i 0)).2 != 0 then k .ret (stL 38 [1,2,4,5,6] [.str t, .ptr (.tmp 2) 0, .ptr (.tmp 4) 0, .int .i64 (i : Nat), .int .i64 (scanStep oneP unfM s (t.getD i 0)).2] [2,4] [encSS (scanStep oneP unfM s (t.getD i 0)).1, encSS ss0] H D)
    else k .normal (stL 38 [1,2,4,17,18] [.str t, .ptr (.tmp 2) 0, .ptr (.tmp 4) 0, .int .i64 t.length, .int .i64 ((i + 1 : Nat) : Int)] [2,4] [encSS (scanStep oneP unfM s (t.getD i 0)).1, encSS ss0] H D) := by
  have key := fm_step markR stepR R t s t.length i H D k
  have e1 : IntKind.i64.wrap ((i : Int) + 1) = ((i + 1 : Nat) : Int) := wrap_add1 (by omega)
  simp only [c0v, cGv, ef0, ef, ssEta, ss0v, stepR_enc, markR_enc, tstS, cond_true, okc_u8, e1, Int.toNat_natCast, dT (show (i : Int) < (t.length : Int) by omega), dT (show (0 : Int) ≤ (i : Int) by omega), Bool.and_self] at key
  exact key.trans ((congrArg (fun c => cond c _ none) (tst_true ⟨⟨isS_enc s, trivial⟩, .refl _, trivial⟩)).trans (cond_true _ _))
theorem scanStep_err {s : SS} {c : UInt8} (h : (scanStep oneP unfM s c).2 ≠ 0) : (scanStep oneP unfM s c).1 = ss0 := by
  unfold scanStep at *
  cases hm : markE s != 0 with
  | true => rfl
  | false =>
    rw [hm] at h
    cases he : (stepS oneP unfM s c).e == 0 with
    | true => rw [he] at h; exact absurd rfl h
    | false => rfl
noncomputable abbrev fmTurn := lturn Tryd.prog (layFm0 markR stepR) (fmFH feedR) 6 5 [1,2,4,17,18] [2,4] [1,2,4,5,6] [2,4]
theorem fm_runs (t : Bs) (hl : t.length ≤ 1099511627776) (H : Heap) : ∀ (m i : Nat) (s : SS), t.length - i ≤ m → i ≤ t.length →
    ((feedL oneP unfM s (t.drop i)).2.2 = 0 → LoopRuns fmTurn 38 [1,2,4,17,18] [2,4] [1,2,4,5,6] [2,4] [.str t, .ptr (.tmp 2) 0, .ptr (.tmp 4) 0, .int .i64 t.length, .int .i64 (i : Nat)] [encSS s, encSS ss0] H (.exit 0) [.str t, .ptr (.tmp 2) 0, .ptr (.tmp 4) 0, .undef, .undef] [encSS (feedL oneP unfM s (t.drop i)).1, encSS ss0] H) ∧
    ((feedL oneP unfM s (t.drop i)).2.2 ≠ 0 → LoopRuns fmTurn 38 [1,2,4,17,18] [2,4] [1,2,4,5,6] [2,4] [.str t, .ptr (.tmp 2) 0, .ptr (.tmp 4) 0, .int .i64 t.length, .int .i64 (i : Nat)] [encSS s, encSS ss0] H .ret [.str t, .ptr (.tmp 2) 0, .ptr (.tmp 4) 0, .int .i64 ((i + (feedL oneP unfM s (t.drop i)).2.1 : Nat) : Int), .int .i64 (feedL oneP unfM s (t.drop i)).2.2] [encSS (feedL oneP unfM s (t.drop i)).1, encSS ss0] H) := by
  intro m
  have fin : ∀ s, LoopRuns fmTurn 38 [1,2,4,17,18] [2,4] [1,2,4,5,6] [2,4] [.str t, .ptr (.tmp 2) 0, .ptr (.tmp 4) 0, .int .i64 t.length, .int .i64 (t.length : Nat)] [encSS s, encSS ss0] H (.exit 0) [.str t, .ptr (.tmp 2) 0, .ptr (.tmp 4) 0, .undef, .undef] [encSS s, encSS ss0] H := fun s =>
    .stop (by simp) (fun D k => by
      have key := fm_step markR stepR feedR t s t.length (t.length : Nat) H D k
      simp only [dF (show ¬ ((t.length : Nat) : Int) < (t.length : Int) by omega), cond_false] at key
      exact key)
  induction m with
  | zero =>
    intro i s hm hi
    have hi : i = t.length := by omega
    subst hi
    rw [List.drop_length]
    exact ⟨fun _ => fin s, fun h => absurd rfl h⟩
  | succ m ih =>
    intro i s hm hi
    by_cases hlt : i < t.length
    · rw [drop_cons_of t i 0 hlt]
      have e2 : feedL oneP unfM s (t.getD i 0 :: t.drop (i + 1)) = bif (scanStep oneP unfM s (t.getD i 0)).2 != 0 then (ss0, 0, (scanStep oneP unfM s (t.getD i 0)).2) else ((feedL oneP unfM (scanStep oneP unfM s (t.getD i 0)).1 (t.drop (i + 1))).1, (feedL oneP unfM (scanStep oneP unfM s (t.getD i 0)).1 (t.drop (i + 1))).2.1 + 1, (feedL oneP unfM (scanStep oneP unfM s (t.getD i 0)).1 (t.drop (i + 1))).2.2) := rfl
      rw [e2]
      have rd := fun D k => fm_rd feedR t s i hlt hl H D k
      cases he : (scanStep oneP unfM s (t.getD i 0)).2 != 0 with
      | true =>
        have hn : (scanStep oneP unfM s (t.getD i 0)).2 ≠ 0 := by simpa using he
        simp only [he, cond_true] at rd ⊢
        rw [scanStep_err hn] at rd
        exact ⟨fun h => absurd h hn, fun _ => .stop (by simp) rd⟩
      | false =>
        simp only [he, cond_false] at rd ⊢
        obtain ⟨g1, g2⟩ := ih (i + 1) (scanStep oneP unfM s (t.getD i 0)).1 (by omega) (by omega)
        refine ⟨fun h => .step rd (g1 h), fun h => .step rd ?_⟩
        have := g2 h
        have en : i + 1 + (feedL oneP unfM (scanStep oneP unfM s (t.getD i 0)).1 (t.drop (i + 1))).2.1 = i + ((feedL oneP unfM (scanStep oneP unfM s (t.getD i 0)).1 (t.drop (i + 1))).2.1 + 1) := by omega
        rw [en] at this
        exact this
    · have hi : i = t.length := by omega
      subst hi
      rw [List.drop_length]
      exact ⟨fun _ => fin s, fun h => absurd rfl h⟩
theorem fmSp_ok : SpOK fmTurn 38 [1,2,4,17,18] [2,4] [1,2,4,5,6] [2,4] (fmSp feedR) := mkL_ok fun a h => by
  obtain ⟨t, x, i, H⟩ := a
  obtain ⟨h1, h2, h3⟩ := h
  simp only at h1 h2 h3
  subst h2
  obtain ⟨s, rfl⟩ := isS_get h1
  obtain ⟨g1, g2⟩ := fm_runs t h3 H t.length 0 s (by omega) (by omega)
  rw [List.drop_zero] at g1 g2
  show ∃ e vs bs H', (∀ k : AExit → List AVal → List (List AVal) → Heap → Ans, cond ((feedR (encSS s) t).2.2 != 0) _ _ = k e vs bs H') ∧ _
  rw [feedR_enc]
  cases he : (feedL oneP unfM s t).2.2 != 0 with
  | true =>
    have hn : (feedL oneP unfM s t).2.2 ≠ 0 := by simpa using he
    have := g2 hn
    rw [Nat.zero_add] at this
    exact ⟨_, _, _, _, fun k => rfl, this⟩
  | false =>
    have hn : (feedL oneP unfM s t).2.2 = 0 := by simpa using he
    exact ⟨_, _, _, _, fun k => rfl, g1 hn⟩
theorem layFm_ok : (layFm markR stepR feedR).OK Tryd.prog := layFm0_ok.loop1 (id := 5) (by kernel_rfl) (by kernel_rfl) (by kernel_rfl) fmSp_ok
theorem feedL_n : ∀ (t : Bs) (s : SS), (feedL oneP unfM s t).2.2 = 0 → (feedL oneP unfM s t).2.1 = t.length
  | [], s, _ => rfl
  | c :: t, s, h => by
    have e : feedL oneP unfM s (c :: t) = bif (scanStep oneP unfM s c).2 != 0 then (ss0, 0, (scanStep oneP unfM s c).2) else ((feedL oneP unfM (scanStep oneP unfM s c).1 t).1, (feedL oneP unfM (scanStep oneP unfM s c).1 t).2.1 + 1, (feedL oneP unfM (scanStep oneP unfM s c).1 t).2.2) := rfl
    rw [e] at h ⊢
    cases he : (scanStep oneP unfM s c).2 != 0 with
    | true => rw [he] at h; have : (scanStep oneP unfM s c).2 = 0 := h; rw [this] at he; exact absurd he (by decide)
    | false =>
      rw [he] at h
      show (feedL oneP unfM (scanStep oneP unfM s c).1 t).2.1 + 1 = _
      rw [feedL_n t _ h]; rfl
theorem feedL_err : ∀ (t : Bs) (s : SS), (feedL oneP unfM s t).2.2 ≠ 0 → (feedL oneP unfM s t).1 = ss0
  | [], s, h => absurd rfl h
  | c :: t, s, h => by
    have e : feedL oneP unfM s (c :: t) = bif (scanStep oneP unfM s c).2 != 0 then (ss0, 0, (scanStep oneP unfM s c).2) else ((feedL oneP unfM (scanStep oneP unfM s c).1 t).1, (feedL oneP unfM (scanStep oneP unfM s c).1 t).2.1 + 1, (feedL oneP unfM (scanStep oneP unfM s c).1 t).2.2) := rfl
    rw [e] at h ⊢
    cases he : (scanStep oneP unfM s c).2 != 0 with
    | true => rfl
    | false =>
      rw [he] at h
      exact feedL_err t _ h
theorem feed_ok (s : SS) (t : Bs) (hl : t.length ≤ 1099511627776) : CallOK Tryd.prog 6 [.agg (encSS s), .str t] [] (.ret (.tuple [.agg (encSS (scanFeed oneP unfM s t).1), .int .i64 ((scanFeed oneP unfM s t).2.1 : Nat), .int .i64 (scanFeed oneP unfM s t).2.2]) []) := by
  refine layFm_ok.callF (G := []) rfl (fun k => ?_)
  have key := fm_fun markR stepR feedR s t k
  simp only [c0v, cGv, ef0, ef, ssEta, ss0v, feedR_enc, markR_enc, tstS, cond_true] at key
  refine key.trans ?_
  unfold scanFeed
  cases hm : markE s != 0 with
  | true => rfl
  | false =>
    simp only [cond_false]
    refine (congrArg (fun c => cond c _ none) (tst_true ⟨⟨isS_enc s, rfl, hl⟩, .refl _, by trivial⟩)).trans ((cond_true _ _).trans ?_)
    cases he : (feedL oneP unfM s t).2.2 != 0 with
    | true =>
      have hn : (feedL oneP unfM s t).2.2 ≠ 0 := by simpa using he
      rw [feedL_err t s hn]
      rfl
    | false =>
      have h0 : (feedL oneP unfM s t).2.2 = 0 := by simpa using he
      have hn := feedL_n t s h0
      rw [h0, hn]
      rfl
noncomputable def sfTold (F : FdR) : FSp := mkF (fun xs H => (cellsG (xs.getD 0 .undef), aS xs 1)) (fun a => isS a.1 ∧ a.2.length ≤ 1099511627776) (fun a => [.agg a.1, .str a.2]) (fun _ => []) (fun a k => k (.ret (.tuple [.agg (encSS (F a.1 a.2).1), .int .i64 ((F a.1 a.2).2.1 : Nat), .int .i64 (F a.1 a.2).2.2]) []))
noncomputable def scanR : FdR := fun x t => scanFeed oneP unfM (decSS x) t
theorem scanR_enc (s : SS) (t : Bs) : scanR (encSS s) t = scanFeed oneP unfM s t := by unfold scanR; rw [decSS_enc]
theorem sfTold_ok : ∀ xs H k out, sfTold scanR xs H k = some out → ∃ o, CallOK Tryd.prog 6 xs H o ∧ k o = some out := mkF_ok fun a ha => by
  obtain ⟨x, t⟩ := a
  obtain ⟨h1, h2⟩ := ha
  simp only at h1 h2
  obtain ⟨s, rfl⟩ := isS_get h1
  refine ⟨_, fun k => rfl, ?_⟩
  show CallOK _ _ _ _ (.ret (.tuple [.agg (encSS (scanR (encSS s) t).1), .int .i64 ((scanR (encSS s) t).2.1 : Nat), .int .i64 (scanR (encSS s) t).2.2]) [])
  rw [scanR_enc]
  exact feed_ok s t h2
end Go.Mu
set_option linter.unusedVariables false
set_option linter.unusedSimpArgs false
set_option maxRecDepth 100000
namespace Go.Mu
open Go Go.Proofs
noncomputable def layIa (K : List AVal → Int) : Lay := Lay.nil.addF 19 (ksTold K)
theorem ina_fun (K : List AVal → Int) (s : SS) (k : Out → Ans) : iFun Tryd.prog ((layIa K).hd Tryd.prog) (layIa K).fhs 0 12 [.agg (encSS s)] [] k = (
 let n0 : Int := (↑(List.length s.el) : Int);
 let c1 : Bool := decide (n0 ≥ 1);
 let n2 : Int :=
  K
  (cellsG
  (AVal.agg
  [AVal.int IntKind.i64 s.k, AVal.str s.el, AVal.str s.ar, AVal.int IntKind.u8 (↑s.dl.toNat : Int), AVal.str s.pe,
  AVal.str s.rf, AVal.int IntKind.i64 s.pt, AVal.str s.wd]));
 let c3 : Bool := s.pt == 0;
 let c4 : Bool := s.pt == 2;
 let c5 : Bool := s.pt == 3;
  bif decide (1 ≤ n0) || !c1 then
  bif bif c1 then List.drop (Int.toNat 0) (List.take (Int.toNat 1) s.el) == [47] else false then
  k
  (Out.ret
  (AVal.tuple
  [AVal.agg
  [AVal.int IntKind.i64 s.k, AVal.str s.el, AVal.str s.ar, AVal.int IntKind.u8 (↑s.dl.toNat : Int),
  AVal.str s.pe, AVal.str s.rf, AVal.int IntKind.i64 s.pt, AVal.str s.wd],
  AVal.int IntKind.i64 0])
  [])
  else
  bif
  tst
  (isS
  (cellsG
  (AVal.agg
  [AVal.int IntKind.i64 s.k, AVal.str s.el, AVal.str s.ar, AVal.int IntKind.u8 (↑s.dl.toNat : Int),
  AVal.str s.pe, AVal.str s.rf, AVal.int IntKind.i64 s.pt, AVal.str s.wd])) ∧
  SubL
  [AVal.agg
  [AVal.int IntKind.i64 s.k, AVal.str s.el, AVal.str s.ar, AVal.int IntKind.u8 (↑s.dl.toNat : Int),
  AVal.str s.pe, AVal.str s.rf, AVal.int IntKind.i64 s.pt, AVal.str s.wd]]
  [AVal.agg
  (cellsG
  (AVal.agg
  [AVal.int IntKind.i64 s.k, AVal.str s.el, AVal.str s.ar,
  AVal.int IntKind.u8 (↑s.dl.toNat : Int), AVal.str s.pe, AVal.str s.rf,
  AVal.int IntKind.i64 s.pt, AVal.str s.wd]))] ∧
  ([] : Heap) = []) then
  bif n2 == 0 then
  k
  (Out.ret
  (AVal.tuple
  [AVal.agg
  [AVal.int IntKind.i64 s.k, AVal.str s.el, AVal.str s.ar, AVal.int IntKind.u8 (↑s.dl.toNat : Int),
  AVal.str s.pe, AVal.str s.rf, AVal.int IntKind.i64 s.pt, AVal.str s.wd],
  AVal.int IntKind.i64 3])
  [])
  else
  bif n2 == 1 then
  bif c3 then
  k
  (Out.ret
  (AVal.tuple
  [AVal.agg
  [AVal.int IntKind.i64 s.k, AVal.str s.el, AVal.str s.ar, AVal.int IntKind.u8 (↑s.dl.toNat : Int),
  AVal.str s.pe, AVal.str s.rf, AVal.int IntKind.i64 4, AVal.str []],
  AVal.int IntKind.i64 4])
  [])
  else
  bif c4 then
  bif c4 then
  bif decide (s.pt > 0) then
  k
  (Out.ret
  (AVal.tuple
  [AVal.agg
  [AVal.int IntKind.i64 s.k, AVal.str s.el, AVal.str s.ar,
  AVal.int IntKind.u8 (↑s.dl.toNat : Int), AVal.str s.pe, AVal.str s.rf,
  AVal.int IntKind.i64 s.pt, AVal.str []],
  AVal.int IntKind.i64 (IntKind.i64.wrap (s.pt + 3))])
  [])
  else
  k
  (Out.ret
  (AVal.tuple
  [AVal.agg
  [AVal.int IntKind.i64 s.k, AVal.str s.el, AVal.str s.ar,
  AVal.int IntKind.u8 (↑s.dl.toNat : Int), AVal.str s.pe, AVal.str s.rf,
  AVal.int IntKind.i64 s.pt, AVal.str []],
  AVal.int IntKind.i64 s.pt])
  [])
  else
  k
  (Out.ret
  (AVal.tuple
  [AVal.agg
  [AVal.int IntKind.i64 s.k, AVal.str s.el, AVal.str s.ar,
  AVal.int IntKind.u8 (↑s.dl.toNat : Int), AVal.str s.pe, AVal.str s.rf,
  AVal.int IntKind.i64 s.pt, AVal.str []],
  AVal.int IntKind.i64 0])
  [])
  else
  bif c5 then
  bif decide (s.pt > 0) then
  k
  (Out.ret
  (AVal.tuple
  [AVal.agg
  [AVal.int IntKind.i64 s.k, AVal.str s.el, AVal.str s.ar,
  AVal.int IntKind.u8 (↑s.dl.toNat : Int), AVal.str s.pe, AVal.str s.rf,
  AVal.int IntKind.i64 s.pt, AVal.str []],
  AVal.int IntKind.i64 (IntKind.i64.wrap (s.pt + 3))])
  [])
  else
  k
  (Out.ret
  (AVal.tuple
  [AVal.agg
  [AVal.int IntKind.i64 s.k, AVal.str s.el, AVal.str s.ar,
  AVal.int IntKind.u8 (↑s.dl.toNat : Int), AVal.str s.pe, AVal.str s.rf,
  AVal.int IntKind.i64 s.pt, AVal.str []],
  AVal.int IntKind.i64 s.pt])
  [])
  else
  k
  (Out.ret
  (AVal.tuple
  [AVal.agg
  [AVal.int IntKind.i64 s.k, AVal.str s.el, AVal.str s.ar,
  AVal.int IntKind.u8 (↑s.dl.toNat : Int), AVal.str s.pe, AVal.str s.rf,
  AVal.int IntKind.i64 s.pt, AVal.str []],
  AVal.int IntKind.i64 0])
  [])
  else
  bif n2 == 2 then
  bif c3 then
  bif c3 then
  k
  (Out.ret
  (AVal.tuple
  [AVal.agg
  [AVal.int IntKind.i64 s.k, AVal.str s.el, AVal.str s.ar,
  AVal.int IntKind.u8 (↑s.dl.toNat : Int), AVal.str s.pe, AVal.str s.rf,
  AVal.int IntKind.i64 1, AVal.str []],
  AVal.int IntKind.i64 9])
  [])
  else
  bif c4 then
  bif c4 then
  k
  (Out.ret
  (AVal.tuple
  [AVal.agg
  [AVal.int IntKind.i64 s.k, AVal.str s.el, AVal.str s.ar,
  AVal.int IntKind.u8 (↑s.dl.toNat : Int), AVal.str s.pe, AVal.str s.rf,
  AVal.int IntKind.i64 s.pt, AVal.str []],
  AVal.int IntKind.i64 10])
  [])
  else
  k
  (Out.ret
  (AVal.tuple
  [AVal.agg
  [AVal.int IntKind.i64 s.k, AVal.str s.el, AVal.str s.ar,
  AVal.int IntKind.u8 (↑s.dl.toNat : Int), AVal.str s.pe, AVal.str s.rf,
  AVal.int IntKind.i64 s.pt, AVal.str []],
  AVal.int IntKind.i64 0])
  [])
  else
  bif c5 then
  k
  (Out.ret
  (AVal.tuple
  [AVal.agg
  [AVal.int IntKind.i64 s.k, AVal.str s.el, AVal.str s.ar,
  AVal.int IntKind.u8 (↑s.dl.toNat : Int), AVal.str s.pe, AVal.str s.rf,
  AVal.int IntKind.i64 s.pt, AVal.str []],
  AVal.int IntKind.i64 10])
  [])
  else
  k
  (Out.ret
  (AVal.tuple
  [AVal.agg
  [AVal.int IntKind.i64 s.k, AVal.str s.el, AVal.str s.ar,
  AVal.int IntKind.u8 (↑s.dl.toNat : Int), AVal.str s.pe, AVal.str s.rf,
  AVal.int IntKind.i64 s.pt, AVal.str []],
  AVal.int IntKind.i64 0])
  [])
  else
  bif s.pt == 1 then
  k
  (Out.ret
  (AVal.tuple
  [AVal.agg
  [AVal.int IntKind.i64 s.k, AVal.str s.el, AVal.str s.ar,
  AVal.int IntKind.u8 (↑s.dl.toNat : Int), AVal.str s.pe, AVal.str s.rf,
  AVal.int IntKind.i64 1, AVal.str []],
  AVal.int IntKind.i64 9])
  [])
  else
  bif c4 then
  bif c4 then
  k
  (Out.ret
  (AVal.tuple
  [AVal.agg
  [AVal.int IntKind.i64 s.k, AVal.str s.el, AVal.str s.ar,
  AVal.int IntKind.u8 (↑s.dl.toNat : Int), AVal.str s.pe, AVal.str s.rf,
  AVal.int IntKind.i64 s.pt, AVal.str []],
  AVal.int IntKind.i64 10])
  [])
  else
  k
  (Out.ret
  (AVal.tuple
  [AVal.agg
  [AVal.int IntKind.i64 s.k, AVal.str s.el, AVal.str s.ar,
  AVal.int IntKind.u8 (↑s.dl.toNat : Int), AVal.str s.pe, AVal.str s.rf,
  AVal.int IntKind.i64 s.pt, AVal.str []],
  AVal.int IntKind.i64 0])
  [])
  else
  bif c5 then
  k
  (Out.ret
  (AVal.tuple
  [AVal.agg
  [AVal.int IntKind.i64 s.k, AVal.str s.el, AVal.str s.ar,
  AVal.int IntKind.u8 (↑s.dl.toNat : Int), AVal.str s.pe, AVal.str s.rf,
  AVal.int IntKind.i64 s.pt, AVal.str []],
  AVal.int IntKind.i64 10])
  [])
  else
  k
  (Out.ret
  (AVal.tuple
  [AVal.agg
  [AVal.int IntKind.i64 s.k, AVal.str s.el, AVal.str s.ar,
  AVal.int IntKind.u8 (↑s.dl.toNat : Int), AVal.str s.pe, AVal.str s.rf,
  AVal.int IntKind.i64 s.pt, AVal.str []],
  AVal.int IntKind.i64 0])
  [])
  else
  bif n2 == 3 then
  bif c3 then
  k
  (Out.ret
  (AVal.tuple
  [AVal.agg
  [AVal.int IntKind.i64 s.k, AVal.str s.el, AVal.str s.ar,
  AVal.int IntKind.u8 (↑s.dl.toNat : Int), AVal.str s.pe, AVal.str s.rf,
  AVal.int IntKind.i64 0, AVal.str [63]],
  AVal.int IntKind.i64 12])
  [])
  else
  k
  (Out.ret
  (AVal.tuple
  [AVal.agg
  [AVal.int IntKind.i64 s.k, AVal.str s.el, AVal.str s.ar,
  AVal.int IntKind.u8 (↑s.dl.toNat : Int), AVal.str s.pe, AVal.str s.rf,
  AVal.int IntKind.i64 s.pt, AVal.str []],
  AVal.int IntKind.i64 0])
  [])
  else
  k
  (Out.ret
  (AVal.tuple
  [AVal.agg
  [AVal.int IntKind.i64 s.k, AVal.str s.el, AVal.str s.ar,
  AVal.int IntKind.u8 (↑s.dl.toNat : Int), AVal.str s.pe, AVal.str s.rf,
  AVal.int IntKind.i64 s.pt, AVal.str s.wd],
  AVal.int IntKind.i64 0])
  [])
  else none
  else none) := by kernel_rfl
theorem inr_fun (s : SS) (k : Out → Ans) : iFun Tryd.prog (Lay.nil.hd Tryd.prog) Lay.nil.fhs 0 13 [.agg (encSS s)] [] k = (
 let c0 : Bool := s.pt == 0;
 let c1 : Bool := s.pt == 2;
  bif s.k == 18 then
  bif c0 then
  k
  (Out.ret
  (AVal.tuple
  [AVal.agg
  [AVal.int IntKind.i64 s.k, AVal.str s.el, AVal.str s.ar, AVal.int IntKind.u8 (↑s.dl.toNat : Int),
  AVal.str s.pe, AVal.str s.rf, AVal.int IntKind.i64 0, AVal.str [63]],
  AVal.int IntKind.i64 11])
  [])
  else
  k
  (Out.ret
  (AVal.tuple
  [AVal.agg
  [AVal.int IntKind.i64 s.k, AVal.str s.el, AVal.str s.ar, AVal.int IntKind.u8 (↑s.dl.toNat : Int),
  AVal.str s.pe, AVal.str s.rf, AVal.int IntKind.i64 s.pt, AVal.str []],
  AVal.int IntKind.i64 0])
  [])
  else
  bif c0 then
  bif c0 then
  k
  (Out.ret
  (AVal.tuple
  [AVal.agg
  [AVal.int IntKind.i64 s.k, AVal.str s.el, AVal.str s.ar, AVal.int IntKind.u8 (↑s.dl.toNat : Int),
  AVal.str s.pe, AVal.str s.rf, AVal.int IntKind.i64 1, AVal.str []],
  AVal.int IntKind.i64 7])
  [])
  else
  bif c1 then
  bif c1 then
  k
  (Out.ret
  (AVal.tuple
  [AVal.agg
  [AVal.int IntKind.i64 s.k, AVal.str s.el, AVal.str s.ar, AVal.int IntKind.u8 (↑s.dl.toNat : Int),
  AVal.str s.pe, AVal.str s.rf, AVal.int IntKind.i64 s.pt, AVal.str []],
  AVal.int IntKind.i64 8])
  [])
  else
  k
  (Out.ret
  (AVal.tuple
  [AVal.agg
  [AVal.int IntKind.i64 s.k, AVal.str s.el, AVal.str s.ar, AVal.int IntKind.u8 (↑s.dl.toNat : Int),
  AVal.str s.pe, AVal.str s.rf, AVal.int IntKind.i64 s.pt, AVal.str []],
  AVal.int IntKind.i64 0])
  [])
  else
  bif s.pt == 3 then
  k
  (Out.ret
  (AVal.tuple
  [AVal.agg
  [AVal.int IntKind.i64 s.k, AVal.str s.el, AVal.str s.ar, AVal.int IntKind.u8 (↑s.dl.toNat : Int),
  AVal.str s.pe, AVal.str s.rf, AVal.int IntKind.i64 s.pt, AVal.str []],
  AVal.int IntKind.i64 8])
  [])
  else
  k
  (Out.ret
  (AVal.tuple
  [AVal.agg
  [AVal.int IntKind.i64 s.k, AVal.str s.el, AVal.str s.ar, AVal.int IntKind.u8 (↑s.dl.toNat : Int),
  AVal.str s.pe, AVal.str s.rf, AVal.int IntKind.i64 s.pt, AVal.str []],
  AVal.int IntKind.i64 0])
  [])
  else
  bif s.pt == 1 then
  k
  (Out.ret
  (AVal.tuple
  [AVal.agg
  [AVal.int IntKind.i64 s.k, AVal.str s.el, AVal.str s.ar, AVal.int IntKind.u8 (↑s.dl.toNat : Int),
  AVal.str s.pe, AVal.str s.rf, AVal.int IntKind.i64 1, AVal.str []],
  AVal.int IntKind.i64 7])
  [])
  else
  bif c1 then
  bif c1 then
  k
  (Out.ret
  (AVal.tuple
  [AVal.agg
  [AVal.int IntKind.i64 s.k, AVal.str s.el, AVal.str s.ar, AVal.int IntKind.u8 (↑s.dl.toNat : Int),
  AVal.str s.pe, AVal.str s.rf, AVal.int IntKind.i64 s.pt, AVal.str []],
  AVal.int IntKind.i64 8])
  [])
  else
  k
  (Out.ret
  (AVal.tuple
  [AVal.agg
  [AVal.int IntKind.i64 s.k, AVal.str s.el, AVal.str s.ar, AVal.int IntKind.u8 (↑s.dl.toNat : Int),
  AVal.str s.pe, AVal.str s.rf, AVal.int IntKind.i64 s.pt, AVal.str []],
  AVal.int IntKind.i64 0])
  [])
  else
  bif s.pt == 3 then
  k
  (Out.ret
  (AVal.tuple
  [AVal.agg
  [AVal.int IntKind.i64 s.k, AVal.str s.el, AVal.str s.ar, AVal.int IntKind.u8 (↑s.dl.toNat : Int),
  AVal.str s.pe, AVal.str s.rf, AVal.int IntKind.i64 s.pt, AVal.str []],
  AVal.int IntKind.i64 8])
  [])
  else
  k
  (Out.ret
  (AVal.tuple
  [AVal.agg
  [AVal.int IntKind.i64 s.k, AVal.str s.el, AVal.str s.ar, AVal.int IntKind.u8 (↑s.dl.toNat : Int),
  AVal.str s.pe, AVal.str s.rf, AVal.int IntKind.i64 s.pt, AVal.str []],
  AVal.int IntKind.i64 0])
                [])) := by kernel_rfl
abbrev HoF := List AVal → SS × Int
noncomputable def hoTold (F : HoF) : FSp := mkF (fun xs H => cellsG (xs.getD 0 .undef)) isS (fun x => [.agg x]) (fun _ => []) (fun x k => k (.ret (.tuple [.agg (encSS (F x).1), .int .i64 (F x).2]) []))
noncomputable def layHo (M : List AVal → Int) (A R : HoF) : Lay := ((Lay.nil.addF 10 (ksTold M)).addF 12 (hoTold A)).addF 13 (hoTold R)
theorem hole_fun (M : List AVal → Int) (A R : HoF) (s : SS) (k : Out → Ans) : iFun Tryd.prog ((layHo M A R).hd Tryd.prog) (layHo M A R).fhs 0 9 [.agg (encSS s)] [] k = (
 let c0 : Bool :=
  tst
  (isS
  (cellsG
  (AVal.agg
  [AVal.int IntKind.i64 s.k, AVal.str s.el, AVal.str s.ar, AVal.int IntKind.u8 (↑s.dl.toNat : Int),
  AVal.str s.pe, AVal.str s.rf, AVal.int IntKind.i64 s.pt, AVal.str s.wd])) ∧
  SubL
  [AVal.agg
  [AVal.int IntKind.i64 s.k, AVal.str s.el, AVal.str s.ar, AVal.int IntKind.u8 (↑s.dl.toNat : Int),
  AVal.str s.pe, AVal.str s.rf, AVal.int IntKind.i64 s.pt, AVal.str s.wd]]
  [AVal.agg
  (cellsG
  (AVal.agg
  [AVal.int IntKind.i64 s.k, AVal.str s.el, AVal.str s.ar, AVal.int IntKind.u8 (↑s.dl.toNat : Int),
  AVal.str s.pe, AVal.str s.rf, AVal.int IntKind.i64 s.pt, AVal.str s.wd]))] ∧
  ([] : Heap) = []);
 let n1 : Int :=
  M
  (cellsG
  (AVal.agg
  [AVal.int IntKind.i64 s.k, AVal.str s.el, AVal.str s.ar, AVal.int IntKind.u8 (↑s.dl.toNat : Int), AVal.str s.pe,
  AVal.str s.rf, AVal.int IntKind.i64 s.pt, AVal.str s.wd]));
 let n2 : Int :=
  (A
  (cellsG
  (AVal.agg
  [AVal.int IntKind.i64 s.k, AVal.str s.el, AVal.str s.ar, AVal.int IntKind.u8 (↑s.dl.toNat : Int),
  AVal.str s.pe, AVal.str s.rf, AVal.int IntKind.i64 s.pt, AVal.str s.wd]))).snd;
 let c3 : Bool := s.k == 18;
 let n4 : Int :=
  (R
  (cellsG
  (AVal.agg
  [AVal.int IntKind.i64 s.k, AVal.str s.el, AVal.str s.ar, AVal.int IntKind.u8 (↑s.dl.toNat : Int),
  AVal.str s.pe, AVal.str s.rf, AVal.int IntKind.i64 s.pt, AVal.str s.wd]))).snd;
  bif c0 then
  bif n1 != 0 then
  k
  (Out.ret
  (AVal.tuple
  [AVal.agg
  [AVal.int IntKind.i64 0, AVal.str [], AVal.str [], AVal.int IntKind.u8 0, AVal.str [], AVal.str [],
  AVal.int IntKind.i64 0, AVal.str []],
  AVal.int IntKind.i64 0, AVal.int IntKind.i64 n1])
  [])
  else
  bif bif s.pe == [] then s.rf == [] else false then
  bif s.k == 0 then
  k
  (Out.ret
  (AVal.tuple
  [AVal.agg
  [AVal.int IntKind.i64 s.k, AVal.str s.el, AVal.str s.ar, AVal.int IntKind.u8 (↑s.dl.toNat : Int),
  AVal.str s.pe, AVal.str s.rf, AVal.int IntKind.i64 s.pt, AVal.str s.wd],
  AVal.int IntKind.i64 1, AVal.int IntKind.i64 0])
  [])
  else
  bif s.k == 17 then
  k
  (Out.ret
  (AVal.tuple
  [AVal.agg
  [AVal.int IntKind.i64 s.k, AVal.str s.el, AVal.str s.ar, AVal.int IntKind.u8 (↑s.dl.toNat : Int),
  AVal.str s.pe, AVal.str s.rf, AVal.int IntKind.i64 s.pt, AVal.str s.wd],
  AVal.int IntKind.i64 2, AVal.int IntKind.i64 0])
  [])
  else
  bif s.k == 9 then
  bif c0 then
  bif n2 == 0 then
  k
  (Out.ret
  (AVal.tuple
  [AVal.agg
  [AVal.int IntKind.i64 0, AVal.str [], AVal.str [], AVal.int IntKind.u8 0, AVal.str [],
  AVal.str [], AVal.int IntKind.i64 0, AVal.str []],
  AVal.int IntKind.i64 0, AVal.int IntKind.i64 91])
  [])
  else
  k
  (Out.ret
  (AVal.tuple
  [AVal.agg
  [AVal.int IntKind.i64
  (A
  (cellsG
  (AVal.agg
  [AVal.int IntKind.i64 s.k, AVal.str s.el, AVal.str s.ar,
  AVal.int IntKind.u8 (↑s.dl.toNat : Int), AVal.str s.pe, AVal.str s.rf,
  AVal.int IntKind.i64 s.pt, AVal.str s.wd]))).fst.k,
  AVal.str
  (A
  (cellsG
  (AVal.agg
  [AVal.int IntKind.i64 s.k, AVal.str s.el, AVal.str s.ar,
  AVal.int IntKind.u8 (↑s.dl.toNat : Int), AVal.str s.pe, AVal.str s.rf,
  AVal.int IntKind.i64 s.pt, AVal.str s.wd]))).fst.el,
  AVal.str
  (A
  (cellsG
  (AVal.agg
  [AVal.int IntKind.i64 s.k, AVal.str s.el, AVal.str s.ar,
  AVal.int IntKind.u8 (↑s.dl.toNat : Int), AVal.str s.pe, AVal.str s.rf,
  AVal.int IntKind.i64 s.pt, AVal.str s.wd]))).fst.ar,
  AVal.int IntKind.u8
  (↑(A
  (cellsG
  (AVal.agg
  [AVal.int IntKind.i64 s.k, AVal.str s.el, AVal.str s.ar,
  AVal.int IntKind.u8 (↑s.dl.toNat : Int), AVal.str s.pe, AVal.str s.rf,
  AVal.int IntKind.i64 s.pt, AVal.str s.wd]))).fst.dl.toNat :
  Int),
  AVal.str
  (A
  (cellsG
  (AVal.agg
  [AVal.int IntKind.i64 s.k, AVal.str s.el, AVal.str s.ar,
  AVal.int IntKind.u8 (↑s.dl.toNat : Int), AVal.str s.pe, AVal.str s.rf,
  AVal.int IntKind.i64 s.pt, AVal.str s.wd]))).fst.pe,
  AVal.str
  (A
  (cellsG
  (AVal.agg
  [AVal.int IntKind.i64 s.k, AVal.str s.el, AVal.str s.ar,
  AVal.int IntKind.u8 (↑s.dl.toNat : Int), AVal.str s.pe, AVal.str s.rf,
  AVal.int IntKind.i64 s.pt, AVal.str s.wd]))).fst.rf,
  AVal.int IntKind.i64
  (A
  (cellsG
  (AVal.agg
  [AVal.int IntKind.i64 s.k, AVal.str s.el, AVal.str s.ar,
  AVal.int IntKind.u8 (↑s.dl.toNat : Int), AVal.str s.pe, AVal.str s.rf,
  AVal.int IntKind.i64 s.pt, AVal.str s.wd]))).fst.pt,
  AVal.str
  (A
  (cellsG
  (AVal.agg
  [AVal.int IntKind.i64 s.k, AVal.str s.el, AVal.str s.ar,
  AVal.int IntKind.u8 (↑s.dl.toNat : Int), AVal.str s.pe, AVal.str s.rf,
  AVal.int IntKind.i64 s.pt, AVal.str s.wd]))).fst.wd],
  AVal.int IntKind.i64 n2, AVal.int IntKind.i64 0])
  [])
  else none
  else
  bif c3 then
  bif c3 then
  bif c0 then
  bif n4 == 0 then
  k
  (Out.ret
  (AVal.tuple
  [AVal.agg
  [AVal.int IntKind.i64 0, AVal.str [], AVal.str [], AVal.int IntKind.u8 0, AVal.str [],
  AVal.str [], AVal.int IntKind.i64 0, AVal.str []],
  AVal.int IntKind.i64 0, AVal.int IntKind.i64 91])
  [])
  else
  k
  (Out.ret
  (AVal.tuple
  [AVal.agg
  [AVal.int IntKind.i64
  (R
  (cellsG
  (AVal.agg
  [AVal.int IntKind.i64 s.k, AVal.str s.el, AVal.str s.ar,
  AVal.int IntKind.u8 (↑s.dl.toNat : Int), AVal.str s.pe, AVal.str s.rf,
  AVal.int IntKind.i64 s.pt, AVal.str s.wd]))).fst.k,
  AVal.str
  (R
  (cellsG
  (AVal.agg
  [AVal.int IntKind.i64 s.k, AVal.str s.el, AVal.str s.ar,
  AVal.int IntKind.u8 (↑s.dl.toNat : Int), AVal.str s.pe, AVal.str s.rf,
  AVal.int IntKind.i64 s.pt, AVal.str s.wd]))).fst.el,
  AVal.str
  (R
  (cellsG
  (AVal.agg
  [AVal.int IntKind.i64 s.k, AVal.str s.el, AVal.str s.ar,
  AVal.int IntKind.u8 (↑s.dl.toNat : Int), AVal.str s.pe, AVal.str s.rf,
  AVal.int IntKind.i64 s.pt, AVal.str s.wd]))).fst.ar,
  AVal.int IntKind.u8
  (↑(R
  (cellsG
  (AVal.agg
  [AVal.int IntKind.i64 s.k, AVal.str s.el, AVal.str s.ar,
  AVal.int IntKind.u8 (↑s.dl.toNat : Int), AVal.str s.pe,
  AVal.str s.rf, AVal.int IntKind.i64 s.pt,
  AVal.str s.wd]))).fst.dl.toNat :
  Int),
  AVal.str
  (R
  (cellsG
  (AVal.agg
  [AVal.int IntKind.i64 s.k, AVal.str s.el, AVal.str s.ar,
  AVal.int IntKind.u8 (↑s.dl.toNat : Int), AVal.str s.pe, AVal.str s.rf,
  AVal.int IntKind.i64 s.pt, AVal.str s.wd]))).fst.pe,
  AVal.str
  (R
  (cellsG
  (AVal.agg
  [AVal.int IntKind.i64 s.k, AVal.str s.el, AVal.str s.ar,
  AVal.int IntKind.u8 (↑s.dl.toNat : Int), AVal.str s.pe, AVal.str s.rf,
  AVal.int IntKind.i64 s.pt, AVal.str s.wd]))).fst.rf,
  AVal.int IntKind.i64
  (R
  (cellsG
  (AVal.agg
  [AVal.int IntKind.i64 s.k, AVal.str s.el, AVal.str s.ar,
  AVal.int IntKind.u8 (↑s.dl.toNat : Int), AVal.str s.pe, AVal.str s.rf,
  AVal.int IntKind.i64 s.pt, AVal.str s.wd]))).fst.pt,
  AVal.str
  (R
  (cellsG
  (AVal.agg
  [AVal.int IntKind.i64 s.k, AVal.str s.el, AVal.str s.ar,
  AVal.int IntKind.u8 (↑s.dl.toNat : Int), AVal.str s.pe, AVal.str s.rf,
  AVal.int IntKind.i64 s.pt, AVal.str s.wd]))).fst.wd],
  AVal.int IntKind.i64 n4, AVal.int IntKind.i64 0])
  [])
  else none
  else
  k
  (Out.ret
  (AVal.tuple
  [AVal.agg
  [AVal.int IntKind.i64 0, AVal.str [], AVal.str [], AVal.int IntKind.u8 0, AVal.str [],
  AVal.str [], AVal.int IntKind.i64 0, AVal.str []],
  AVal.int IntKind.i64 0, AVal.int IntKind.i64 91])
  [])
  else
  bif s.k == 19 then
  bif c0 then
  bif n4 == 0 then
  k
  (Out.ret
  (AVal.tuple
  [AVal.agg
  [AVal.int IntKind.i64 0, AVal.str [], AVal.str [], AVal.int IntKind.u8 0, AVal.str [],
  AVal.str [], AVal.int IntKind.i64 0, AVal.str []],
  AVal.int IntKind.i64 0, AVal.int IntKind.i64 91])
  [])
  else
  k
  (Out.ret
  (AVal.tuple
  [AVal.agg
  [AVal.int IntKind.i64
  (R
  (cellsG
  (AVal.agg
  [AVal.int IntKind.i64 s.k, AVal.str s.el, AVal.str s.ar,
  AVal.int IntKind.u8 (↑s.dl.toNat : Int), AVal.str s.pe, AVal.str s.rf,
  AVal.int IntKind.i64 s.pt, AVal.str s.wd]))).fst.k,
  AVal.str
  (R
  (cellsG
  (AVal.agg
  [AVal.int IntKind.i64 s.k, AVal.str s.el, AVal.str s.ar,
  AVal.int IntKind.u8 (↑s.dl.toNat : Int), AVal.str s.pe, AVal.str s.rf,
  AVal.int IntKind.i64 s.pt, AVal.str s.wd]))).fst.el,
  AVal.str
  (R
  (cellsG
  (AVal.agg
  [AVal.int IntKind.i64 s.k, AVal.str s.el, AVal.str s.ar,
  AVal.int IntKind.u8 (↑s.dl.toNat : Int), AVal.str s.pe, AVal.str s.rf,
  AVal.int IntKind.i64 s.pt, AVal.str s.wd]))).fst.ar,
  AVal.int IntKind.u8
  (↑(R
  (cellsG
  (AVal.agg
  [AVal.int IntKind.i64 s.k, AVal.str s.el, AVal.str s.ar,
  AVal.int IntKind.u8 (↑s.dl.toNat : Int), AVal.str s.pe,
  AVal.str s.rf, AVal.int IntKind.i64 s.pt,
  AVal.str s.wd]))).fst.dl.toNat :
  Int),
  AVal.str
  (R
  (cellsG
  (AVal.agg
  [AVal.int IntKind.i64 s.k, AVal.str s.el, AVal.str s.ar,
  AVal.int IntKind.u8 (↑s.dl.toNat : Int), AVal.str s.pe, AVal.str s.rf,
  AVal.int IntKind.i64 s.pt, AVal.str s.wd]))).fst.pe,
  AVal.str
  (R
  (cellsG
  (AVal.agg
  [AVal.int IntKind.i64 s.k, AVal.str s.el, AVal.str s.ar,
  AVal.int IntKind.u8 (↑s.dl.toNat : Int), AVal.str s.pe, AVal.str s.rf,
  AVal.int IntKind.i64 s.pt, AVal.str s.wd]))).fst.rf,
  AVal.int IntKind.i64
  (R
  (cellsG
  (AVal.agg
  [AVal.int IntKind.i64 s.k, AVal.str s.el, AVal.str s.ar,
  AVal.int IntKind.u8 (↑s.dl.toNat : Int), AVal.str s.pe, AVal.str s.rf,
  AVal.int IntKind.i64 s.pt, AVal.str s.wd]))).fst.pt,
  AVal.str
  (R
  (cellsG
  (AVal.agg
  [AVal.int IntKind.i64 s.k, AVal.str s.el, AVal.str s.ar,
  AVal.int IntKind.u8 (↑s.dl.toNat : Int), AVal.str s.pe, AVal.str s.rf,
  AVal.int IntKind.i64 s.pt, AVal.str s.wd]))).fst.wd],
  AVal.int IntKind.i64 n4, AVal.int IntKind.i64 0])
  [])
  else none
  else
  k
  (Out.ret
  (AVal.tuple
  [AVal.agg
  [AVal.int IntKind.i64 0, AVal.str [], AVal.str [], AVal.int IntKind.u8 0, AVal.str [],
  AVal.str [], AVal.int IntKind.i64 0, AVal.str []],
  AVal.int IntKind.i64 0, AVal.int IntKind.i64 91])
  [])
  else
  k
  (Out.ret
  (AVal.tuple
  [AVal.agg
  [AVal.int IntKind.i64 0, AVal.str [], AVal.str [], AVal.int IntKind.u8 0, AVal.str [], AVal.str [],
  AVal.int IntKind.i64 0, AVal.str []],
  AVal.int IntKind.i64 0, AVal.int IntKind.i64 91])
  [])
  else none) := by kernel_rfl
noncomputable def hlTold (F : List AVal → SS × Int × Int) : FSp := mkF (fun xs H => cellsG (xs.getD 0 .undef)) isS (fun x => [.agg x]) (fun _ => []) (fun x k => k (.ret (.tuple [.agg (encSS (F x).1), .int .i64 (F x).2.1, .int .i64 (F x).2.2]) []))
noncomputable def layAl17 (S : FdR) (F : List AVal → SS × Int × Int) : Lay := (Lay.nil.addF 6 (sfTold S)).addF 9 (hlTold F)
theorem al17_fun (S : FdR) (F : List AVal → SS × Int × Int) (k : Out → Ans) : iFun Tryd.prog ((layAl17 S F).hd Tryd.prog) (layAl17 S F).fhs 0 5 [] [] k = (
 let n0 : Int :=
  (S
  (cellsG
  (AVal.agg
  [AVal.int IntKind.i64 0, AVal.str [], AVal.str [], AVal.int IntKind.u8 0, AVal.str [], AVal.str [],
  AVal.int IntKind.i64 0, AVal.str []]))
  [60, 97, 32, 104, 114, 101, 102, 61, 34]).fst.k;
  bif
  tst
  ((isS
  (cellsG
  (AVal.agg
  [AVal.int IntKind.i64 0, AVal.str [], AVal.str [], AVal.int IntKind.u8 0, AVal.str [], AVal.str [],
  AVal.int IntKind.i64 0, AVal.str []])) ∧
  9 ≤ 1099511627776) ∧
  SubL
  [AVal.agg
  [AVal.int IntKind.i64 0, AVal.str [], AVal.str [], AVal.int IntKind.u8 0, AVal.str [], AVal.str [],
  AVal.int IntKind.i64 0, AVal.str []],
  AVal.str [60, 97, 32, 104, 114, 101, 102, 61, 34]]
  [AVal.agg
  (cellsG
  (AVal.agg
  [AVal.int IntKind.i64 0, AVal.str [], AVal.str [], AVal.int IntKind.u8 0, AVal.str [], AVal.str [],
  AVal.int IntKind.i64 0, AVal.str []])),
  AVal.str [60, 97, 32, 104, 114, 101, 102, 61, 34]] ∧
  ([] : Heap) = []) then
  bif
  tst
  (isS
  (cellsG
  (AVal.agg
  [AVal.int IntKind.i64 n0,
  AVal.str
  (S
  (cellsG
  (AVal.agg
  [AVal.int IntKind.i64 0, AVal.str [], AVal.str [], AVal.int IntKind.u8 0, AVal.str [],
  AVal.str [], AVal.int IntKind.i64 0, AVal.str []]))
  [60, 97, 32, 104, 114, 101, 102, 61, 34]).fst.el,
  AVal.str
  (S
  (cellsG
  (AVal.agg
  [AVal.int IntKind.i64 0, AVal.str [], AVal.str [], AVal.int IntKind.u8 0, AVal.str [],
  AVal.str [], AVal.int IntKind.i64 0, AVal.str []]))
  [60, 97, 32, 104, 114, 101, 102, 61, 34]).fst.ar,
  AVal.int IntKind.u8
  (↑(S
  (cellsG
  (AVal.agg
  [AVal.int IntKind.i64 0, AVal.str [], AVal.str [], AVal.int IntKind.u8 0,
  AVal.str [], AVal.str [], AVal.int IntKind.i64 0, AVal.str []]))
  [60, 97, 32, 104, 114, 101, 102, 61, 34]).fst.dl.toNat :
  Int),
  AVal.str
  (S
  (cellsG
  (AVal.agg
  [AVal.int IntKind.i64 0, AVal.str [], AVal.str [], AVal.int IntKind.u8 0, AVal.str [],
  AVal.str [], AVal.int IntKind.i64 0, AVal.str []]))
  [60, 97, 32, 104, 114, 101, 102, 61, 34]).fst.pe,
  AVal.str
  (S
  (cellsG
  (AVal.agg
  [AVal.int IntKind.i64 0, AVal.str [], AVal.str [], AVal.int IntKind.u8 0, AVal.str [],
  AVal.str [], AVal.int IntKind.i64 0, AVal.str []]))
  [60, 97, 32, 104, 114, 101, 102, 61, 34]).fst.rf,
  AVal.int IntKind.i64
  (S
  (cellsG
  (AVal.agg
  [AVal.int IntKind.i64 0, AVal.str [], AVal.str [], AVal.int IntKind.u8 0, AVal.str [],
  AVal.str [], AVal.int IntKind.i64 0, AVal.str []]))
  [60, 97, 32, 104, 114, 101, 102, 61, 34]).fst.pt,
  AVal.str
  (S
  (cellsG
  (AVal.agg
  [AVal.int IntKind.i64 0, AVal.str [], AVal.str [], AVal.int IntKind.u8 0, AVal.str [],
  AVal.str [], AVal.int IntKind.i64 0, AVal.str []]))
  [60, 97, 32, 104, 114, 101, 102, 61, 34]).fst.wd])) ∧
  SubL
  [AVal.agg
  [AVal.int IntKind.i64 n0,
  AVal.str
  (S
  (cellsG
  (AVal.agg
  [AVal.int IntKind.i64 0, AVal.str [], AVal.str [], AVal.int IntKind.u8 0, AVal.str [],
  AVal.str [], AVal.int IntKind.i64 0, AVal.str []]))
  [60, 97, 32, 104, 114, 101, 102, 61, 34]).fst.el,
  AVal.str
  (S
  (cellsG
  (AVal.agg
  [AVal.int IntKind.i64 0, AVal.str [], AVal.str [], AVal.int IntKind.u8 0, AVal.str [],
  AVal.str [], AVal.int IntKind.i64 0, AVal.str []]))
  [60, 97, 32, 104, 114, 101, 102, 61, 34]).fst.ar,
  AVal.int IntKind.u8
  (↑(S
  (cellsG
  (AVal.agg
  [AVal.int IntKind.i64 0, AVal.str [], AVal.str [], AVal.int IntKind.u8 0,
  AVal.str [], AVal.str [], AVal.int IntKind.i64 0, AVal.str []]))
  [60, 97, 32, 104, 114, 101, 102, 61, 34]).fst.dl.toNat :
  Int),
  AVal.str
  (S
  (cellsG
  (AVal.agg
  [AVal.int IntKind.i64 0, AVal.str [], AVal.str [], AVal.int IntKind.u8 0, AVal.str [],
  AVal.str [], AVal.int IntKind.i64 0, AVal.str []]))
  [60, 97, 32, 104, 114, 101, 102, 61, 34]).fst.pe,
  AVal.str
  (S
  (cellsG
  (AVal.agg
  [AVal.int IntKind.i64 0, AVal.str [], AVal.str [], AVal.int IntKind.u8 0, AVal.str [],
  AVal.str [], AVal.int IntKind.i64 0, AVal.str []]))
  [60, 97, 32, 104, 114, 101, 102, 61, 34]).fst.rf,
  AVal.int IntKind.i64
  (S
  (cellsG
  (AVal.agg
  [AVal.int IntKind.i64 0, AVal.str [], AVal.str [], AVal.int IntKind.u8 0, AVal.str [],
  AVal.str [], AVal.int IntKind.i64 0, AVal.str []]))
  [60, 97, 32, 104, 114, 101, 102, 61, 34]).fst.pt,
  AVal.str
  (S
  (cellsG
  (AVal.agg
  [AVal.int IntKind.i64 0, AVal.str [], AVal.str [], AVal.int IntKind.u8 0, AVal.str [],
  AVal.str [], AVal.int IntKind.i64 0, AVal.str []]))
  [60, 97, 32, 104, 114, 101, 102, 61, 34]).fst.wd]]
  [AVal.agg
  (cellsG
  (AVal.agg
  [AVal.int IntKind.i64 n0,
  AVal.str
  (S
  (cellsG
  (AVal.agg
  [AVal.int IntKind.i64 0, AVal.str [], AVal.str [], AVal.int IntKind.u8 0,
  AVal.str [], AVal.str [], AVal.int IntKind.i64 0, AVal.str []]))
  [60, 97, 32, 104, 114, 101, 102, 61, 34]).fst.el,
  AVal.str
  (S
  (cellsG
  (AVal.agg
  [AVal.int IntKind.i64 0, AVal.str [], AVal.str [], AVal.int IntKind.u8 0,
  AVal.str [], AVal.str [], AVal.int IntKind.i64 0, AVal.str []]))
  [60, 97, 32, 104, 114, 101, 102, 61, 34]).fst.ar,
  AVal.int IntKind.u8
  (↑(S
  (cellsG
  (AVal.agg
  [AVal.int IntKind.i64 0, AVal.str [], AVal.str [], AVal.int IntKind.u8 0,
  AVal.str [], AVal.str [], AVal.int IntKind.i64 0, AVal.str []]))
  [60, 97, 32, 104, 114, 101, 102, 61, 34]).fst.dl.toNat :
  Int),
  AVal.str
  (S
  (cellsG
  (AVal.agg
  [AVal.int IntKind.i64 0, AVal.str [], AVal.str [], AVal.int IntKind.u8 0,
  AVal.str [], AVal.str [], AVal.int IntKind.i64 0, AVal.str []]))
  [60, 97, 32, 104, 114, 101, 102, 61, 34]).fst.pe,
  AVal.str
  (S
  (cellsG
  (AVal.agg
  [AVal.int IntKind.i64 0, AVal.str [], AVal.str [], AVal.int IntKind.u8 0,
  AVal.str [], AVal.str [], AVal.int IntKind.i64 0, AVal.str []]))
  [60, 97, 32, 104, 114, 101, 102, 61, 34]).fst.rf,
  AVal.int IntKind.i64
  (S
  (cellsG
  (AVal.agg
  [AVal.int IntKind.i64 0, AVal.str [], AVal.str [], AVal.int IntKind.u8 0,
  AVal.str [], AVal.str [], AVal.int IntKind.i64 0, AVal.str []]))
  [60, 97, 32, 104, 114, 101, 102, 61, 34]).fst.pt,
  AVal.str
  (S
  (cellsG
  (AVal.agg
  [AVal.int IntKind.i64 0, AVal.str [], AVal.str [], AVal.int IntKind.u8 0,
  AVal.str [], AVal.str [], AVal.int IntKind.i64 0, AVal.str []]))
  [60, 97, 32, 104, 114, 101, 102, 61, 34]).fst.wd]))] ∧
  ([] : Heap) = []) then
  k
  (Out.ret
  (AVal.bool
  (bif
  bif
  bif
  IntKind.i64.wrap
  ((S
  (cellsG
  (AVal.agg
  [AVal.int IntKind.i64 0, AVal.str [], AVal.str [], AVal.int IntKind.u8 0,
  AVal.str [], AVal.str [], AVal.int IntKind.i64 0, AVal.str []]))
  [60, 97, 32, 104, 114, 101, 102, 61, 34]).snd.snd +
  (F
  (cellsG
  (AVal.agg
  [AVal.int IntKind.i64 n0,
  AVal.str
  (S
  (cellsG
  (AVal.agg
  [AVal.int IntKind.i64 0, AVal.str [], AVal.str [],
  AVal.int IntKind.u8 0, AVal.str [], AVal.str [],
  AVal.int IntKind.i64 0, AVal.str []]))
  [60, 97, 32, 104, 114, 101, 102, 61, 34]).fst.el,
  AVal.str
  (S
  (cellsG
  (AVal.agg
  [AVal.int IntKind.i64 0, AVal.str [], AVal.str [],
  AVal.int IntKind.u8 0, AVal.str [], AVal.str [],
  AVal.int IntKind.i64 0, AVal.str []]))
  [60, 97, 32, 104, 114, 101, 102, 61, 34]).fst.ar,
  AVal.int IntKind.u8
  (↑(S
  (cellsG
  (AVal.agg
  [AVal.int IntKind.i64 0, AVal.str [], AVal.str [],
  AVal.int IntKind.u8 0, AVal.str [], AVal.str [],
  AVal.int IntKind.i64 0, AVal.str []]))
  [60, 97, 32, 104, 114, 101, 102, 61, 34]).fst.dl.toNat :
  Int),
  AVal.str
  (S
  (cellsG
  (AVal.agg
  [AVal.int IntKind.i64 0, AVal.str [], AVal.str [],
  AVal.int IntKind.u8 0, AVal.str [], AVal.str [],
  AVal.int IntKind.i64 0, AVal.str []]))
  [60, 97, 32, 104, 114, 101, 102, 61, 34]).fst.pe,
  AVal.str
  (S
  (cellsG
  (AVal.agg
  [AVal.int IntKind.i64 0, AVal.str [], AVal.str [],
  AVal.int IntKind.u8 0, AVal.str [], AVal.str [],
  AVal.int IntKind.i64 0, AVal.str []]))
  [60, 97, 32, 104, 114, 101, 102, 61, 34]).fst.rf,
  AVal.int IntKind.i64
  (S
  (cellsG
  (AVal.agg
  [AVal.int IntKind.i64 0, AVal.str [], AVal.str [],
  AVal.int IntKind.u8 0, AVal.str [], AVal.str [],
  AVal.int IntKind.i64 0, AVal.str []]))
  [60, 97, 32, 104, 114, 101, 102, 61, 34]).fst.pt,
  AVal.str
  (S
  (cellsG
  (AVal.agg
  [AVal.int IntKind.i64 0, AVal.str [], AVal.str [],
  AVal.int IntKind.u8 0, AVal.str [], AVal.str [],
  AVal.int IntKind.i64 0, AVal.str []]))
  [60, 97, 32, 104, 114, 101, 102, 61, 34]).fst.wd]))).snd.snd) ==
  0 then
  (↑(S
  (cellsG
  (AVal.agg
  [AVal.int IntKind.i64 0, AVal.str [], AVal.str [], AVal.int IntKind.u8 0,
  AVal.str [], AVal.str [], AVal.int IntKind.i64 0, AVal.str []]))
  [60, 97, 32, 104, 114, 101, 102, 61, 34]).snd.fst :
  Int) ==
  9
  else false then
  (F
  (cellsG
  (AVal.agg
  [AVal.int IntKind.i64 n0,
  AVal.str
  (S
  (cellsG
  (AVal.agg
  [AVal.int IntKind.i64 0, AVal.str [], AVal.str [], AVal.int IntKind.u8 0,
  AVal.str [], AVal.str [], AVal.int IntKind.i64 0, AVal.str []]))
  [60, 97, 32, 104, 114, 101, 102, 61, 34]).fst.el,
  AVal.str
  (S
  (cellsG
  (AVal.agg
  [AVal.int IntKind.i64 0, AVal.str [], AVal.str [], AVal.int IntKind.u8 0,
  AVal.str [], AVal.str [], AVal.int IntKind.i64 0, AVal.str []]))
  [60, 97, 32, 104, 114, 101, 102, 61, 34]).fst.ar,
  AVal.int IntKind.u8
  (↑(S
  (cellsG
  (AVal.agg
  [AVal.int IntKind.i64 0, AVal.str [], AVal.str [],
  AVal.int IntKind.u8 0, AVal.str [], AVal.str [],
  AVal.int IntKind.i64 0, AVal.str []]))
  [60, 97, 32, 104, 114, 101, 102, 61, 34]).fst.dl.toNat :
  Int),
  AVal.str
  (S
  (cellsG
  (AVal.agg
  [AVal.int IntKind.i64 0, AVal.str [], AVal.str [], AVal.int IntKind.u8 0,
  AVal.str [], AVal.str [], AVal.int IntKind.i64 0, AVal.str []]))
  [60, 97, 32, 104, 114, 101, 102, 61, 34]).fst.pe,
  AVal.str
  (S
  (cellsG
  (AVal.agg
  [AVal.int IntKind.i64 0, AVal.str [], AVal.str [], AVal.int IntKind.u8 0,
  AVal.str [], AVal.str [], AVal.int IntKind.i64 0, AVal.str []]))
  [60, 97, 32, 104, 114, 101, 102, 61, 34]).fst.rf,
  AVal.int IntKind.i64
  (S
  (cellsG
  (AVal.agg
  [AVal.int IntKind.i64 0, AVal.str [], AVal.str [], AVal.int IntKind.u8 0,
  AVal.str [], AVal.str [], AVal.int IntKind.i64 0, AVal.str []]))
  [60, 97, 32, 104, 114, 101, 102, 61, 34]).fst.pt,
  AVal.str
  (S
  (cellsG
  (AVal.agg
  [AVal.int IntKind.i64 0, AVal.str [], AVal.str [], AVal.int IntKind.u8 0,
  AVal.str [], AVal.str [], AVal.int IntKind.i64 0, AVal.str []]))
  [60, 97, 32, 104, 114, 101, 102, 61, 34]).fst.wd]))).snd.fst ==
  4
  else false then
  n0 == 9
  else false))
  [])
  else none
  else none) := by kernel_rfl
end Go.Mu
set_option linter.unusedVariables false
set_option linter.unusedSimpArgs false
set_option maxRecDepth 100000
namespace Go.Mu
open Go Go.Proofs
def alive17Told : FSp := mkFS [] (fun _ => true) (fun _ k => k (.ret (.bool true) []))
noncomputable def layL17 (S : FdR) : Lay := (Lay.nil.addF 6 (sfTold S)).addF 5 alive17Told
theorem ends17_fun (S : FdR) (a : Bs) (k : Out → Ans) : iFun Tryd.prog ((layL17 S).hd Tryd.prog) (layL17 S).fhs 0 4 [.str a] [] k = (
 let n0 : Int :=
  (S
  (cellsG
  (AVal.agg
  [AVal.int IntKind.i64 0, AVal.str [], AVal.str [], AVal.int IntKind.u8 0, AVal.str [], AVal.str [],
  AVal.int IntKind.i64 0, AVal.str []]))
  a).fst.k;
  bif
  tst
  ((isS
  (cellsG
  (AVal.agg
  [AVal.int IntKind.i64 0, AVal.str [], AVal.str [], AVal.int IntKind.u8 0, AVal.str [], AVal.str [],
  AVal.int IntKind.i64 0, AVal.str []])) ∧
  List.length a ≤ 1099511627776) ∧
  SubL
  [AVal.agg
  [AVal.int IntKind.i64 0, AVal.str [], AVal.str [], AVal.int IntKind.u8 0, AVal.str [], AVal.str [],
  AVal.int IntKind.i64 0, AVal.str []],
  AVal.str a]
  [AVal.agg
  (cellsG
  (AVal.agg
  [AVal.int IntKind.i64 0, AVal.str [], AVal.str [], AVal.int IntKind.u8 0, AVal.str [], AVal.str [],
  AVal.int IntKind.i64 0, AVal.str []])),
  AVal.str a] ∧
  ([] : Heap) = []) then
  bif
  bif
  (S
  (cellsG
  (AVal.agg
  [AVal.int IntKind.i64 0, AVal.str [], AVal.str [], AVal.int IntKind.u8 0, AVal.str [],
  AVal.str [], AVal.int IntKind.i64 0, AVal.str []]))
  a).snd.snd !=
  0 then
  true
  else n0 != 0 then
  k (Out.ret (AVal.bool true) [])
  else
  bif
  tst
  ((isS
  (cellsG
  (AVal.agg
  [AVal.int IntKind.i64 n0,
  AVal.str
  (S
  (cellsG
  (AVal.agg
  [AVal.int IntKind.i64 0, AVal.str [], AVal.str [], AVal.int IntKind.u8 0, AVal.str [],
  AVal.str [], AVal.int IntKind.i64 0, AVal.str []]))
  a).fst.el,
  AVal.str
  (S
  (cellsG
  (AVal.agg
  [AVal.int IntKind.i64 0, AVal.str [], AVal.str [], AVal.int IntKind.u8 0, AVal.str [],
  AVal.str [], AVal.int IntKind.i64 0, AVal.str []]))
  a).fst.ar,
  AVal.int IntKind.u8
  (↑(S
  (cellsG
  (AVal.agg
  [AVal.int IntKind.i64 0, AVal.str [], AVal.str [], AVal.int IntKind.u8 0,
  AVal.str [], AVal.str [], AVal.int IntKind.i64 0, AVal.str []]))
  a).fst.dl.toNat :
  Int),
  AVal.str
  (S
  (cellsG
  (AVal.agg
  [AVal.int IntKind.i64 0, AVal.str [], AVal.str [], AVal.int IntKind.u8 0, AVal.str [],
  AVal.str [], AVal.int IntKind.i64 0, AVal.str []]))
  a).fst.pe,
  AVal.str
  (S
  (cellsG
  (AVal.agg
  [AVal.int IntKind.i64 0, AVal.str [], AVal.str [], AVal.int IntKind.u8 0, AVal.str [],
  AVal.str [], AVal.int IntKind.i64 0, AVal.str []]))
  a).fst.rf,
  AVal.int IntKind.i64
  (S
  (cellsG
  (AVal.agg
  [AVal.int IntKind.i64 0, AVal.str [], AVal.str [], AVal.int IntKind.u8 0, AVal.str [],
  AVal.str [], AVal.int IntKind.i64 0, AVal.str []]))
  a).fst.pt,
  AVal.str
  (S
  (cellsG
  (AVal.agg
  [AVal.int IntKind.i64 0, AVal.str [], AVal.str [], AVal.int IntKind.u8 0, AVal.str [],
  AVal.str [], AVal.int IntKind.i64 0, AVal.str []]))
  a).fst.wd])) ∧
  1 ≤ 1099511627776) ∧
  SubL
  [AVal.agg
  [AVal.int IntKind.i64 n0,
  AVal.str
  (S
  (cellsG
  (AVal.agg
  [AVal.int IntKind.i64 0, AVal.str [], AVal.str [], AVal.int IntKind.u8 0, AVal.str [],
  AVal.str [], AVal.int IntKind.i64 0, AVal.str []]))
  a).fst.el,
  AVal.str
  (S
  (cellsG
  (AVal.agg
  [AVal.int IntKind.i64 0, AVal.str [], AVal.str [], AVal.int IntKind.u8 0, AVal.str [],
  AVal.str [], AVal.int IntKind.i64 0, AVal.str []]))
  a).fst.ar,
  AVal.int IntKind.u8
  (↑(S
  (cellsG
  (AVal.agg
  [AVal.int IntKind.i64 0, AVal.str [], AVal.str [], AVal.int IntKind.u8 0,
  AVal.str [], AVal.str [], AVal.int IntKind.i64 0, AVal.str []]))
  a).fst.dl.toNat :
  Int),
  AVal.str
  (S
  (cellsG
  (AVal.agg
  [AVal.int IntKind.i64 0, AVal.str [], AVal.str [], AVal.int IntKind.u8 0, AVal.str [],
  AVal.str [], AVal.int IntKind.i64 0, AVal.str []]))
  a).fst.pe,
  AVal.str
  (S
  (cellsG
  (AVal.agg
  [AVal.int IntKind.i64 0, AVal.str [], AVal.str [], AVal.int IntKind.u8 0, AVal.str [],
  AVal.str [], AVal.int IntKind.i64 0, AVal.str []]))
  a).fst.rf,
  AVal.int IntKind.i64
  (S
  (cellsG
  (AVal.agg
  [AVal.int IntKind.i64 0, AVal.str [], AVal.str [], AVal.int IntKind.u8 0, AVal.str [],
  AVal.str [], AVal.int IntKind.i64 0, AVal.str []]))
  a).fst.pt,
  AVal.str
  (S
  (cellsG
  (AVal.agg
  [AVal.int IntKind.i64 0, AVal.str [], AVal.str [], AVal.int IntKind.u8 0, AVal.str [],
  AVal.str [], AVal.int IntKind.i64 0, AVal.str []]))
  a).fst.wd],
  AVal.str [62]]
  [AVal.agg
  (cellsG
  (AVal.agg
  [AVal.int IntKind.i64 n0,
  AVal.str
  (S
  (cellsG
  (AVal.agg
  [AVal.int IntKind.i64 0, AVal.str [], AVal.str [], AVal.int IntKind.u8 0,
  AVal.str [], AVal.str [], AVal.int IntKind.i64 0, AVal.str []]))
  a).fst.el,
  AVal.str
  (S
  (cellsG
  (AVal.agg
  [AVal.int IntKind.i64 0, AVal.str [], AVal.str [], AVal.int IntKind.u8 0,
  AVal.str [], AVal.str [], AVal.int IntKind.i64 0, AVal.str []]))
  a).fst.ar,
  AVal.int IntKind.u8
  (↑(S
  (cellsG
  (AVal.agg
  [AVal.int IntKind.i64 0, AVal.str [], AVal.str [], AVal.int IntKind.u8 0,
  AVal.str [], AVal.str [], AVal.int IntKind.i64 0, AVal.str []]))
  a).fst.dl.toNat :
  Int),
  AVal.str
  (S
  (cellsG
  (AVal.agg
  [AVal.int IntKind.i64 0, AVal.str [], AVal.str [], AVal.int IntKind.u8 0,
  AVal.str [], AVal.str [], AVal.int IntKind.i64 0, AVal.str []]))
  a).fst.pe,
  AVal.str
  (S
  (cellsG
  (AVal.agg
  [AVal.int IntKind.i64 0, AVal.str [], AVal.str [], AVal.int IntKind.u8 0,
  AVal.str [], AVal.str [], AVal.int IntKind.i64 0, AVal.str []]))
  a).fst.rf,
  AVal.int IntKind.i64
  (S
  (cellsG
  (AVal.agg
  [AVal.int IntKind.i64 0, AVal.str [], AVal.str [], AVal.int IntKind.u8 0,
  AVal.str [], AVal.str [], AVal.int IntKind.i64 0, AVal.str []]))
  a).fst.pt,
  AVal.str
  (S
  (cellsG
  (AVal.agg
  [AVal.int IntKind.i64 0, AVal.str [], AVal.str [], AVal.int IntKind.u8 0,
  AVal.str [], AVal.str [], AVal.int IntKind.i64 0, AVal.str []]))
  a).fst.wd])),
  AVal.str [62]] ∧
  ([] : Heap) = []) then
  k
  (Out.ret
  (AVal.bool
  (bif
  (S
  (cellsG
  (AVal.agg
  [AVal.int IntKind.i64 n0,
  AVal.str
  (S
  (cellsG
  (AVal.agg
  [AVal.int IntKind.i64 0, AVal.str [], AVal.str [], AVal.int IntKind.u8 0,
  AVal.str [], AVal.str [], AVal.int IntKind.i64 0, AVal.str []]))
  a).fst.el,
  AVal.str
  (S
  (cellsG
  (AVal.agg
  [AVal.int IntKind.i64 0, AVal.str [], AVal.str [], AVal.int IntKind.u8 0,
  AVal.str [], AVal.str [], AVal.int IntKind.i64 0, AVal.str []]))
  a).fst.ar,
  AVal.int IntKind.u8
  (↑(S
  (cellsG
  (AVal.agg
  [AVal.int IntKind.i64 0, AVal.str [], AVal.str [],
  AVal.int IntKind.u8 0, AVal.str [], AVal.str [],
  AVal.int IntKind.i64 0, AVal.str []]))
  a).fst.dl.toNat :
  Int),
  AVal.str
  (S
  (cellsG
  (AVal.agg
  [AVal.int IntKind.i64 0, AVal.str [], AVal.str [], AVal.int IntKind.u8 0,
  AVal.str [], AVal.str [], AVal.int IntKind.i64 0, AVal.str []]))
  a).fst.pe,
  AVal.str
  (S
  (cellsG
  (AVal.agg
  [AVal.int IntKind.i64 0, AVal.str [], AVal.str [], AVal.int IntKind.u8 0,
  AVal.str [], AVal.str [], AVal.int IntKind.i64 0, AVal.str []]))
  a).fst.rf,
  AVal.int IntKind.i64
  (S
  (cellsG
  (AVal.agg
  [AVal.int IntKind.i64 0, AVal.str [], AVal.str [], AVal.int IntKind.u8 0,
  AVal.str [], AVal.str [], AVal.int IntKind.i64 0, AVal.str []]))
  a).fst.pt,
  AVal.str
  (S
  (cellsG
  (AVal.agg
  [AVal.int IntKind.i64 0, AVal.str [], AVal.str [], AVal.int IntKind.u8 0,
  AVal.str [], AVal.str [], AVal.int IntKind.i64 0, AVal.str []]))
  a).fst.wd]))
  [62]).snd.snd ==
  0 then
  (S
  (cellsG
  (AVal.agg
  [AVal.int IntKind.i64 n0,
  AVal.str
  (S
  (cellsG
  (AVal.agg
  [AVal.int IntKind.i64 0, AVal.str [], AVal.str [], AVal.int IntKind.u8 0,
  AVal.str [], AVal.str [], AVal.int IntKind.i64 0, AVal.str []]))
  a).fst.el,
  AVal.str
  (S
  (cellsG
  (AVal.agg
  [AVal.int IntKind.i64 0, AVal.str [], AVal.str [], AVal.int IntKind.u8 0,
  AVal.str [], AVal.str [], AVal.int IntKind.i64 0, AVal.str []]))
  a).fst.ar,
  AVal.int IntKind.u8
  (↑(S
  (cellsG
  (AVal.agg
  [AVal.int IntKind.i64 0, AVal.str [], AVal.str [], AVal.int IntKind.u8 0,
  AVal.str [], AVal.str [], AVal.int IntKind.i64 0, AVal.str []]))
  a).fst.dl.toNat :
  Int),
  AVal.str
  (S
  (cellsG
  (AVal.agg
  [AVal.int IntKind.i64 0, AVal.str [], AVal.str [], AVal.int IntKind.u8 0,
  AVal.str [], AVal.str [], AVal.int IntKind.i64 0, AVal.str []]))
  a).fst.pe,
  AVal.str
  (S
  (cellsG
  (AVal.agg
  [AVal.int IntKind.i64 0, AVal.str [], AVal.str [], AVal.int IntKind.u8 0,
  AVal.str [], AVal.str [], AVal.int IntKind.i64 0, AVal.str []]))
  a).fst.rf,
  AVal.int IntKind.i64
  (S
  (cellsG
  (AVal.agg
  [AVal.int IntKind.i64 0, AVal.str [], AVal.str [], AVal.int IntKind.u8 0,
  AVal.str [], AVal.str [], AVal.int IntKind.i64 0, AVal.str []]))
  a).fst.pt,
  AVal.str
  (S
  (cellsG
  (AVal.agg
  [AVal.int IntKind.i64 0, AVal.str [], AVal.str [], AVal.int IntKind.u8 0,
  AVal.str [], AVal.str [], AVal.int IntKind.i64 0, AVal.str []]))
  a).fst.wd]))
  [62]).fst.k ==
  0
  else false))
  [])
  else none
  else none) := by kernel_rfl
end Go.Mu
set_option linter.unusedVariables false
set_option linter.unusedSimpArgs false
set_option maxRecDepth 100000
namespace Go.Mu
open Go Go.Proofs
theorem hpB_len {x a : Bs} (h : hpB x a = true) : x.length ≤ a.length := by
  unfold hpB at h
  cases hd : decide ((a.length : Int) ≥ (x.length : Int)) with
  | false => rw [hd] at h; cases h
  | true => have := of_decide_eq_true hd; omega
theorem unfM_len (t : Bs) (h : unfM t = true) : t.length ≤ 16 := by
  unfold unfM at h
  cases h38 : hpB [38] t with
  | false => rw [h38] at h; cases h
  | true =>
    rw [h38] at h
    simp only [Bool.not_true, cond_false] at h
    cases hn : unfNames.any (fun w => hpB (t.drop 1) w) with
    | true =>
      obtain ⟨w, hw, hh⟩ := List.any_eq_true.1 hn
      have h1 := hpB_len hh
      rw [List.length_drop] at h1
      have h2 : w.length ≤ 4 := by
        unfold unfNames at hw
        simp only [List.mem_cons, List.not_mem_nil, or_false] at hw
        rcases hw with rfl | rfl | rfl | rfl | rfl <;> decide
      omega
    | false =>
      rw [hn] at h
      simp only [cond_false] at h
      cases hp : (prtM (t.drop 1)).2.2 with
      | false => rw [hp] at h; cases h
      | true =>
        rw [hp] at h
        have h7 : (prtM (t.drop 1)).1.length ≤ 7 := by
          have h : numB (prtM (t.drop 1)).1 (prtM (t.drop 1)).2.1 = true := h
          unfold numB at h
          simp only [Bool.and_eq_true, decide_eq_true_eq] at h
          exact h.2
        have h9 : t.length - 3 ≤ (prtM (t.drop 1)).1.length := by
          unfold prtM
          cases hpB [35] (t.drop 1) with
          | false => show t.length - 3 ≤ (t.drop 1).length; rw [List.length_drop]; omega
          | true =>
            show t.length - 3 ≤ (bif _ then (((t.drop 1).drop 1).drop 1, true, true) else ((t.drop 1).drop 1, false, true) : Bs × Bool × Bool).1.length
            cases (bif !(t.drop 1).drop 1 == [] then orx (((t.drop 1).drop 1).getD 0 0) else false) <;> simp only [cond_true, cond_false, List.length_drop] <;> omega
        omega
noncomputable abbrev scanA (a : Bs) : SS × Nat × Int := scanFeed oneP unfM ss0 a
theorem scanA_inv (a : Bs) : SInv (scanA a).1 := scanFeed_inv unfM_len ss0_inv a
section
variable (hal : ∀ xs H k out, alive17Told xs H k = some out → ∃ o, CallOK Tryd.prog 5 xs H o ∧ k o = some out)
include hal
theorem layL17_ok : (layL17 scanR).OK Tryd.prog := (Lay.nil_ok.addF sfTold_ok).addF hal
theorem ends_law (a : Bs) (hs : a.length ≤ 1048576) : CallOK Tryd.prog 4 [.str a] [] (.ret (.bool true) []) := (layL17_ok hal).callF (G := []) rfl (fun k => by
  have key := ends17_fun scanR a k
  simp only [c0v, cGv, ef0, ef, ssEta, ss0v, scanR_enc, tstS, cond_true] at key
  refine key.trans ?_
  clear key
  refine (congrArg (fun c => cond c _ none) (tst_true ⟨⟨isS_enc ss0, by omega⟩, .refl _, trivial⟩)).trans ((cond_true _ _).trans ?_)
  have hi := scanA_inv a
  have eA : scanFeed oneP unfM ss0 a = scanA a := rfl
  rw [eA]
  cases hb : (bif (scanA a).2.2 != 0 then true else (scanA a).1.k != 0) with
  | true => rfl
  | false =>
    have hk : (scanA a).1.k = 0 := by
      rw [bif_or] at hb
      simp only [Bool.or_eq_false_iff, bne_eq_false_iff_eq] at hb
      exact hb.2
    obtain ⟨g1, g2⟩ := scan_ends (O := oneP) (U := unfM) hi hk
    refine (cond_false _ _).trans ((congrArg (fun c => cond c _ none) (tst_true ⟨⟨isS_enc _, by omega⟩, .refl _, trivial⟩)).trans ((cond_true _ _).trans ?_))
    rw [g1, g2]
    rfl)
end
end Go.Mu
set_option linter.unusedVariables false
set_option linter.unusedSimpArgs false
set_option maxRecDepth 100000
namespace Go.Mu
open Go Go.Proofs
theorem layIa_ok : (layIa kindR).OK Tryd.prog := Lay.nil_ok.addF kindTold_ok
theorem ina_ok (s : SS) : CallOK Tryd.prog 12 [.agg (encSS s)] [] (.ret (.tuple [.agg (encSS (inAttrM s).1), .int .i64 (inAttrM s).2]) []) := layIa_ok.callF (G := []) rfl (fun k => by
  have key := ina_fun kindR s k
  have g : (decide (1 ≤ (s.el.length : Int)) || !decide ((s.el.length : Int) ≥ 1)) = true := Bool.or_not_self _
  have eh : (bif decide ((s.el.length : Int) ≥ 1) then List.drop (Int.toNat 0) (List.take (Int.toNat 1) s.el) == [47] else false) = hpB [47] s.el := rfl
  simp only [c0v, cGv, ef0, ef, ssEta, ss0v, kindR_enc, tstS, cond_true, g, eh] at key
  refine key.trans ?_
  clear key g eh
  unfold inAttrM
  cases hpB [47] s.el with
  | true => rfl
  | false =>
    simp only [cond_false]
    generalize kindM s = q
    obtain ⟨sk, el, ar, dl, pe, rf, pt, wd⟩ := s
    by_cases q0 : q = 0
    · subst q0; rfl
    by_cases q1 : q = 1
    · subst q1
      by_cases p0 : pt = 0
      · subst p0; rfl
      by_cases p1 : pt = 1
      · subst p1; rfl
      by_cases p2 : pt = 2
      · subst p2; rfl
      by_cases p3 : pt = 3
      · subst p3; rfl
      unfold urlHole
      simp only [beq_f p0, beq_f p1, beq_f p2, beq_f p3, Bool.or_self, cond_false]
      rfl
    by_cases q2 : q = 2
    · subst q2
      by_cases p0 : pt = 0
      · subst p0; rfl
      by_cases p1 : pt = 1
      · subst p1; rfl
      by_cases p2 : pt = 2
      · subst p2; rfl
      by_cases p3 : pt = 3
      · subst p3; rfl
      unfold jsHole
      simp only [beq_f p0, beq_f p1, beq_f p2, beq_f p3, Bool.or_self, cond_false]
      rfl
    by_cases q3 : q = 3
    · subst q3
      by_cases p0 : pt = 0
      · subst p0; rfl
      by_cases p1 : pt = 1
      · subst p1; rfl
      by_cases p2 : pt = 2
      · subst p2; rfl
      by_cases p3 : pt = 3
      · subst p3; rfl
      simp only [beq_f p0, beq_f p1, beq_f p2, beq_f p3, Bool.or_self, cond_false]
      rfl
    simp only [beq_f q0, beq_f q1, beq_f q2, beq_f q3, cond_false])
noncomputable def inaR : HoF := fun x => inAttrM (decSS x)
theorem inaR_enc (s : SS) : inaR (encSS s) = inAttrM s := by unfold inaR; rw [decSS_enc]
theorem hoTold_ok {f : FuncId} {F : SS → SS × Int} (h : ∀ s, CallOK Tryd.prog f [.agg (encSS s)] [] (.ret (.tuple [.agg (encSS (F s).1), .int .i64 (F s).2]) [])) : ∀ xs H k out, hoTold (fun x => F (decSS x)) xs H k = some out → ∃ o, CallOK Tryd.prog f xs H o ∧ k o = some out := mkF_ok fun x hx => by
  have hx : isS x := hx
  obtain ⟨s, rfl⟩ := isS_get hx
  refine ⟨_, fun k => rfl, ?_⟩
  show CallOK _ _ _ _ (.ret (.tuple [.agg (encSS (F (decSS (encSS s))).1), .int .i64 (F (decSS (encSS s))).2]) [])
  rw [decSS_enc]
  exact h s
theorem inr_ok (s : SS) : CallOK Tryd.prog 13 [.agg (encSS s)] [] (.ret (.tuple [.agg (encSS (inRawM s).1), .int .i64 (inRawM s).2]) []) := Lay.nil_ok.callF (G := []) rfl (fun k => by
  have key := inr_fun s k
  simp only [c0v, cGv, ef0, ef, ssEta, ss0v, tstS, cond_true] at key
  refine key.trans ?_
  clear key
  unfold inRawM
  obtain ⟨sk, el, ar, dl, pe, rf, pt, wd⟩ := s
  by_cases h18 : sk = 18
  · subst h18
    show (bif pt == 0 then _ else _) = k (.ret (.tuple [.agg (encSS (bif pt == 0 then ((⟨18, el, ar, dl, pe, rf, 0, [63]⟩ : SS), (11 : Int)) else (⟨18, el, ar, dl, pe, rf, pt, []⟩, 0)).1), .int .i64 (bif pt == 0 then ((⟨18, el, ar, dl, pe, rf, 0, [63]⟩ : SS), (11 : Int)) else (⟨18, el, ar, dl, pe, rf, pt, []⟩, 0)).2]) [])
    cases pt == 0 <;> rfl
  · simp only [beq_f h18, cond_false]
    by_cases p0 : pt = 0
    · subst p0; rfl
    by_cases p1 : pt = 1
    · subst p1; rfl
    by_cases p2 : pt = 2
    · subst p2; rfl
    by_cases p3 : pt = 3
    · subst p3; rfl
    unfold jsHole
    simp only [beq_f p0, beq_f p1, beq_f p2, beq_f p3, Bool.or_self, cond_false]
    rfl)
noncomputable def inrR : HoF := fun x => inRawM (decSS x)
theorem inrR_enc (s : SS) : inrR (encSS s) = inRawM s := by unfold inrR; rw [decSS_enc]
theorem layHo_ok : (layHo markR inaR inrR).OK Tryd.prog := ((Lay.nil_ok.addF markTold_ok).addF (hoTold_ok ina_ok)).addF (hoTold_ok inr_ok)
theorem hole_ok (s : SS) : CallOK Tryd.prog 9 [.agg (encSS s)] [] (.ret (.tuple [.agg (encSS (holeM s).1), .int .i64 (holeM s).2.1, .int .i64 (holeM s).2.2]) []) := layHo_ok.callF (G := []) rfl (fun k => by
  have key := hole_fun markR inaR inrR s k
  simp only [c0v, cGv, ef0, ef, ssEta, ss0v, markR_enc, inaR_enc, inrR_enc, tstS, cond_true, bif_and] at key
  refine key.trans ?_
  clear key
  unfold holeM holeR
  cases markE s != 0 with
  | true => rfl
  | false =>
    cases s.pe == [] && s.rf == [] with
    | false => rfl
    | true =>
      simp only [cond_true, cond_false]
      generalize inAttrM s = q
      generalize inRawM s = r
      by_cases h0 : s.k = 0
      · rw [h0]; rfl
      by_cases h17 : s.k = 17
      · rw [h17]; rfl
      by_cases h9 : s.k = 9
      · rw [h9]
        show (bif q.2 == 0 then _ else _) = k (.ret (.tuple [.agg (encSS (bif q.2 == 0 then ((ss0, 0, 91) : SS × Int × Int) else (q.1, q.2, 0)).1), .int .i64 (bif q.2 == 0 then ((ss0, 0, 91) : SS × Int × Int) else (q.1, q.2, 0)).2.1, .int .i64 (bif q.2 == 0 then ((ss0, 0, 91) : SS × Int × Int) else (q.1, q.2, 0)).2.2]) [])
        cases q.2 == 0 <;> rfl
      by_cases h18 : s.k = 18
      · rw [h18]
        show (bif r.2 == 0 then _ else _) = k (.ret (.tuple [.agg (encSS (bif r.2 == 0 then ((ss0, 0, 91) : SS × Int × Int) else (r.1, r.2, 0)).1), .int .i64 (bif r.2 == 0 then ((ss0, 0, 91) : SS × Int × Int) else (r.1, r.2, 0)).2.1, .int .i64 (bif r.2 == 0 then ((ss0, 0, 91) : SS × Int × Int) else (r.1, r.2, 0)).2.2]) [])
        cases r.2 == 0 <;> rfl
      by_cases h19 : s.k = 19
      · rw [h19]
        show (bif r.2 == 0 then _ else _) = k (.ret (.tuple [.agg (encSS (bif r.2 == 0 then ((ss0, 0, 91) : SS × Int × Int) else (r.1, r.2, 0)).1), .int .i64 (bif r.2 == 0 then ((ss0, 0, 91) : SS × Int × Int) else (r.1, r.2, 0)).2.1, .int .i64 (bif r.2 == 0 then ((ss0, 0, 91) : SS × Int × Int) else (r.1, r.2, 0)).2.2]) [])
        cases r.2 == 0 <;> rfl
      simp only [beq_f h0, beq_f h17, beq_f h9, beq_f h18, beq_f h19, cond_false, Bool.or_self]
      rfl)
noncomputable def holeX : List AVal → SS × Int × Int := fun x => holeM (decSS x)
theorem holeX_enc (s : SS) : holeX (encSS s) = holeM s := by unfold holeX; rw [decSS_enc]
theorem hlTold_ok : ∀ xs H k out, hlTold holeX xs H k = some out → ∃ o, CallOK Tryd.prog 9 xs H o ∧ k o = some out := mkF_ok fun x hx => by
  have hx : isS x := hx
  obtain ⟨s, rfl⟩ := isS_get hx
  refine ⟨_, fun k => rfl, ?_⟩
  show CallOK _ _ _ _ (.ret (.tuple [.agg (encSS (holeX (encSS s)).1), .int .i64 (holeX (encSS s)).2.1, .int .i64 (holeX (encSS s)).2.2]) [])
  rw [holeX_enc]
  exact hole_ok s
/- alive -/
theorem feed17 : scanFeed oneP unfM ss0 [60, 97, 32, 104, 114, 101, 102, 61, 34] = (⟨9, [97], [104, 114, 101, 102], 34, [], [], 0, []⟩, 9, 0) := by kernel_rfl
theorem hole17 : holeM ⟨9, [97], [104, 114, 101, 102], 34, [], [], 0, []⟩ = (⟨9, [97], [104, 114, 101, 102], 34, [], [], 4, []⟩, 4, 0) := by kernel_rfl
theorem layAl17_ok : (layAl17 scanR holeX).OK Tryd.prog := (Lay.nil_ok.addF sfTold_ok).addF hlTold_ok
theorem alive17_ok : CallOK Tryd.prog 5 [] [] (.ret (.bool true) []) := layAl17_ok.callF (G := []) rfl (fun k => by
  have key := al17_fun scanR holeX k
  simp only [c0v, cGv, ef0, ef, ssEta, ss0v, scanR_enc, holeX_enc, tstS, cond_true] at key
  refine key.trans ?_
  clear key
  refine (congrArg (fun c => cond c _ none) (tst_true ⟨⟨isS_enc ss0, by omega⟩, .refl _, trivial⟩)).trans ((cond_true _ _).trans ?_)
  rw [feed17]
  show k (.ret (.bool (bif bif bif IntKind.i64.wrap ((0 : Int) + (holeM ⟨9, [97], [104, 114, 101, 102], 34, [], [], 0, []⟩).2.2) == 0 then _ else _ then (holeM ⟨9, [97], [104, 114, 101, 102], 34, [], [], 0, []⟩).2.1 == 4 else _ then _ else _)) []) = _
  rw [hole17]
  rfl)
theorem alive17Told_ok : ∀ xs H k out, alive17Told xs H k = some out → ∃ o, CallOK Tryd.prog 5 xs H o ∧ k o = some out := mkFS_ok fun ys xs e h => by
  obtain rfl : xs = [] := e
  exact ⟨_, fun k => rfl, alive17_ok⟩
theorem ends_true (a : Bs) (hs : a.length ≤ 1048576) : CallOK Tryd.prog 4 [.str a] [] (.ret (.bool true) []) := ends_law alive17Told_ok a hs
end Go.Mu
set_option linter.unusedVariables false
namespace Go.Mu
open Go
variable {H : Type}
mutual
theorem size_bulk : ∀ d : DataW H, (tOf d).size ≤ Go.Proofs.YtbibhpbmpnennaaDoor.Rows.uptoBulk d
  | .lit (.bool _) => by simp [tOf, T.size, Go.Proofs.YtbibhpbmpnennaaDoor.Rows.uptoBulk]
  | .lit (.int _ _) => by simp [tOf, T.size, Go.Proofs.YtbibhpbmpnennaaDoor.Rows.uptoBulk]
  | .lit (.string _) => by simp [tOf, T.size, Go.Proofs.YtbibhpbmpnennaaDoor.Rows.uptoBulk]
  | .lit (.float _ _) => by simp [tOf, T.size, T.sizes, Go.Proofs.YtbibhpbmpnennaaDoor.Rows.uptoBulk]
  | .lit .nil => by simp [tOf, T.size, T.sizes, Go.Proofs.YtbibhpbmpnennaaDoor.Rows.uptoBulk]
  | .nil => by simp [tOf, T.size, T.sizes, Go.Proofs.YtbibhpbmpnennaaDoor.Rows.uptoBulk]
  | .ptr d => by simp [tOf, T.size, T.sizes, Go.Proofs.YtbibhpbmpnennaaDoor.Rows.uptoBulk]
  | .slice es sp => by
    have := size_bulks es
    simp only [tOf, T.size, Go.Proofs.YtbibhpbmpnennaaDoor.Rows.uptoBulk]
    omega
  | .agg ps => by
    have := size_bulks ps
    simp only [tOf, T.size, Go.Proofs.YtbibhpbmpnennaaDoor.Rows.uptoBulk]
    omega
  | .iface _ d => by simp [tOf, T.size, T.sizes, Go.Proofs.YtbibhpbmpnennaaDoor.Rows.uptoBulk]
  | .map _ => by simp [tOf, T.size, T.sizes, Go.Proofs.YtbibhpbmpnennaaDoor.Rows.uptoBulk]
  | .held _ => by simp [tOf, T.size, T.sizes, Go.Proofs.YtbibhpbmpnennaaDoor.Rows.uptoBulk]
theorem size_bulks : ∀ ds : List (DataW H), T.sizes (tOfs ds) ≤ Go.Proofs.YtbibhpbmpnennaaDoor.Rows.uptoBulkAll ds
  | [] => by simp [tOfs, T.sizes, Go.Proofs.YtbibhpbmpnennaaDoor.Rows.uptoBulkAll]
  | d :: ds => by
    have := size_bulk d
    have := size_bulks ds
    simp only [tOfs, T.sizes, Go.Proofs.YtbibhpbmpnennaaDoor.Rows.uptoBulkAll]
    omega
end
theorem small_size {ds : List (DataW H)} (h : Go.Proofs.YtbibhpbmpnennaaDoor.Rows.uptoSmall H ds = true) : T.sizes (tOfs ds) ≤ 1048576 := by
  unfold Go.Proofs.YtbibhpbmpnennaaDoor.Rows.uptoSmall at h
  have := size_bulks ds
  have := of_decide_eq_true h
  omega
end Go.Mu
set_option linter.unusedVariables false
set_option linter.unusedSimpArgs false
set_option maxRecDepth 100000
namespace Go.Mu
open Go Go.Proofs
theorem tabIs_of_reads {P : Program} {W : World} {name : String} {k : IntKind} {zs : List Int} {g : Nat} {t e : TypeId} {n : Nat}
    (hg : P.globalNamed name = some g) (hty : (P.globals[g]?).map (·.type) = some t) (ht : P.underlying t = some (.array n e)) (he : P.underlying e = some (.int k)) (hce : P.cellsOf e = 1) (hct : P.cellsOf t = n)
    (h : Lib.VarReads P W name (Lib.tabData k zs)) : Lib.TabIs P W name k zs := by
  obtain ⟨g', t', cs, fuel, p, hg', ht', hvar, hd⟩ := h
  obtain rfl := Option.some.inj (hg.symm.trans hg')
  obtain rfl := Option.some.inj (hty.symm.trans ht')
  unfold Lib.TabIs
  rw [hvar, ← Lib.cells_of_tab ht he hce hct hd]
theorem asc_rep {W : World} {imm : Nat → Prop} (h : Lib.TabIs Tryd.prog W "strings.asciiSpace" .u8 Lib.asciiSpaceTab) (hi : imm 1) : RepP W imm (.rptr (Lib.asciiSpaceTab.map (AVal.int .u8))) (.pointer (some ⟨1, 0, none⟩)) := by
  refine .rptr _ _ 0 (fun j => .int .u8 (Lib.asciiSpaceTab.getD j 0)) hi (fun j hj => ?_) (fun j hj => ?_)
  · rw [List.length_map] at hj
    rw [Nat.zero_add]
    exact ⟨h.cell (by kernel_rfl) j hj, rfl⟩
  · rw [List.length_map] at hj
    rw [List.getD_eq_getElem?_getD, List.getElem?_map, List.getElem?_eq_getElem hj, List.getD_eq_getElem?_getD, List.getElem?_eq_getElem hj]
    exact .int _ _
theorem asc_reads {W : World} {laid : List (String × DataW Unit)} (hl : laidMet Tryd.prog laid W) (h3 : ("strings.asciiSpace", Lib.tabData .u8 Lib.asciiSpaceTab) ∈ laid) : Lib.TabIs Tryd.prog W "strings.asciiSpace" .u8 Lib.asciiSpaceTab :=
  tabIs_of_reads (g := 1) (by kernel_rfl) (by kernel_rfl) (t := 92) (e := 5) (n := 256) (by kernel_rfl) (by kernel_rfl) (by kernel_rfl) (by kernel_rfl) (Lib.laidMet.reads hl h3)
theorem asc_old {W : World} (h : Lib.TabIs Tryd.prog W "strings.asciiSpace" .u8 Lib.asciiSpaceTab) : oldB W 1 := by
  have h : W.cell? ⟨1, 0, none⟩ = some (.int .u8 (Lib.asciiSpaceTab.getD 0 0)) := h.cell (by kernel_rfl) 0 (by rw [Lib.asciiSpaceTab_length]; omega)
  show 1 < W.heap.size
  unfold World.cell? at h
  by_cases hlt : 1 < W.heap.size
  · exact hlt
  · have hle : W.heap.size ≤ (Addr.mk 1 0 none).block := by show W.heap.size ≤ 1; omega
    rw [Array.getElem?_eq_none hle] at h
    simp at h
theorem tabs_glob {W : World} {laid : List (String × DataW Unit)} (hl : laidMet Tryd.prog laid W) (h3 : ("strings.asciiSpace", Lib.tabData .u8 Lib.asciiSpaceTab) ∈ laid) : ∀ g cells, gvals g = some cells → RepP W (oldB W) (.rptr cells) (.pointer (some ⟨g, 0, none⟩)) := by
  intro g cells hg
  unfold gvals at hg
  split at hg
  · rename_i e
    have e : g = 1 := by simpa using e
    subst e
    simp only [Option.some.injEq] at hg
    subst hg
    exact asc_rep (asc_reads hl h3) (asc_old (asc_reads hl h3))
  · cases hg
end Go.Mu
