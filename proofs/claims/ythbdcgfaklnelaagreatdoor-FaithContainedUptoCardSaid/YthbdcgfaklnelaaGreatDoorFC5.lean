/-
  Lemmas on the given program (part 5).
-/
import Derived.Test.YthbdcgfaklnelaaGreatDoorFC4
set_option linter.unusedVariables false
set_option linter.unusedSimpArgs false
set_option maxRecDepth 100000
set_option maxHeartbeats 2000000
namespace Go.Mu
open Go Go.Proofs
theorem ib_lt : ∀ (l : Oc) (c : UInt8), Lib.indexByte l c < l.length
 | [], c => by show (-1 : Int) < 0; decide
 | b :: l, c => by
  have := ib_lt l c
  rw [Lib.indexByte, List.length_cons]
  split
  · omega
  · split <;> omega
def OL (s : Oc) (F : (Out → Ans) → Ans) : Prop := ∃ (t : Oc) (n : Nat), t.length ≤ 4 ∧ (n = 0 → t = []) ∧ n ≤ s.length ∧ ∀ k, F k = k (.ret (.tuple [.str t, .int .i64 (n : Nat)]) [])
theorem ol_bif {s : Oc} {b : Bool} {F G : (Out → Ans) → Ans} (h1 : OL s F) (h2 : OL s G) : OL s (fun k => bif b then F k else G k) := by
 cases b
 · exact h2
 · exact h1
theorem ol_0 (s : Oc) : OL s (fun k => k (.ret (.tuple [.str [], .int .i64 0]) [])) := ⟨[], 0, by simp, fun _ => rfl, Nat.zero_le _, fun k => rfl⟩
theorem ol_k {s : Oc} (t : Oc) (n : Nat) (h : t.length ≤ 4) (h2 : 1 ≤ n ∧ n ≤ s.length) : OL s (fun k => k (.ret (.tuple [.str t, .int .i64 (n : Nat)]) [])) := ⟨t, n, h, fun h0 => by omega, h2.2, fun k => rfl⟩
theorem one_ol (t : Oc) (ht : t.length < 1099511627776) : OL (38 :: t) (fun k => iFun Tryz.prog (layY7.hd Tryz.prog) layY7.fhs 0 48 [.str (38 :: t)] [] k) := by
 obtain ⟨s, hs⟩ : ∃ s, s = 38 :: t := ⟨_, rfl⟩
 rw [← hs]
 have hl : s.length = t.length + 1 := by rw [hs]; rfl
 obtain ⟨n0, e0⟩ : ∃ n0 : Int, n0 = s.length := ⟨_, rfl⟩
 obtain ⟨c1, e1⟩ : ∃ c1, c1 = (s == []) := ⟨_, rfl⟩
 obtain ⟨n2, e2⟩ : ∃ n2 : Int, n2 = (if 16 < n0 then 16 else n0) := ⟨_, rfl⟩
 obtain ⟨n3, e3⟩ : ∃ n3, n3 = ibM (List.drop (Int.toNat 0) (List.take n2.toNat s)) 59 := ⟨_, rfl⟩
 obtain ⟨c4, e4⟩ : ∃ c4, c4 = (decide (1 ≤ n3) && decide (n3 ≤ n0)) := ⟨_, rfl⟩
 obtain ⟨l5, e5⟩ : ∃ l5, l5 = List.drop (Int.toNat 1) (List.take n3.toNat s) := ⟨_, rfl⟩
 obtain ⟨m6, e6⟩ : ∃ m6, m6 = l5.length := ⟨_, rfl⟩
 obtain ⟨n7, e7⟩ : ∃ n7 : Int, n7 = m6 := ⟨_, rfl⟩
 obtain ⟨c8, e8⟩ : ∃ c8, c8 = decide (1 ≤ n7) := ⟨_, rfl⟩
 obtain ⟨c9, e9⟩ : ∃ c9, c9 = decide (n7 ≥ 1) := ⟨_, rfl⟩
 obtain ⟨l10, e10⟩ : ∃ l10, l10 = List.drop (Int.toNat 1) (List.take n7.toNat l5) := ⟨_, rfl⟩
 obtain ⟨m11, e11⟩ : ∃ m11, m11 = l10.length := ⟨_, rfl⟩
 obtain ⟨n12, e12⟩ : ∃ n12 : Int, n12 = m11 := ⟨_, rfl⟩
 obtain ⟨c13, e13⟩ : ∃ c13, c13 = (l10 == []) := ⟨_, rfl⟩
 obtain ⟨c14, e14⟩ : ∃ c14, c14 = !c13 := ⟨_, rfl⟩
 obtain ⟨l15, e15⟩ : ∃ l15, l15 = List.drop (Int.toNat 1) (List.take n12.toNat l10) := ⟨_, rfl⟩
 obtain ⟨c16, e16⟩ : ∃ c16, c16 = decide (l15.length ≤ 1099511627776) := ⟨_, rfl⟩
 obtain ⟨n17, e17⟩ : ∃ n17, n17 = valA l15 true := ⟨_, rfl⟩
 obtain ⟨c18, e18⟩ : ∃ c18, c18 = decide (m11 ≤ 1099511627776) := ⟨_, rfl⟩
 obtain ⟨n19, e19⟩ : ∃ n19, n19 = valA l10 false := ⟨_, rfl⟩
 have key := funext (fun k => rone_fun s k n0 e0 c1 e1 n2 e2 n3 e3 c4 e4 l5 e5 m6 e6 n7 e7 c8 e8 c9 e9 l10 e10 m11 e11 n12 e12 c13 e13 c14 e14 l15 e15 c16 e16 n17 e17 c18 e18 n19 e19)
 rw [key]
 clear key
 have h1 : c1 = false := by rw [e1, hs]; rfl
 have hc : (((s.getD 0 0).toNat : Int) != 38) = false := by rw [hs]; rfl
 have g0 : decide (0 < n0) = true := dT (by omega)
 have h2 : 0 ≤ n2 ∧ n2 ≤ n0 := by rw [e2]; split <;> omega
 have h5 : l5.length ≤ s.length := by rw [e5]; simp; omega
 have h10 : l10.length ≤ s.length := by rw [e10]; simp; omega
 have h15 : l15.length ≤ s.length := by rw [e15]; simp; omega
 have g16 : c16 = true := by rw [e16]; exact dT (by omega)
 have g18 : c18 = true := by rw [e18]; exact dT (by omega)
 have g6 : decide (m6 ≤ 1099511627776) = true := dT (by omega)
 have g77 : decide (n7 ≤ n7) = true := dT (Int.le_refl _)
 have g1212 : decide (n12 ≤ n12) = true := dT (Int.le_refl _)
 simp only [h1, hc, g0, dT h2.1, dT h2.2, Bool.true_or, cond_true, cond_false, Bool.and_self]
 by_cases h3 : n3 < 0
 · simp only [dT h3, cond_true]; exact ol_0 s
 have h31 : 1 ≤ n3 ∧ n3 < n2 := by
  have hlt := ib_lt (List.drop (Int.toNat 0) (List.take n2.toNat s)) 59
  have hd : (List.drop (Int.toNat 0) (List.take n2.toNat s)).length = n2.toNat := by simp; omega
  have e3' : n3 = Lib.indexByte (List.drop (Int.toNat 0) (List.take n2.toNat s)) 59 := e3
  refine ⟨?_, by omega⟩
  have hp : 0 < n2.toNat := by rw [e2]; split <;> omega
  obtain ⟨q, hq⟩ : ∃ q, n2.toNat = q + 1 := ⟨n2.toNat - 1, by omega⟩
  rw [hq, hs, List.take_succ_cons] at e3'
  have : n3 = if ((38 : UInt8) == 59) = true then 0 else if (Lib.indexByte (t.take q) 59 == -1) = true then -1 else Lib.indexByte (t.take q) 59 + 1 := e3'
  rw [if_neg (by decide)] at this
  have hge := Lib.indexByte_ge (t.take q) 59
  split at this
  · omega
  · rename_i hne
    have : Lib.indexByte (t.take q) 59 ≠ -1 := by simpa using hne
    omega
 have g4 : c4 = true := by rw [e4, dT h31.1, dT (show n3 ≤ n0 by omega)]; rfl
 have hw : IntKind.i64.wrap (n3 + 1) = (((n3 + 1).toNat : Nat) : Int) := by rw [wrap_of (by omega) (by omega)]; omega
 have hn : 1 ≤ (n3 + 1).toNat ∧ (n3 + 1).toNat ≤ s.length := by omega
 simp only [dF h3, g4, hw, g6, g16, g18, g77, g1212, Bool.and_true, Bool.or_true, cond_true, cond_false]
 by_cases h7 : 1 ≤ n7
 case neg =>
  have g8 : c8 = false := by rw [e8]; exact dF h7
  have g9 : c9 = false := by rw [e9]; exact dF h7
  simp only [g8, g9, Bool.not_false, Bool.or_true, cond_true, cond_false]
  repeat' (first | exact ol_0 s | exact ol_k _ _ (by simp) hn | refine ol_bif ?_ ?_)
 have g8 : c8 = true := by rw [e8]; exact dT h7
 have g9 : c9 = true := by rw [e9]; exact dT h7
 by_cases he : l10 = []
 case pos =>
  have g13 : c13 = true := by rw [e13, he]; rfl
  have g14 : c14 = false := by rw [e14, g13]; rfl
  simp only [g8, g9, g13, g14, Bool.not_false, Bool.or_true, Bool.true_or, cond_true, cond_false]
  repeat' (first | exact ol_0 s | exact ol_k _ _ (by simp) hn | exact ol_k _ _ (encS_len _) hn | refine ol_bif ?_ ?_)
 have hp : 0 < l10.length := List.length_pos_iff.2 he
 have g13 : c13 = false := by rw [e13]; simpa using he
 have g14 : c14 = true := by rw [e14, g13]; rfl
 have g12 : decide (0 < n12) = true := dT (by omega)
 have g12' : decide (1 ≤ n12) = true := dT (by omega)
 simp only [g8, g9, g13, g14, g12, g12', Bool.not_false, Bool.not_true, Bool.or_true, Bool.true_or, cond_true, cond_false]
 repeat' (first | exact ol_0 s | exact ol_k _ _ (by simp) hn | exact ol_k _ _ (encS_len _) hn | refine ol_bif ?_ ?_)
theorem one_any (s : Oc) (hs : s.length ≤ 1099511627776) : OL s (fun k => iFun Tryz.prog (layY7.hd Tryz.prog) layY7.fhs 0 48 [.str s] [] k) ∧ ((s.getD 0 0 == 38) = false → ∀ k, iFun Tryz.prog (layY7.hd Tryz.prog) layY7.fhs 0 48 [.str s] [] k = k (.ret (.tuple [.str [], .int .i64 0]) [])) := by
 cases h : s.getD 0 0 == 38 with
 | true =>
  cases s with
  | nil => cases h
  | cons c t =>
   obtain rfl : c = 38 := by simpa using h
   exact ⟨one_ol t (by rw [List.length_cons] at hs; omega), (fun h => by cases h)⟩
 | false =>
  have key : ∀ k, iFun Tryz.prog (layY7.hd Tryz.prog) layY7.fhs 0 48 [.str s] [] k = k (.ret (.tuple [.str [], .int .i64 0]) []) := fun k => by
   refine (rone_fun s k _ rfl _ rfl _ rfl _ rfl _ rfl _ rfl _ rfl _ rfl _ rfl _ rfl _ rfl _ rfl _ rfl _ rfl _ rfl _ rfl _ rfl _ rfl _ rfl _ rfl).trans ?_
   have hc : (((s.getD 0 0).toNat : Int) != 38) = true := by
    have : (((s.getD 0 0).toNat : Int) == 38) = false := by rw [eqc (show 38 < 256 by decide)]; exact h
    show (!((s.getD 0 0).toNat : Int) == 38) = true
    rw [this]; rfl
   cases s with
   | nil => rfl
   | cons c t =>
    rw [dT (show (0 : Int) < ((c :: t).length : Int) by simp), hc]
    rfl
  refine ⟨?_, fun _ => key⟩
  rw [show (fun k => iFun Tryz.prog (layY7.hd Tryz.prog) layY7.fhs 0 48 [.str s] [] k) = _ from funext key]
  exact ol_0 s
open Classical in
noncomputable def oneP (s : Oc) : Oc × Nat := if h : s.length ≤ 1099511627776 then (Classical.choose (one_any s h).1, Classical.choose (Classical.choose_spec (one_any s h).1)) else ([], 0)
theorem oneP_is (s : Oc) (h : s.length ≤ 1099511627776) : (oneP s).1.length ≤ 4 ∧ ((oneP s).2 = 0 → (oneP s).1 = []) ∧ (oneP s).2 ≤ s.length ∧ ∀ k, iFun Tryz.prog (layY7.hd Tryz.prog) layY7.fhs 0 48 [.str s] [] k = k (.ret (.tuple [.str (oneP s).1, .int .i64 ((oneP s).2 : Nat)]) []) := by
 have := Classical.choose_spec (Classical.choose_spec (one_any s h).1)
 unfold oneP
 rw [dif_pos h]
 exact this
theorem oneP_eq {s t : Oc} {n : Nat} (h : s.length ≤ 1099511627776) (hk : ∀ k, iFun Tryz.prog (layY7.hd Tryz.prog) layY7.fhs 0 48 [.str s] [] k = k (.ret (.tuple [.str t, .int .i64 (n : Nat)]) [])) : oneP s = (t, n) := by
 have h2 := (oneP_is s h).2.2.2
 have h3 := fun k => (h2 k).symm.trans (hk k)
 have h4 := h3 some
 simp only [Option.some.injEq, Out.ret.injEq, AVal.tuple.injEq, List.cons.injEq, AVal.str.injEq, AVal.int.injEq, and_true, true_and] at h4
 rw [← h4.1, ← Int.ofNat.inj h4.2]
theorem oneP_no {s : Oc} (h : s.length ≤ 1099511627776) (hc : (s.getD 0 0 == 38) = false) : oneP s = ([], 0) := oneP_eq h ((one_any s h).2 hc)
theorem oneP_lt : oneP [38, 108, 116, 59] = ([60], 4) := oneP_eq (by decide) (fun k => by kernel_rfl)
noncomputable def onePTold : FSp := mkFS [.s] (fun xs => decide ((aS xs 0).length ≤ 1099511627776)) (fun xs k => k (.ret (.tuple [.str (oneP (aS xs 0)).1, .int .i64 ((oneP (aS xs 0)).2 : Nat)]) []))
theorem onePTold_ok : ∀ xs H k out, onePTold xs H k = some out → ∃ o, CallOK Tryz.prog 48 xs H o ∧ k o = some out := mkFS_ok fun ys xs e h => by
 obtain ⟨s, rfl⟩ : ∃ s, xs = [.str s] := ⟨_, e⟩
 exact ⟨_, fun k => rfl, layY7_ok.callF (G := []) rfl (fun k => (oneP_is s (of_decide_eq_true h)).2.2.2 k)⟩
end Go.Mu
namespace Go.Mu
open Go Go.Proofs
def enO (b x : Int) : UInt8 := byteOf [AVal.int .u8 (IntKind.u8.wrap (((BitVec.ofInt 8 b ||| BitVec.ofInt 8 (IntKind.u8.wrap x)).toNat : Nat) : Int))]
def enT (x : Int) : UInt8 := byteOf [AVal.int .u8 (IntKind.u8.wrap (((BitVec.ofInt 8 128 ||| BitVec.ofInt 8 (IntKind.u8.wrap (((BitVec.ofInt 8 (IntKind.u8.wrap x) &&& BitVec.ofInt 8 63).toNat : Nat) : Int))).toNat : Nat) : Int))]
theorem wrap8 (x : Int) : IntKind.u8.wrap x = x % 256 := by simp [IntKind.wrap, IntKind.signed, IntKind.bits]
theorem enT_eq (x : Int) : enT x = (128 + x % 64).toNat.toUInt8 := by
 have h : ∀ m : Fin 256, byteOf [AVal.int .u8 (IntKind.u8.wrap (((BitVec.ofInt 8 128 ||| BitVec.ofInt 8 (IntKind.u8.wrap (((BitVec.ofInt 8 (m.val : Int) &&& BitVec.ofInt 8 63).toNat : Nat) : Int))).toNat : Nat) : Int))] = (128 + (m.val : Int) % 64).toNat.toUInt8 := by decide +kernel
 unfold enT
 rw [wrap8 x]
 have hm : 0 ≤ x % 256 ∧ x % 256 < 256 := by omega
 have := h ⟨(x % 256).toNat, by omega⟩
 simp only [Int.toNat_of_nonneg hm.1] at this
 rw [this, show x % 256 % 64 = x % 64 by omega]
theorem enO_192 (x : Int) (h : 0 ≤ x ∧ x < 32) : enO 192 x = (192 + x).toNat.toUInt8 := by
 have h2 : ∀ m : Fin 32, enO 192 (m.val : Int) = (192 + (m.val : Int)).toNat.toUInt8 := by decide +kernel
 have := h2 ⟨x.toNat, by omega⟩
 simpa only [Int.toNat_of_nonneg h.1] using this
theorem enO_224 (x : Int) (h : 0 ≤ x ∧ x < 16) : enO 224 x = (224 + x).toNat.toUInt8 := by
 have h2 : ∀ m : Fin 16, enO 224 (m.val : Int) = (224 + (m.val : Int)).toNat.toUInt8 := by decide +kernel
 have := h2 ⟨x.toNat, by omega⟩
 simpa only [Int.toNat_of_nonneg h.1] using this
theorem enO_240 (x : Int) (h : 0 ≤ x ∧ x < 8) : enO 240 x = (240 + x).toNat.toUInt8 := by
 have h2 : ∀ m : Fin 8, enO 240 (m.val : Int) = (240 + (m.val : Int)).toNat.toUInt8 := by decide +kernel
 have := h2 ⟨x.toNat, by omega⟩
 simpa only [Int.toNat_of_nonneg h.1] using this
def badR (n : Int) : Bool := decide (n < 0) || decide (n > 1114111) || (decide (55296 ≤ n) && decide (n ≤ 57343))
def encX (n : Int) : Oc := bif badR n then [] else Lib.encodeRune n
def encXE (n : Int) : Int := bif badR n then 4 else 0
theorem encode_exact (n : Int) (h0 : 0 ≤ n) (h : n ≤ 2147483647) (k : Out → Ans) : iFun Tryz.prog (Lay.nil.hd Tryz.prog) Lay.nil.fhs 0 86 [.int .i64 n] [] k = k (.ret (.tuple [.str (encX n), .int .i64 (encXE n)]) []) := by
 have w1 : IntKind.i32.wrap n = n := by simp [IntKind.wrap, IntKind.signed, IntKind.bits]; omega
 have w2 : IntKind.u32.wrap n = n := by simp [IntKind.wrap, IntKind.signed, IntKind.bits]; omega
 have f64 : n.fdiv 64 = n / 64 := Int.fdiv_eq_ediv_of_nonneg _ (by decide)
 have f4 : n.fdiv 4096 = n / 4096 := Int.fdiv_eq_ediv_of_nonneg _ (by decide)
 have f26 : n.fdiv 262144 = n / 262144 := Int.fdiv_eq_ediv_of_nonneg _ (by decide)
 refine (encode_fun n k).trans ?_
 simp only [w1, w2, f64, f4, f26]
 unfold encX encXE badR
 by_cases hb : n > 1114111
 · simp (disch := omega) only [dT, dF, cond_true, cond_false, Bool.or_true, Bool.true_or, Bool.false_or, Bool.or_false]
 by_cases hs : 55296 ≤ n ∧ n ≤ 57343
 · obtain ⟨hs1, hs2⟩ := hs
   simp (disch := omega) only [dT, dF, cond_true, cond_false, Bool.or_true, Bool.true_or, Bool.false_or, Bool.or_false, Bool.and_self]
 have hsb : (decide (55296 ≤ n) && decide (n ≤ 57343)) = false := by
  by_cases h1 : 55296 ≤ n
  · rw [dF (show ¬ n ≤ 57343 by omega), Bool.and_false]
  · rw [dF h1, Bool.false_and]
 rw [hsb, dF (show ¬ n < 0 by omega), dF hb]
 have fin : ∀ (t : Oc), t = Lib.encodeRune n → k (Out.ret (AVal.tuple [AVal.str t, AVal.int .i64 0]) []) = k (Out.ret (AVal.tuple [AVal.str (bif false || false || false then [] else Lib.encodeRune n), AVal.int .i64 (bif false || false || false then 4 else 0)]) []) := fun t e => by rw [e]; rfl
 by_cases h1 : n ≤ 127
 · simp (disch := omega) only [dT, dF, cond_true, cond_false]
   refine fin _ ?_
   unfold Lib.encodeRune
   rw [Lib.encodeRuneZ_one h0 h1]
   show [UInt8.ofNat (IntKind.u8.wrap n).toNat] = [n.toNat.toUInt8]
   rw [wrap8, show n % 256 = n by omega, Nat.toUInt8]
 by_cases h2 : n ≤ 2047
 · simp (disch := omega) only [dT, dF, cond_true, cond_false]
   refine fin _ ?_
   unfold Lib.encodeRune
   rw [Lib.encodeRuneZ_two (by omega) h2]
   show [enO 192 (n / 64), enT n] = [(192 + n / 64).toNat.toUInt8, (128 + n % 64).toNat.toUInt8]
   rw [enO_192 _ (by omega), enT_eq]
 by_cases h3 : n ≤ 65535
 · have key : (k (Out.ret (AVal.tuple [AVal.str [enO 224 (n / 4096), enT (n / 64), enT n], AVal.int .i64 0]) [])) = k (Out.ret (AVal.tuple [AVal.str (bif false || false || false then [] else Lib.encodeRune n), AVal.int .i64 (bif false || false || false then 4 else 0)]) []) := by
    refine fin _ ?_
    unfold Lib.encodeRune
    rw [Lib.encodeRuneZ_three (by omega), enO_224 _ (by omega), enT_eq, enT_eq]
    rfl
   by_cases h4 : n < 55296
   · simp (disch := omega) only [dT, dF, cond_true, cond_false]
     exact key
   · simp (disch := omega) only [dT, dF, cond_true, cond_false]
     exact key
 simp (disch := omega) only [dT, dF, cond_true, cond_false]
 refine fin _ ?_
 unfold Lib.encodeRune
 rw [Lib.encodeRuneZ_four (by omega) (by omega)]
 show [enO 240 (n / 262144), enT (n / 4096), enT (n / 64), enT n] = _
 rw [enO_240 _ (by omega), enT_eq, enT_eq, enT_eq]
 rfl
theorem enc_exact {n : Int} (h0 : 0 ≤ n) (h : n ≤ 2147483647) : encS' n = encX n ∧ encE n = encXE n := by
 have h3 := fun k => (encode_is n k).symm.trans (encode_exact n h0 h k)
 have h4 := h3 some
 simp only [Option.some.injEq, Out.ret.injEq, AVal.tuple.injEq, List.cons.injEq, AVal.str.injEq, AVal.int.injEq, and_true, true_and] at h4
 exact h4
end Go.Mu
namespace Go.Mu
open Go Go.Proofs
def isX (c : UInt8) : Bool := IntKind.u8.wrap (((BitVec.ofInt 8 (c.toNat : Int) ||| BitVec.ofInt 8 32).toNat : Nat) : Int) == 120
noncomputable def onW4 (t : Oc) (hex : Bool) (n : Nat) : Oc × Nat := bif t == [] || !numB t hex then ([], 0) else (bif encE (valA t hex) != 0 || valA t hex == 0 then [239, 191, 189] else encS' (valA t hex), n)
noncomputable def onW3 (v : Oc) (n : Nat) : Oc × Nat := bif !(v == []) && isX (v.getD 0 0) then onW4 (v.drop 1) true n else onW4 v false n
noncomputable def onW2 (w : Oc) (n : Nat) : Oc × Nat :=
 bif w == [97, 109, 112] then ([38], n) else bif w == [108, 116] then ([60], n) else bif w == [103, 116] then ([62], n) else bif w == [113, 117, 111, 116] then ([34], n) else bif w == [97, 112, 111, 115] then ([39], n) else
 bif !(w.take 1 == [35]) then ([], 0) else onW3 (w.drop 1) n
noncomputable def oneW (s : Oc) : Oc × Nat :=
 bif !(s.getD 0 0 == 38) then ([], 0) else bif decide (ibM (s.take 16) 59 < 0) then ([], 0) else onW2 ((s.take (ibM (s.take 16) 59).toNat).drop 1) (ibM (s.take 16) 59 + 1).toNat
theorem oneP_W38 (t : Oc) (ht : t.length < 1099511627776) : oneP (38 :: t) = oneW (38 :: t) := by
 obtain ⟨s, hs⟩ : ∃ s, s = 38 :: t := ⟨_, rfl⟩
 have hl : s.length = t.length + 1 := by rw [hs]; rfl
 obtain ⟨n0, e0⟩ : ∃ n0 : Int, n0 = s.length := ⟨_, rfl⟩
 obtain ⟨c1, e1⟩ : ∃ c1, c1 = (s == []) := ⟨_, rfl⟩
 obtain ⟨n2, e2⟩ : ∃ n2 : Int, n2 = (if 16 < n0 then 16 else n0) := ⟨_, rfl⟩
 obtain ⟨n3, e3⟩ : ∃ n3, n3 = ibM (List.drop (Int.toNat 0) (List.take n2.toNat s)) 59 := ⟨_, rfl⟩
 obtain ⟨c4, e4⟩ : ∃ c4, c4 = (decide (1 ≤ n3) && decide (n3 ≤ n0)) := ⟨_, rfl⟩
 obtain ⟨l5, e5⟩ : ∃ l5, l5 = List.drop (Int.toNat 1) (List.take n3.toNat s) := ⟨_, rfl⟩
 obtain ⟨m6, e6⟩ : ∃ m6, m6 = l5.length := ⟨_, rfl⟩
 obtain ⟨n7, e7⟩ : ∃ n7 : Int, n7 = m6 := ⟨_, rfl⟩
 obtain ⟨c8, e8⟩ : ∃ c8, c8 = decide (1 ≤ n7) := ⟨_, rfl⟩
 obtain ⟨c9, e9⟩ : ∃ c9, c9 = decide (n7 ≥ 1) := ⟨_, rfl⟩
 obtain ⟨l10, e10⟩ : ∃ l10, l10 = List.drop (Int.toNat 1) (List.take n7.toNat l5) := ⟨_, rfl⟩
 obtain ⟨m11, e11⟩ : ∃ m11, m11 = l10.length := ⟨_, rfl⟩
 obtain ⟨n12, e12⟩ : ∃ n12 : Int, n12 = m11 := ⟨_, rfl⟩
 obtain ⟨c13, e13⟩ : ∃ c13, c13 = (l10 == []) := ⟨_, rfl⟩
 obtain ⟨c14, e14⟩ : ∃ c14, c14 = !c13 := ⟨_, rfl⟩
 obtain ⟨l15, e15⟩ : ∃ l15, l15 = List.drop (Int.toNat 1) (List.take n12.toNat l10) := ⟨_, rfl⟩
 obtain ⟨c16, e16⟩ : ∃ c16, c16 = decide (l15.length ≤ 1099511627776) := ⟨_, rfl⟩
 obtain ⟨n17, e17⟩ : ∃ n17, n17 = valA l15 true := ⟨_, rfl⟩
 obtain ⟨c18, e18⟩ : ∃ c18, c18 = decide (m11 ≤ 1099511627776) := ⟨_, rfl⟩
 obtain ⟨n19, e19⟩ : ∃ n19, n19 = valA l10 false := ⟨_, rfl⟩
 have key := (fun k : Out → Ans => rone_fun s k n0 e0 c1 e1 n2 e2 n3 e3 c4 e4 l5 e5 m6 e6 n7 e7 c8 e8 c9 e9 l10 e10 m11 e11 n12 e12 c13 e13 c14 e14 l15 e15 c16 e16 n17 e17 c18 e18 n19 e19)
 rw [← hs]
 have fin : (∀ k : Out → Ans, iFun Tryz.prog (layY7.hd Tryz.prog) layY7.fhs 0 48 [.str s] [] k = k (.ret (.tuple [.str (oneW s).1, .int .i64 ((oneW s).2 : Nat)]) [])) → oneP s = oneW s := fun h => oneP_eq (by omega) h
 refine fin (fun k => (key k).trans ?_)
 clear key fin
 have h1 : c1 = false := by rw [e1, hs]; rfl
 have hc : (((s.getD 0 0).toNat : Int) != 38) = false := by rw [hs]; rfl
 have g0 : decide (0 < n0) = true := dT (by omega)
 have h2 : 0 ≤ n2 ∧ n2 ≤ n0 := by rw [e2]; split <;> omega
 have h5 : l5.length ≤ s.length := by rw [e5]; simp; omega
 have h10 : l10.length ≤ s.length := by rw [e10]; simp; omega
 have h15 : l15.length ≤ s.length := by rw [e15]; simp; omega
 have g16 : c16 = true := by rw [e16]; exact dT (by omega)
 have g18 : c18 = true := by rw [e18]; exact dT (by omega)
 have g6 : decide (m6 ≤ 1099511627776) = true := dT (by omega)
 have g77 : decide (n7 ≤ n7) = true := dT (Int.le_refl _)
 have g1212 : decide (n12 ≤ n12) = true := dT (Int.le_refl _)
 have e16 : List.drop (Int.toNat 0) (List.take n2.toNat s) = s.take 16 := by
  show List.take n2.toNat s = s.take 16
  rw [e2]
  split
  · rfl
  · rw [List.take_of_length_le (by omega), List.take_of_length_le (by omega)]
 have hW : oneW s = bif decide (n3 < 0) then ([], 0) else onW2 l5 (n3 + 1).toNat := by
  unfold oneW
  rw [show (s.getD 0 0 == 38) = true by rw [hs]; rfl, ← e16, ← e3, e5]
  rfl
 rw [hW]
 simp only [h1, hc, g0, dT h2.1, dT h2.2, Bool.true_or, cond_true, cond_false, Bool.and_self]
 by_cases h3 : n3 < 0
 · simp only [dT h3, cond_true]; rfl
 have h31 : 1 ≤ n3 ∧ n3 < n2 := by
  have hlt := ib_lt (List.drop (Int.toNat 0) (List.take n2.toNat s)) 59
  have hd : (List.drop (Int.toNat 0) (List.take n2.toNat s)).length = n2.toNat := by simp; omega
  have e3' : n3 = Lib.indexByte (List.drop (Int.toNat 0) (List.take n2.toNat s)) 59 := e3
  refine ⟨?_, by omega⟩
  have hp : 0 < n2.toNat := by rw [e2]; split <;> omega
  obtain ⟨q, hq⟩ : ∃ q, n2.toNat = q + 1 := ⟨n2.toNat - 1, by omega⟩
  rw [hq, hs, List.take_succ_cons] at e3'
  have : n3 = if ((38 : UInt8) == 59) = true then 0 else if (Lib.indexByte (t.take q) 59 == -1) = true then -1 else Lib.indexByte (t.take q) 59 + 1 := e3'
  rw [if_neg (by decide)] at this
  have hge := Lib.indexByte_ge (t.take q) 59
  split at this
  · omega
  · rename_i hne
    have : Lib.indexByte (t.take q) 59 ≠ -1 := by simpa using hne
    omega
 have g4 : c4 = true := by rw [e4, dT h31.1, dT (show n3 ≤ n0 by omega)]; rfl
 have hw : IntKind.i64.wrap (n3 + 1) = (((n3 + 1).toNat : Nat) : Int) := by rw [wrap_of (by omega) (by omega)]; omega
 simp only [dF h3, g4, hw, g6, g16, g18, g77, g1212, Bool.and_true, Bool.or_true, cond_true, cond_false]
 generalize hN : (n3 + 1).toNat = N
 unfold onW2
 cases l5 == [97, 109, 112] with
 | true => rfl
 | false =>
 cases l5 == [108, 116] with
 | true => rfl
 | false =>
 cases l5 == [103, 116] with
 | true => rfl
 | false =>
 cases l5 == [113, 117, 111, 116] with
 | true => rfl
 | false =>
 cases l5 == [97, 112, 111, 115] with
 | true => rfl
 | false =>
 simp only [cond_false]
 have eT : List.drop (Int.toNat 0) (List.take (Int.toNat 1) l5) = l5.take 1 := rfl
 have eD : List.drop (Int.toNat 1) (List.take n7.toNat l5) = l5.drop 1 := by rw [List.take_of_length_le (by omega)]; rfl
 have eD2 : List.drop (Int.toNat 1) (List.take n12.toNat l10) = l10.drop 1 := by rw [List.take_of_length_le (by omega)]; rfl
 rw [eT]
 by_cases h7 : 1 ≤ n7
 case neg =>
  have g8 : c8 = false := by rw [e8]; exact dF h7
  have g9 : c9 = false := by rw [e9]; exact dF h7
  have hn : l5 = [] := List.eq_nil_of_length_eq_zero (by omega)
  simp only [g8, g9, Bool.not_false, Bool.or_true, cond_true, cond_false]
  rw [hn]; rfl
 have g8 : c8 = true := by rw [e8]; exact dT h7
 have g9 : c9 = true := by rw [e9]; exact dT h7
 simp only [g8, g9, Bool.true_or, cond_true]
 rw [eD] at e10
 cases l5.take 1 == [35] with
 | false => simp only [Bool.not_false, cond_true, Bool.or_true]; rfl
 | true =>
 simp only [Bool.not_true, cond_false, cond_true]
 rw [← e10]
 unfold onW3
 rw [eD2] at e15
 by_cases he : l10 = []
 case pos =>
  have g13 : c13 = true := by rw [e13, he]; rfl
  have g14 : c14 = false := by rw [e14, g13]; rfl
  simp only [g13, g14, Bool.not_false, Bool.or_true, Bool.true_or, cond_true, cond_false]
  rw [he]; rfl
 have hp : 0 < l10.length := List.length_pos_iff.2 he
 have hb : (l10 == []) = false := by simpa using he
 have g13 : c13 = false := by rw [e13]; exact hb
 have g14 : c14 = true := by rw [e14, g13]; rfl
 have g12 : decide (0 < n12) = true := dT (by omega)
 have g12' : decide (1 ≤ n12) = true := dT (by omega)
 simp only [g13, g14, g12, g12', hb, Bool.not_false, Bool.not_true, Bool.or_true, Bool.true_or, Bool.true_and, cond_true, cond_false]
 show (bif isX (l10.getD 0 0) then _ else _) = _
 rw [← e15]
 unfold onW4
 cases isX (l10.getD 0 0) with
 | true =>
  simp only [cond_true, ← e17]
  cases l15 == [] with
  | true => rfl
  | false =>
   cases numB l15 true with
   | false => rfl
   | true =>
    cases encE n17 != 0 with
    | true => rfl
    | false => cases n17 == 0 <;> rfl
 | false =>
  simp only [cond_false, ← e19, hb]
  cases numB l10 false with
  | false => rfl
  | true =>
   cases encE n19 != 0 with
   | true => rfl
   | false => cases n19 == 0 <;> rfl
theorem oneP_W (s : Oc) (hs : s.length ≤ 1099511627776) : oneP s = oneW s := by
 cases h : s.getD 0 0 == 38 with
 | false => rw [oneP_no hs h]; unfold oneW; rw [h]; rfl
 | true =>
  cases s with
  | nil => cases h
  | cons c t =>
   obtain rfl : c = 38 := by simpa using h
   exact oneP_W38 t (by rw [List.length_cons] at hs; omega)
end Go.Mu
namespace Go.Mu
open Go Go.Proofs
theorem rEn_fun (n : Int) (k : Out → Ans) : iFun Tryz.prog (Lay.nil.hd Tryz.prog) Lay.nil.fhs 0 29 [.int .i64 n] [] k = (
 let c0 : Bool := !(n == n && false);
 let n1 : Int := IntKind.i64.wrap (n.tdiv 64);
 let l2 : Oc := [byteOf [AVal.int .u8 (IntKind.u8.wrap (IntKind.i64.wrap (128 + n.tmod 64)))]];
 let c3 : Bool := !(n1 == n1 && false);
 let n4 : Int := IntKind.i64.wrap (n.tdiv 4096);
 let l5 : Oc := byteOf [AVal.int .u8 (IntKind.u8.wrap (IntKind.i64.wrap (128 + n1.tmod 64)))] :: l2;
  bif bif bif decide (n < 0) then true else decide (n > 1114111) then true else bif decide (n ≥ 55296) then decide (n ≤ 57343) else false then k (Out.ret (AVal.tuple [AVal.str [], AVal.int .i64 4]) []) else bif decide (n < 128) then k (Out.ret (AVal.tuple [AVal.str [byteOf [AVal.int .u8 (IntKind.u8.wrap n)]], AVal.int .i64 0]) []) else bif decide (n < 2048) then bif c0 then bif c0 then k (Out.ret (AVal.tuple [AVal.str (byteOf [AVal.int .u8 (IntKind.u8.wrap (IntKind.i64.wrap (192 + n1)))] :: l2), AVal.int .i64 0]) []) else none else none else bif decide (n < 65536) then bif c0 then bif c0 then bif c3 then bif c0 then k (Out.ret (AVal.tuple [AVal.str (byteOf [AVal.int .u8 (IntKind.u8.wrap (IntKind.i64.wrap (224 + n4)))] :: l5), AVal.int .i64 0]) []) else none else none else none else none else bif c0 then bif c0 then bif !(n4 == n4 && false) then bif c0 then bif c3 then bif c0 then k (Out.ret (AVal.tuple [AVal.str (byteOf [AVal.int .u8 (IntKind.u8.wrap (IntKind.i64.wrap (240 + IntKind.i64.wrap (n.tdiv 262144))))] :: byteOf [AVal.int .u8 (IntKind.u8.wrap (IntKind.i64.wrap (128 + n4.tmod 64)))] :: l5), AVal.int .i64 0]) []) else none else none else none else none else none else none) := by kernel_rfl
def encrTold (X : Int → Oc) (E : Int → Int) : FSp := mkFS [.i .i64] (fun xs => decide (0 ≤ aI xs 0 ∧ aI xs 0 ≤ 2147483647)) (fun xs k => k (.ret (.tuple [.str (X (aI xs 0)), .int .i64 (E (aI xs 0))]) []))
def layRd0 (X : Int → Oc) (E : Int → Int) : Lay := Lay.nil.addF 29 (encrTold X E)
theorem rdec_fun (X : Int → Oc) (E : Int → Int) (s : Oc) (k : Out → Ans) (n0 : Int) (e_n0 : n0 = ((↑s.length : Int)))
 (c1 : Bool) (e_c1 : c1 = (decide (0 < n0)))
 (n2 : Int) (e_n2 : n2 = ((↑(s.getD 0 0).toNat : Int)))
 (n3 : Int) (e_n3 : n3 = (IntKind.i64.wrap (↑(BitVec.ofInt 64 (IntKind.i64.wrap n2) &&& BitVec.ofInt 64 127).toNat : Int)))
 (c4 : Bool) (e_c4 : c4 = (E n3 != 0))
 (c5 : Bool) (e_c5 : c5 = (decide (1 < n0)))
 (n6 : Int) (e_n6 : n6 = ((↑(s.getD 1 0).toNat : Int)))
 (c7 : Bool) (e_c7 : c7 = (decide (n6 < 128)))
 (c8 : Bool) (e_c8 : c8 = (c5 || !!c7))
 (c9 : Bool) (e_c9 : c9 = (bif c7 then true else decide (n6 > 191)))
 (n10 : Int) (e_n10 : n10 = (IntKind.i64.wrap n6))
 (n11 : Int) (e_n11 : n11 = (IntKind.i64.wrap
  (IntKind.i64.wrap
   (IntKind.i64.wrap
    (IntKind.i64.wrap (↑(BitVec.ofInt 64 (IntKind.i64.wrap n2) &&& BitVec.ofInt 64 31).toNat : Int) * 64) +
    n10) -
   128)))
 (c12 : Bool) (e_c12 : c12 = (E n11 != 0))
 (c13 : Bool) (e_c13 : c13 = (decide (2 < n0)))
 (n14 : Int) (e_n14 : n14 = ((↑(s.getD 2 0).toNat : Int)))
 (c15 : Bool) (e_c15 : c15 = (decide (n14 < 128)))
 (c16 : Bool) (e_c16 : c16 = (c13 || !!c15))
 (c17 : Bool) (e_c17 : c17 = (bif c15 then true else decide (n14 > 191)))
 (n18 : Int) (e_n18 : n18 = (IntKind.i64.wrap n14))
 (n19 : Int) (e_n19 : n19 = (IntKind.i64.wrap
  (IntKind.i64.wrap
   (IntKind.i64.wrap
    (IntKind.i64.wrap
     (IntKind.i64.wrap
      (IntKind.i64.wrap
       (IntKind.i64.wrap
        (↑(BitVec.ofInt 64 (IntKind.i64.wrap n2) &&& BitVec.ofInt 64 15).toNat : Int) *
        64) +
       n10) -
      128) *
     64) +
    n18) -
   128)))
 (c20 : Bool) (e_c20 : c20 = (E n19 != 0))
 (c21 : Bool) (e_c21 : c21 = (decide (3 < n0)))
 (n22 : Int) (e_n22 : n22 = ((↑(s.getD 3 0).toNat : Int)))
 (c23 : Bool) (e_c23 : c23 = (decide (n22 < 128)))
 (n24 : Int) (e_n24 : n24 = (IntKind.i64.wrap
  (IntKind.i64.wrap
   (IntKind.i64.wrap
    (IntKind.i64.wrap
     (IntKind.i64.wrap
      (IntKind.i64.wrap
       (IntKind.i64.wrap
        (IntKind.i64.wrap
         (IntKind.i64.wrap
          (IntKind.i64.wrap
           (↑(BitVec.ofInt 64 (IntKind.i64.wrap n2) &&& BitVec.ofInt 64 7).toNat : Int) *
           64) +
          n10) -
         128) *
        64) +
       n18) -
      128) *
     64) +
    IntKind.i64.wrap n22) -
   128)))
 (c25 : Bool) (e_c25 : c25 = (E n24 != 0)) : iFun Tryz.prog ((layRd0 X E).hd Tryz.prog) (layRd0 X E).fhs 9 60 [.str s] [] k = (
 let z0 := Out.ret (AVal.tuple [AVal.int .i64 (-1), AVal.int .i64 1]) [];
  bif s == [] then k (Out.ret (AVal.tuple [AVal.int .i64 (-1), AVal.int .i64 0]) []) else bif c1 then bif decide (n2 < 128) then bif decide (1 > n0) then k z0 else bif c1 then bif decide (0 ≤ n3 ∧ n3 ≤ 2147483647) then bif decide (1 ≤ n0) || !!c4 then bif bif c4 then true else !X n3 == List.drop (Int.toNat 0) (List.take (Int.toNat 1) s) then k z0 else k (Out.ret (AVal.tuple [AVal.int .i64 n3, AVal.int .i64 1]) []) else none else none else none else bif bif decide (n2 ≥ 194) then decide (n2 < 224) else false then bif decide (2 > n0) then k z0 else bif c1 then bif c5 then bif c8 then bif c9 then k z0 else bif c5 then bif decide (0 ≤ n11 ∧ n11 ≤ 2147483647) then bif decide (2 ≤ n0) || !!c12 then bif bif c12 then true else !X n11 == List.drop (Int.toNat 0) (List.take (Int.toNat 2) s) then k z0 else k (Out.ret (AVal.tuple [AVal.int .i64 n11, AVal.int .i64 2]) []) else none else none else none else none else none else none else bif bif decide (n2 ≥ 224) then decide (n2 < 240) else false then bif decide (3 > n0) then k z0 else bif c1 then bif c5 then bif c8 then bif c9 then k z0 else bif c5 then bif c13 then bif c16 then bif c17 then k z0 else bif c13 then bif decide (0 ≤ n19 ∧ n19 ≤ 2147483647) then bif decide (3 ≤ n0) || !!c20 then bif bif c20 then true else !X n19 == List.drop (Int.toNat 0) (List.take (Int.toNat 3) s) then k z0 else k (Out.ret (AVal.tuple [AVal.int .i64 n19, AVal.int .i64 3]) []) else none else none else none else none else none else none else none else none else none else bif bif decide (n2 ≥ 240) then decide (n2 < 245) else false then bif decide (4 > n0) then k z0 else bif c1 then bif c5 then bif c8 then bif c9 then k z0 else bif c5 then bif c13 then bif c16 then bif c17 then k z0 else bif c13 then bif c21 then bif c21 || !!c23 then bif bif c23 then true else decide (n22 > 191) then k z0 else bif c21 then bif decide (0 ≤ n24 ∧ n24 ≤ 2147483647) then bif decide (4 ≤ n0) || !!c25 then bif bif c25 then true else !X n24 == List.drop (Int.toNat 0) (List.take (Int.toNat 4) s) then k z0 else k (Out.ret (AVal.tuple [AVal.int .i64 n24, AVal.int .i64 4]) []) else none else none else none else none else none else none else none else none else none else none else none else none else k z0 else none) := by
  subst e_n0 e_c1 e_n2 e_n3 e_c4 e_c5 e_n6 e_c7 e_c8 e_c9 e_n10 e_n11 e_c12 e_c13 e_n14 e_c15 e_c16 e_c17 e_n18 e_n19 e_c20 e_c21 e_n22 e_c23 e_n24 e_c25
  kernel_rfl
end Go.Mu
namespace Go.Mu
open Go Go.Proofs
def hexc (c : UInt8) : Bool := anyI [97, 98, 99, 100, 101, 102, 65, 66, 67, 68, 69, 70] (c.toNat : Int)
def dgt (hex : Bool) (c : UInt8) : Bool := dig c || (hex && hexc c)
def dvl (c : UInt8) : Nat := bif dig c then c.toNat - 48 else bif decide (97 ≤ c.toNat) && decide (c.toNat ≤ 102) then c.toNat - 87 else bif decide (65 ≤ c.toNat) && decide (c.toNat ≤ 70) then c.toNat - 55 else 0
def bas (hex : Bool) : Nat := bif hex then 16 else 10
def numN (hex : Bool) (n : Nat) (l : Oc) : Nat := l.foldl (fun n c => n * bas hex + dvl c) n
theorem numN_cons (hex : Bool) (n : Nat) (c : UInt8) (l : Oc) : numN hex n (c :: l) = numN hex (n * bas hex + dvl c) l := rfl
def runQ (hex : Bool) (t : Oc) : Nat := (t.takeWhile (dgt hex)).length
def refC (n : Nat) : Oc := bif badR (n : Int) || n == 0 then [239, 191, 189] else Lib.encodeRune (n : Int)
def onQ (s : Oc) (at_ : Nat) (hex : Bool) : Oc × Nat :=
 bif !(decide (1 ≤ runQ hex (s.drop at_)) && decide (runQ hex (s.drop at_) ≤ 7) && decide (at_ + runQ hex (s.drop at_) < s.length) && s.getD (at_ + runQ hex (s.drop at_)) 0 == 59) then ([], 0)
 else (refC (numN hex 0 ((s.drop at_).take (runQ hex (s.drop at_)))), at_ + runQ hex (s.drop at_) + 1)
def hxQ (s : Oc) : Bool := decide (2 < s.length) && (s.getD 2 0 == 120 || s.getD 2 0 == 88)
def oneQ (s : Oc) : Oc × Nat :=
 bif [38, 97, 109, 112, 59].isPrefixOf s then ([38], 5) else bif [38, 108, 116, 59].isPrefixOf s then ([60], 4) else bif [38, 103, 116, 59].isPrefixOf s then ([62], 4) else
 bif [38, 113, 117, 111, 116, 59].isPrefixOf s then ([34], 6) else bif [38, 97, 112, 111, 115, 59].isPrefixOf s then ([39], 6) else
 bif !([38, 35].isPrefixOf s) then ([], 0) else bif hxQ s then onQ s 3 true else onQ s 2 false
theorem oct256 {p : UInt8 → Prop} [DecidablePred p] (h : ∀ n : Fin 256, p (UInt8.ofNat n)) (c : UInt8) : p c := by
 have := h ⟨c.toNat, c.toNat_lt⟩
 simpa using this
theorem isX_eq (c : UInt8) : isX c = (c == 120 || c == 88) := oct256 (p := fun c => isX c = (c == 120 || c == 88)) (by decide +kernel) c
theorem inD (c : UInt8) : (!decide (ibM octDg (c.toNat : Int) < 0)) = dgt false c := oct256 (p := fun c => (!decide (ibM octDg (c.toNat : Int) < 0)) = dgt false c) (by decide +kernel) c
theorem inX (c : UInt8) : (!decide (ibM octHx (c.toNat : Int) < 0)) = dgt true c := oct256 (p := fun c => (!decide (ibM octHx (c.toNat : Int) < 0)) = dgt true c) (by decide +kernel) c
theorem hexD_eq (c : UInt8) : dgt true c = true → hexD c = (dvl c : Nat) ∧ dvl c < 16 := oct256 (p := fun c => dgt true c = true → hexD c = (dvl c : Nat) ∧ dvl c < 16) (by decide +kernel) c
theorem dg_eq (c : UInt8) : dgt false c = true → dvl c < 10 ∧ IntKind.i64.wrap (IntKind.u8.wrap ((c.toNat : Int) - 48)) = (dvl c : Nat) := oct256 (p := fun c => dgt false c = true → dvl c < 10 ∧ IntKind.i64.wrap (IntKind.u8.wrap ((c.toNat : Int) - 48)) = (dvl c : Nat)) (by decide +kernel) c
theorem dg59 (hex : Bool) : dgt hex 59 = false := by cases hex <;> decide
theorem numB_eq (t : Oc) (hex : Bool) : numB t hex = (t.all (dgt hex) && decide (t.length ≤ 7)) := by
 unfold numB nmrM
 cases hex with
 | true => simp only [cond_true]; rw [List.all_congr rfl (fun c => inX c)]
 | false => simp only [cond_false]; rw [List.all_congr rfl (fun c => inD c)]
theorem ib_split : ∀ (l : Oc) (c : UInt8), (Lib.indexByte l c = -1 ∧ c ∉ l) ∨ ∃ p q, l = p ++ c :: q ∧ c ∉ p ∧ Lib.indexByte l c = (p.length : Nat)
 | [], c => .inl ⟨rfl, by simp⟩
 | b :: l, c => by
  rw [Lib.indexByte]
  by_cases hb : b = c
  · subst hb
    exact .inr ⟨[], l, rfl, by simp, by simp⟩
  · have hb2 : (b == c) = false := by simpa using hb
    rw [hb2, if_neg (by decide)]
    rcases ib_split l c with ⟨h1, h2⟩ | ⟨p, q, rfl, h2, h3⟩
    · rw [h1]
      exact .inl ⟨rfl, by simp [h2, Ne.symm hb]⟩
    · refine .inr ⟨b :: p, q, rfl, by simp [h2, Ne.symm hb], ?_⟩
      rw [h3]
      have : ((p.length : Int) == -1) = false := by simp only [beq_eq_false_iff_ne, ne_eq]; omega
      rw [this, if_neg (by decide)]
      simp
theorem pre_name : ∀ (nm w r : Oc), (59 : UInt8) ∉ nm → (59 : UInt8) ∉ w → (nm ++ [59]).isPrefixOf (w ++ 59 :: r) = (w == nm)
 | [], [], r, _, _ => rfl
 | [], c :: w, r, _, h => by
  have hc : ((59 : UInt8) == c) = false := by
   simp only [beq_eq_false_iff_ne, ne_eq]
   intro e; exact h (by simp [e])
  show ((59 : UInt8) == c && _) = false
  rw [hc]; rfl
 | d :: nm, [], r, h, _ => by
  have hc : (d == (59 : UInt8)) = false := by
   simp only [beq_eq_false_iff_ne, ne_eq]
   intro e; exact h (by simp [e])
  show (d == (59 : UInt8) && _) = false
  rw [hc]; rfl
 | d :: nm, c :: w, r, h1, h2 => by
  have := pre_name nm w r (fun h => h1 (by simp [h])) (fun h => h2 (by simp [h]))
  show (d == c && (nm ++ [59]).isPrefixOf (w ++ 59 :: r)) = (c == d && (w == nm))
  rw [this, Bool.beq_comm]
theorem runQ_all : ∀ (hex : Bool) (t r : Oc), t.all (dgt hex) = true → runQ hex (t ++ 59 :: r) = t.length
 | hex, [], r, _ => by
  unfold runQ
  rw [List.nil_append, List.takeWhile_cons, dg59]
  rfl
 | hex, c :: t, r, h => by
  rw [List.all_cons, Bool.and_eq_true] at h
  have := runQ_all hex t r h.2
  unfold runQ at this ⊢
  rw [List.cons_append, List.takeWhile_cons, h.1, if_pos rfl, List.length_cons, this, List.length_cons]
theorem runQ_not : ∀ (hex : Bool) (t r : Oc), t.all (dgt hex) = false → (59 : UInt8) ∉ t → runQ hex (t ++ 59 :: r) < t.length ∧ (t ++ 59 :: r).getD (runQ hex (t ++ 59 :: r)) 0 ≠ 59
 | hex, [], r, h, _ => by cases h
 | hex, c :: t, r, h, h59 => by
  unfold runQ
  rw [List.cons_append, List.takeWhile_cons]
  cases hc : dgt hex c with
  | false =>
   refine ⟨by simp, ?_⟩
   show c ≠ 59
   intro e; exact h59 (by simp [e])
  | true =>
   rw [List.all_cons, hc, Bool.true_and] at h
   obtain ⟨h1, h2⟩ := runQ_not hex t r h (fun h => h59 (by simp [h]))
   unfold runQ at h1 h2
   rw [if_pos rfl, List.length_cons, List.length_cons, List.getD_cons_succ]
   exact ⟨by omega, h2⟩
theorem vaM_num : ∀ (l : Oc) (n m : Nat), l.all (dgt false) = true → n < 10 ^ m → m + l.length ≤ 7 → vaM (n : Int) l = (numN false n l : Nat) ∧ numN false n l < 10 ^ (m + l.length)
 | [], n, m, _, hn, _ => ⟨rfl, hn⟩
 | c :: l, n, m, h, hn, hm => by
  rw [List.all_cons, Bool.and_eq_true] at h
  rw [List.length_cons] at hm
  obtain ⟨d1, d2⟩ := dg_eq c h.1
  have hp : 10 ^ m ≤ 10 ^ 6 := Nat.pow_le_pow_right (by decide) (by omega)
  have h6 : (10 : Nat) ^ 6 = 1000000 := by decide
  have e : vaS (n : Int) c = ((n * 10 + dvl c : Nat) : Int) := by
   unfold vaS
   rw [d2, wrap_of (n := (n : Int) * 10) (by omega) (by omega), wrap_of (by omega) (by omega)]
   omega
  have hn2 : n * 10 + dvl c < 10 ^ (m + 1) := by rw [Nat.pow_succ]; omega
  obtain ⟨g1, g2⟩ := vaM_num l (n * 10 + dvl c) (m + 1) h.2 hn2 (by omega)
  refine ⟨?_, ?_⟩
  · show vaM (vaS (n : Int) c) l = _
    rw [e, g1]; rfl
  · rw [numN_cons]
    show numN false (n * 10 + dvl c) l < _
    rw [List.length_cons, show m + (l.length + 1) = m + 1 + l.length by omega]
    exact g2
theorem hexS_num (n d : Nat) (hn : n < 268435456) (hd : d < 16) : hexS (n : Int) (d : Int) = ((n * 16 + d : Nat) : Int) := by
 unfold hexS
 rw [wrap_of (n := (n : Int) * 16) (by omega) (by omega)]
 have e1 : BitVec.ofInt 64 ((n : Int) * 16) = BitVec.ofNat 64 (n * 16) := by
  rw [show ((n : Int) * 16) = ((n * 16 : Nat) : Int) by omega, BitVec.ofInt_natCast]
 have e2 : BitVec.ofInt 64 (d : Int) = BitVec.ofNat 64 d := BitVec.ofInt_natCast _ _
 rw [e1, e2, ← BitVec.ofNat_or]
 have e3 : n * 16 ||| d = n * 16 + d := by
  have := Nat.shiftLeft_add_eq_or_of_lt (show d < 2 ^ 4 by omega) n
  rw [Nat.shiftLeft_eq] at this
  exact this.symm
 rw [e3, BitVec.toNat_ofNat, Nat.mod_eq_of_lt (by omega), wrap_of (by omega) (by omega)]
theorem uhM_num : ∀ (l : Oc) (n m : Nat), l.all (dgt true) = true → n < 16 ^ m → m + l.length ≤ 7 → uhM (n : Int) l = (true, ((numN true n l : Nat) : Int)) ∧ numN true n l < 16 ^ (m + l.length)
 | [], n, m, _, hn, _ => ⟨rfl, hn⟩
 | c :: l, n, m, h, hn, hm => by
  rw [List.all_cons, Bool.and_eq_true] at h
  rw [List.length_cons] at hm
  obtain ⟨d1, d2⟩ := hexD_eq c h.1
  have hp : 16 ^ m ≤ 16 ^ 6 := Nat.pow_le_pow_right (by decide) (by omega)
  have h6 : (16 : Nat) ^ 6 = 16777216 := by decide
  have e : hexS (n : Int) (hexD c) = ((n * 16 + dvl c : Nat) : Int) := by rw [d1]; exact hexS_num n _ (by omega) d2
  have hn2 : n * 16 + dvl c < 16 ^ (m + 1) := by rw [Nat.pow_succ]; omega
  obtain ⟨g1, g2⟩ := uhM_num l (n * 16 + dvl c) (m + 1) h.2 hn2 (by omega)
  refine ⟨?_, ?_⟩
  · rw [uhM, dF (show ¬ hexD c < 0 by rw [d1]; omega), cond_false, e, g1]; rfl
  · rw [numN_cons]
    show numN true (n * 16 + dvl c) l < _
    rw [List.length_cons, show m + (l.length + 1) = m + 1 + l.length by omega]
    exact g2
theorem valA_num (t : Oc) (hex : Bool) (ht : t ≠ []) (h : t.all (dgt hex) = true) (hl : t.length ≤ 7) : valA t hex = (numN hex 0 t : Nat) ∧ numN hex 0 t < 2147483648 := by
 have hb : (t == []) = false := by simpa using ht
 cases hex with
 | true =>
  obtain ⟨g1, g2⟩ := uhM_num t 0 0 h (by decide) (by omega)
  have hp : 16 ^ (0 + t.length) ≤ 16 ^ 7 := Nat.pow_le_pow_right (by decide) (by omega)
  have h7 : (16 : Nat) ^ 7 = 268435456 := by decide
  refine ⟨?_, by omega⟩
  unfold valA unhexM
  have g1' : uhM 0 t = (true, ((numN true 0 t : Nat) : Int)) := g1
  rw [hb, dF (show ¬ (t.length : Int) > 8 by omega), g1']; rfl
 | false =>
  obtain ⟨g1, g2⟩ := vaM_num t 0 0 h (by decide) (by omega)
  have hp : 10 ^ (0 + t.length) ≤ 10 ^ 7 := Nat.pow_le_pow_right (by decide) (by omega)
  have h7 : (10 : Nat) ^ 7 = 10000000 := by decide
  exact ⟨g1, by omega⟩
theorem onW4_Q (s t r : Oc) (at_ : Nat) (hex : Bool) (N : Nat) (h59 : (59 : UInt8) ∉ t) (hd : s.drop at_ = t ++ 59 :: r) (hN : N = at_ + t.length + 1) : onW4 t hex N = onQ s at_ hex := by
 have hlen : s.length = at_ + t.length + 1 + r.length := by
  have h1 := congrArg List.length hd
  rw [List.length_drop, List.length_append, List.length_cons] at h1
  omega
 have hg : ∀ n, s.getD (at_ + n) 0 = (t ++ 59 :: r).getD n 0 := fun n => by rw [← hd, List.getD_drop]
 unfold onW4 onQ
 rw [hg, hd, numB_eq]
 cases ha : t.all (dgt hex) with
 | false =>
  obtain ⟨g1, g2⟩ := runQ_not hex t r ha h59
  have e : ((t ++ 59 :: r).getD (runQ hex (t ++ 59 :: r)) 0 == 59) = false := by simpa using g2
  rw [e]
  simp
 | true =>
  rw [runQ_all hex t r ha]
  have e : ((t ++ 59 :: r).getD t.length 0 == 59) = true := by
   rw [List.getD_eq_getElem?_getD, List.getElem?_append_right (Nat.le_refl _), Nat.sub_self]; rfl
  rw [e, dT (show at_ + t.length < s.length by omega)]
  by_cases ht : t = []
  · subst ht; rfl
  have hp : 0 < t.length := List.length_pos_iff.2 ht
  have hb : (t == []) = false := by simpa using ht
  rw [hb, dT (show 1 ≤ t.length by omega)]
  by_cases h7 : t.length ≤ 7
  · rw [dT h7]
    obtain ⟨v1, v2⟩ := valA_num t hex ht ha h7
    have e2 : (t ++ 59 :: r).take t.length = t := List.take_left
    obtain ⟨x1, x2⟩ := enc_exact (n := ((numN hex 0 t : Nat) : Int)) (by omega) (by omega)
    rw [e2, v1, x1, x2, hN]
    unfold refC encXE encX
    have e3 : (((numN hex 0 t : Nat) : Int) == 0) = (numN hex 0 t == 0) := by
     rw [Bool.eq_iff_iff]; simp
    rw [e3]
    cases badR ((numN hex 0 t : Nat) : Int) with
    | true => rfl
    | false => cases numN hex 0 t == 0 <;> rfl
  · rw [dF h7]; simp
theorem pre_in {nm s : Oc} {c : UInt8} {k : Nat} (h : nm.isPrefixOf s = true) (hc : c ∈ nm) (hk : nm.length ≤ k) : c ∈ s.take k := by
 have hp : nm <+: s := List.isPrefixOf_iff_prefix.1 h
 obtain ⟨r, rfl⟩ := hp
 rw [List.take_append, List.take_of_length_le hk]
 exact List.mem_append_left _ hc
theorem isN (nm w r : Oc) (h1 : (59 : UInt8) ∉ nm) (h2 : (59 : UInt8) ∉ w) : (38 :: (nm ++ [59])).isPrefixOf (38 :: (w ++ 59 :: r)) = (w == nm) := by
 show ((38 : UInt8) == 38 && (nm ++ [59]).isPrefixOf (w ++ 59 :: r)) = _
 rw [pre_name nm w r h1 h2]; rfl
theorem oneW_Q (s : Oc) : oneW s = oneQ s := by
 cases h38 : s.getD 0 0 == 38 with
 | false =>
  unfold oneW oneQ
  rw [h38]
  have hp : ∀ l : Oc, (38 :: l).isPrefixOf s = false := fun l => by
   cases s with
   | nil => rfl
   | cons c u =>
    have hc : ((38 : UInt8) == c) = false := by
     rw [Bool.beq_comm]; exact h38
    show ((38 : UInt8) == c && _) = false
    rw [hc]; rfl
  rw [hp, hp, hp, hp, hp, hp]
  rfl
 | true =>
  obtain ⟨u, rfl⟩ : ∃ u, s = 38 :: u := by
   cases s with
   | nil => cases h38
   | cons c u => exact ⟨u, by rw [show c = 38 by simpa using h38]⟩
  have hW : oneW (38 :: u) = bif decide (ibM ((38 :: u).take 16) 59 < 0) then ([], 0) else onW2 (((38 :: u).take (ibM ((38 :: u).take 16) 59).toNat).drop 1) (ibM ((38 :: u).take 16) 59 + 1).toNat := rfl
  have hib : ibM ((38 :: u).take 16) 59 = Lib.indexByte ((38 :: u).take 16) 59 := rfl
  rw [hW, hib]
  rcases ib_split ((38 :: u).take 16) 59 with ⟨h1, h2⟩ | ⟨p, q, h1, h2, h3⟩
  · -- no end within sixteen
    rw [h1, dT (by decide), cond_true]
    have hno : ∀ nm : Oc, (59 : UInt8) ∈ nm → nm.length ≤ 16 → nm.isPrefixOf (38 :: u) = false := fun nm hm hl => by
     cases hp : nm.isPrefixOf (38 :: u) with
     | false => rfl
     | true => exact absurd (pre_in hp hm hl) h2
    unfold oneQ
    rw [hno _ (by decide) (by decide), hno _ (by decide) (by decide), hno _ (by decide) (by decide), hno _ (by decide) (by decide), hno _ (by decide) (by decide)]
    have hon : ∀ at_ hex, at_ ≤ 3 → onQ (38 :: u) at_ hex = ([], 0) := fun at_ hex hat => by
     unfold onQ
     generalize runQ hex ((38 :: u).drop at_) = n
     by_cases h7 : n ≤ 7
     · by_cases hlt : at_ + n < (38 :: u).length
       · have hne : ((38 :: u).getD (at_ + n) 0 == 59) = false := by
          simp only [beq_eq_false_iff_ne, ne_eq]
          intro e
          apply h2
          have hm : ((38 :: u).take 16)[at_ + n]? = some 59 := by
           rw [List.getElem?_take_of_lt (by omega), List.getElem?_eq_getElem hlt]
           rw [List.getD_eq_getElem?_getD, List.getElem?_eq_getElem hlt] at e
           simpa using e
          exact List.mem_of_getElem? hm
         rw [hne]; simp
       · rw [dF hlt]; simp
     · rw [dF h7]; simp
    rw [hon 3 true (by omega), hon 2 false (by omega)]
    simp only [cond_false]
    cases [38, 35].isPrefixOf (38 :: u) <;> cases hxQ (38 :: u) <;> rfl
  · -- the name
    obtain ⟨w, rfl⟩ : ∃ w, p = 38 :: w := by
     cases p with
     | nil => rw [List.nil_append, List.take_succ_cons, List.cons.injEq] at h1; exact absurd h1.1 (by decide)
     | cons c w => rw [List.cons_append, List.take_succ_cons, List.cons.injEq] at h1; exact ⟨w, by rw [h1.1]⟩
    have h59 : (59 : UInt8) ∉ w := fun h => h2 (by simp [h])
    obtain ⟨r, hr⟩ : ∃ r, u = w ++ 59 :: r := by
     refine ⟨q ++ (38 :: u).drop 16, ?_⟩
     have := (List.take_append_drop 16 (38 :: u)).symm
     rw [h1] at this
     simpa using this
    subst hr
    rw [h3, dF (by omega), cond_false, Int.toNat_natCast]
    have e1 : ((38 :: (w ++ 59 :: r)).take (38 :: w).length).drop 1 = w := by
     rw [List.length_cons, List.take_succ_cons, List.take_left]; rfl
    have e2 : (((38 :: w).length : Int) + 1).toNat = w.length + 2 := by rw [List.length_cons]; omega
    rw [e1, e2]
    unfold onW2 oneQ
    have i1 : [38, 97, 109, 112, 59].isPrefixOf (38 :: (w ++ 59 :: r)) = (w == [97, 109, 112]) := isN [97, 109, 112] w r (by decide) h59
    have i2 : [38, 108, 116, 59].isPrefixOf (38 :: (w ++ 59 :: r)) = (w == [108, 116]) := isN [108, 116] w r (by decide) h59
    have i3 : [38, 103, 116, 59].isPrefixOf (38 :: (w ++ 59 :: r)) = (w == [103, 116]) := isN [103, 116] w r (by decide) h59
    have i4 : [38, 113, 117, 111, 116, 59].isPrefixOf (38 :: (w ++ 59 :: r)) = (w == [113, 117, 111, 116]) := isN [113, 117, 111, 116] w r (by decide) h59
    have i5 : [38, 97, 112, 111, 115, 59].isPrefixOf (38 :: (w ++ 59 :: r)) = (w == [97, 112, 111, 115]) := isN [97, 112, 111, 115] w r (by decide) h59
    rw [i1, i2, i3, i4, i5]
    by_cases n1 : w = [97, 109, 112]
    · subst n1; rfl
    by_cases n2 : w = [108, 116]
    · subst n2; rfl
    by_cases n3 : w = [103, 116]
    · subst n3; rfl
    by_cases n4 : w = [113, 117, 111, 116]
    · subst n4; rfl
    by_cases n5 : w = [97, 112, 111, 115]
    · subst n5; rfl
    have m1 : (w == [97, 109, 112]) = false := by simpa using n1
    have m2 : (w == [108, 116]) = false := by simpa using n2
    have m3 : (w == [103, 116]) = false := by simpa using n3
    have m4 : (w == [113, 117, 111, 116]) = false := by simpa using n4
    have m5 : (w == [97, 112, 111, 115]) = false := by simpa using n5
    rw [m1, m2, m3, m4, m5]
    simp only [cond_false]
    have hsh : [38, 35].isPrefixOf (38 :: (w ++ 59 :: r)) = (w.take 1 == [35]) := by
     cases w with
     | nil => rfl
     | cons c v =>
      show ((38 : UInt8) == 38 && ((35 : UInt8) == c && true)) = (c == 35 && true)
      rw [Bool.and_true, Bool.and_true, Bool.beq_comm (a := (35 : UInt8))]; rfl
    rw [hsh]
    cases hs : w.take 1 == [35] with
    | false => rfl
    | true =>
     obtain ⟨v, rfl⟩ : ∃ v, w = 35 :: v := by
      cases w with
      | nil => cases hs
      | cons c v => exact ⟨v, by rw [show c = 35 by simpa using hs]⟩
     simp only [Bool.not_true, cond_false]
     have hv : (59 : UInt8) ∉ v := fun h => h59 (by simp [h])
     show onW3 v ((35 :: v).length + 2) = _
     unfold onW3
     have hx : hxQ (38 :: (35 :: v ++ 59 :: r)) = (!(v == []) && isX (v.getD 0 0)) := by
      unfold hxQ
      rw [isX_eq, dT (by simp; omega), Bool.true_and]
      cases v with
      | nil => rfl
      | cons c t => rfl
     rw [hx]
     cases hc : !(v == []) && isX (v.getD 0 0) with
     | true =>
      cases v with
      | nil => cases hc
      | cons c t =>
       simp only [cond_true]
       exact onW4_Q _ t r 3 true _ (fun h => hv (by simp [h])) rfl (by simp only [List.length_cons]; omega)
     | false =>
      simp only [cond_false]
      exact onW4_Q _ v r 2 false _ hv rfl (by simp only [List.length_cons]; omega)
end Go.Mu
namespace Go.Mu
open Go Go.Proofs
theorem bo8' {x : Int} (h1 : 0 ≤ x) (h2 : x < 256) : byteOf [AVal.int .u8 (IntKind.u8.wrap (IntKind.i64.wrap x))] = x.toNat.toUInt8 := by
 rw [wrap_of (by omega) (by omega), wrap8, show x % 256 = x by omega]
 rfl
theorem rEn_exact (n : Int) (h0 : 0 ≤ n) (h : n ≤ 2147483647) (k : Out → Ans) : iFun Tryz.prog (Lay.nil.hd Tryz.prog) Lay.nil.fhs 0 29 [.int .i64 n] [] k = k (.ret (.tuple [.str (encX n), .int .i64 (encXE n)]) []) := by
 refine (rEn_fun n k).trans ?_
 have f1 : IntKind.i64.wrap (n.tdiv 64) = n / 64 := by rw [Int.tdiv_eq_ediv_of_nonneg h0, wrap_of (by omega) (by omega)]
 have f2 : IntKind.i64.wrap (n.tdiv 4096) = n / 4096 := by rw [Int.tdiv_eq_ediv_of_nonneg h0, wrap_of (by omega) (by omega)]
 have f3 : IntKind.i64.wrap (n.tdiv 262144) = n / 262144 := by rw [Int.tdiv_eq_ediv_of_nonneg h0, wrap_of (by omega) (by omega)]
 have m1 : n.tmod 64 = n % 64 := Int.tmod_eq_emod_of_nonneg h0
 have m2 : (n / 64).tmod 64 = n / 64 % 64 := Int.tmod_eq_emod_of_nonneg (by omega)
 have m3 : (n / 4096).tmod 64 = n / 4096 % 64 := Int.tmod_eq_emod_of_nonneg (by omega)
 simp only [f1, f2, f3, m1, m2, m3, Bool.and_false, Bool.not_false, cond_true]
 unfold encX encXE badR
 by_cases hb : n > 1114111
 · simp (disch := omega) only [dT, dF, cond_true, cond_false, Bool.or_true, Bool.true_or, Bool.false_or, Bool.or_false]
 by_cases hs : 55296 ≤ n ∧ n ≤ 57343
 · obtain ⟨hs1, hs2⟩ := hs
   simp (disch := omega) only [dT, dF, cond_true, cond_false, Bool.or_true, Bool.true_or, Bool.false_or, Bool.or_false, Bool.and_self]
 have hsb : (decide (55296 ≤ n) && decide (n ≤ 57343)) = false := by
  by_cases h1 : 55296 ≤ n
  · rw [dF (show ¬ n ≤ 57343 by omega), Bool.and_false]
  · rw [dF h1, Bool.false_and]
 have hsc : (bif decide (n ≥ 55296) then decide (n ≤ 57343) else false) = false := by rw [bif_and]; exact hsb
 rw [hsb, hsc, dF (show ¬ n < 0 by omega), dF hb]
 simp only [cond_false, Bool.or_self]
 have fin : ∀ (t : Oc), t = Lib.encodeRune n → k (Out.ret (AVal.tuple [AVal.str t, AVal.int .i64 0]) []) = k (Out.ret (AVal.tuple [AVal.str (Lib.encodeRune n), AVal.int .i64 0]) []) := fun t e => by rw [e]
 by_cases h1 : n ≤ 127
 · simp (disch := omega) only [dT, dF, cond_true, cond_false]
   refine fin _ ?_
   unfold Lib.encodeRune
   rw [Lib.encodeRuneZ_one h0 h1]
   show [UInt8.ofNat (IntKind.u8.wrap n).toNat] = [n.toNat.toUInt8]
   rw [wrap8, show n % 256 = n by omega, Nat.toUInt8]
 by_cases h2 : n ≤ 2047
 · simp (disch := omega) only [dT, dF, cond_true, cond_false]
   refine fin _ ?_
   unfold Lib.encodeRune
   rw [Lib.encodeRuneZ_two (by omega) h2, bo8' (by omega) (by omega), bo8' (by omega) (by omega)]
   rfl
 by_cases h3 : n ≤ 65535
 · simp (disch := omega) only [dT, dF, cond_true, cond_false]
   refine fin _ ?_
   unfold Lib.encodeRune
   rw [Lib.encodeRuneZ_three (by omega), bo8' (by omega) (by omega), bo8' (by omega) (by omega), bo8' (by omega) (by omega)]
   rfl
 simp (disch := omega) only [dT, dF, cond_true, cond_false]
 refine fin _ ?_
 unfold Lib.encodeRune
 rw [Lib.encodeRuneZ_four (by omega) (by omega), bo8' (by omega) (by omega), bo8' (by omega) (by omega), bo8' (by omega) (by omega), bo8' (by omega) (by omega)]
 rfl
theorem encrTold_ok : ∀ xs H k out, encrTold encX encXE xs H k = some out → ∃ o, CallOK Tryz.prog 29 xs H o ∧ k o = some out := mkFS_ok fun ys xs e h => by
 obtain ⟨n, rfl⟩ : ∃ n, xs = [.int .i64 n] := ⟨_, e⟩
 rw [decide_eq_true_eq] at h
 exact ⟨_, fun k => rfl, Lay.nil_ok.callF (G := []) rfl (fun k => rEn_exact n h.1 h.2 k)⟩
theorem and31 (c : UInt8) : IntKind.i64.wrap ((BitVec.ofInt 64 (IntKind.i64.wrap (c.toNat : Int)) &&& BitVec.ofInt 64 31).toNat : Int) = ((c.toNat % 32 : Nat) : Int) := oct256 (p := fun c => IntKind.i64.wrap ((BitVec.ofInt 64 (IntKind.i64.wrap (c.toNat : Int)) &&& BitVec.ofInt 64 31).toNat : Int) = ((c.toNat % 32 : Nat) : Int)) (by decide +kernel) c
theorem and127 (c : UInt8) : IntKind.i64.wrap ((BitVec.ofInt 64 (IntKind.i64.wrap (c.toNat : Int)) &&& BitVec.ofInt 64 127).toNat : Int) = ((c.toNat % 128 : Nat) : Int) := oct256 (p := fun c => IntKind.i64.wrap ((BitVec.ofInt 64 (IntKind.i64.wrap (c.toNat : Int)) &&& BitVec.ofInt 64 127).toNat : Int) = ((c.toNat % 128 : Nat) : Int)) (by decide +kernel) c
theorem and15 (c : UInt8) : IntKind.i64.wrap ((BitVec.ofInt 64 (IntKind.i64.wrap (c.toNat : Int)) &&& BitVec.ofInt 64 15).toNat : Int) = ((c.toNat % 16 : Nat) : Int) := oct256 (p := fun c => IntKind.i64.wrap ((BitVec.ofInt 64 (IntKind.i64.wrap (c.toNat : Int)) &&& BitVec.ofInt 64 15).toNat : Int) = ((c.toNat % 16 : Nat) : Int)) (by decide +kernel) c
theorem and7 (c : UInt8) : IntKind.i64.wrap ((BitVec.ofInt 64 (IntKind.i64.wrap (c.toNat : Int)) &&& BitVec.ofInt 64 7).toNat : Int) = ((c.toNat % 8 : Nat) : Int) := oct256 (p := fun c => IntKind.i64.wrap ((BitVec.ofInt 64 (IntKind.i64.wrap (c.toNat : Int)) &&& BitVec.ofInt 64 7).toNat : Int) = ((c.toNat % 8 : Nat) : Int)) (by decide +kernel) c
theorem encX_good {n : Int} (h0 : 0 ≤ n) (h : n ≤ 1114111) (h2 : ¬ (55296 ≤ n ∧ n ≤ 57343)) : encX n = Lib.encodeRune n ∧ (encXE n != 0) = false := by
 have : badR n = false := by
  unfold badR
  rw [dF (show ¬ n < 0 by omega), dF (show ¬ n > 1114111 by omega)]
  by_cases h1 : 55296 ≤ n
  · rw [dF (show ¬ n ≤ 57343 by omega)]; simp
  · rw [dF h1]; rfl
 unfold encX encXE
 rw [this]
 exact ⟨rfl, rfl⟩
theorem encX_bad {n : Int} (h : n > 1114111 ∨ (55296 ≤ n ∧ n ≤ 57343)) : (encXE n != 0) = true := by
 have : badR n = true := by
  unfold badR
  rcases h with h | h
  · rw [dT h]; simp
  · rw [dT h.1, dT h.2]; simp
 unfold encXE
 rw [this]
 rfl
theorem u8_of (x : UInt8) {z : Int} (h : z = x.toNat) : z.toNat.toUInt8 = x := by
 rw [h, Int.toNat_natCast]
 exact UInt8.ofNat_toNat
theorem dgo_N (s : Oc) (h : s ≠ []) : Lib.decodeGo (ba s) = Lib.decodeN s.length (s.getD 0 0).toNat (s.getD 1 0).toNat (s.getD 2 0).toNat (s.getD 3 0).toNat := by
 have hl : 0 < s.length := List.length_pos_iff.2 h
 unfold Lib.decodeGo
 rw [if_neg (by rw [ba_size]; omega), Lib.decode_N]
 rfl
theorem take1 (s : Oc) (h : 1 ≤ s.length) : s.take 1 = [s.getD 0 0] := by
 match s, h with
 | a :: t, _ => rfl
theorem take2 (s : Oc) (h : 2 ≤ s.length) : s.take 2 = [s.getD 0 0, s.getD 1 0] := by
 match s, h with
 | a :: b :: t, _ => rfl
theorem take3 (s : Oc) (h : 3 ≤ s.length) : s.take 3 = [s.getD 0 0, s.getD 1 0, s.getD 2 0] := by
 match s, h with
 | a :: b :: c :: t, _ => rfl
theorem take4 (s : Oc) (h : 4 ≤ s.length) : s.take 4 = [s.getD 0 0, s.getD 1 0, s.getD 2 0, s.getD 3 0] := by
 match s, h with
 | a :: b :: c :: d :: t, _ => rfl
theorem decN_bad {s : ByteArray} (h : Lib.decodeGo s = (65533, 1)) : decC s = -1 ∧ (Lib.decodeGo s).2 = 1 := by
 unfold decC
 rw [h]
 exact ⟨rfl, rfl⟩
theorem decN_good {s : ByteArray} {c n : Nat} (h : Lib.decodeGo s = (c, n)) (h2 : ¬ (c = 65533 ∧ n < 2)) : decC s = (c : Nat) ∧ (Lib.decodeGo s).2 = n := by
 unfold decC
 rw [h]
 exact ⟨if_neg h2, rfl⟩
theorem enc_len1 (n : Int) (h0 : 0 ≤ n) (h : n ≤ 127) : (Lib.encodeRune n).length = 1 := by unfold Lib.encodeRune; rw [Lib.encodeRuneZ_one h0 h]; rfl
theorem enc_len2 (n : Int) (h0 : 128 ≤ n) (h : n ≤ 2047) : (Lib.encodeRune n).length = 2 := by unfold Lib.encodeRune; rw [Lib.encodeRuneZ_two h0 h]; rfl
theorem enc_len3 (n : Int) (h : (2048 ≤ n ∧ n < 55296) ∨ (57343 < n ∧ n ≤ 65535)) : (Lib.encodeRune n).length = 3 := by unfold Lib.encodeRune; rw [Lib.encodeRuneZ_three h]; rfl
theorem ne_len {a b : Oc} (h : a.length ≠ b.length) : (a == b) = false := by
 rw [beq_eq_false_iff_ne]
 exact fun e => h (by rw [e])
set_option maxHeartbeats 4000000 in
theorem rdec_call (s : Oc) (hs : s.length ≤ 1099511627776) (k : Out → Ans) : iFun Tryz.prog ((layRd0 encX encXE).hd Tryz.prog) (layRd0 encX encXE).fhs 9 60 [.str s] [] k = k (.ret (.tuple [.int .i64 (decC (ba s)), .int .i64 ((Lib.decodeGo (ba s)).2 : Nat)]) []) := by
 by_cases hne : s = []
 · subst hne
   have e1 : decC (ba []) = -1 := rfl
   have e2 : (Lib.decodeGo (ba [])).2 = 0 := rfl
   rw [e1, e2]
   exact rdec_fun encX encXE [] k _ rfl _ rfl _ rfl _ rfl _ rfl _ rfl _ rfl _ rfl _ rfl _ rfl _ rfl _ rfl _ rfl _ rfl _ rfl _ rfl _ rfl _ rfl _ rfl _ rfl _ rfl _ rfl _ rfl _ rfl _ rfl _ rfl
 have hl : 0 < s.length := List.length_pos_iff.2 hne
 have hD := dgo_N s hne
 have h0 := UInt8.toNat_lt (s.getD 0 0)
 have h1 := UInt8.toNat_lt (s.getD 1 0)
 have h2 := UInt8.toNat_lt (s.getD 2 0)
 have h3 := UInt8.toNat_lt (s.getD 3 0)
 have m0 := and127 (s.getD 0 0)
 have m1 := and31 (s.getD 0 0)
 have m2 := and15 (s.getD 0 0)
 have m3 := and7 (s.getD 0 0)
 have t1 := take1 s hl
 have t2 := take2 s
 have t3 := take3 s
 have t4 := take4 s
 have u0 := @u8_of (s.getD 0 0)
 have u1 := @u8_of (s.getD 1 0)
 have u2 := @u8_of (s.getD 2 0)
 have u3 := @u8_of (s.getD 3 0)
 have es : (s == []) = false := by simp [hne]
 obtain ⟨x0, e0⟩ : ∃ x, s.getD 0 0 = x := ⟨_, rfl⟩
 obtain ⟨x1, e1⟩ : ∃ x, s.getD 1 0 = x := ⟨_, rfl⟩
 obtain ⟨x2, e2⟩ : ∃ x, s.getD 2 0 = x := ⟨_, rfl⟩
 obtain ⟨x3, e3⟩ : ∃ x, s.getD 3 0 = x := ⟨_, rfl⟩
 rw [e0] at h0 m0 m1 m2 m3
 rw [e1] at h1
 rw [e2] at h2
 rw [e3] at h3
 rw [e0] at u0
 rw [e1] at u1
 rw [e2] at u2
 rw [e3] at u3
 rw [e0] at t1
 rw [e0, e1] at t2
 rw [e0, e1, e2] at t3
 rw [e0, e1, e2, e3] at t4
 rw [e0, e1, e2, e3] at hD
 obtain ⟨n, en⟩ : ∃ n : Nat, s.length = n := ⟨_, rfl⟩
 obtain ⟨b0, f0⟩ : ∃ n : Nat, x0.toNat = n := ⟨_, rfl⟩
 obtain ⟨b1, f1⟩ : ∃ n : Nat, x1.toNat = n := ⟨_, rfl⟩
 obtain ⟨b2, f2⟩ : ∃ n : Nat, x2.toNat = n := ⟨_, rfl⟩
 obtain ⟨b3, f3⟩ : ∃ n : Nat, x3.toNat = n := ⟨_, rfl⟩
 rw [en, f0, f1, f2, f3] at hD
 rw [f0] at h0 m0 m1 m2 m3
 rw [f1] at h1
 rw [f2] at h2
 rw [f3] at h3
 rw [en] at t2 t3 t4 hl hs
 simp only [f0] at u0
 simp only [f1] at u1
 simp only [f2] at u2
 simp only [f3] at u3
 have w1 : IntKind.i64.wrap ((b1 : Nat) : Int) = b1 := wrap_of (by omega) (by omega)
 have w2 : IntKind.i64.wrap ((b2 : Nat) : Int) = b2 := wrap_of (by omega) (by omega)
 have w3 : IntKind.i64.wrap ((b3 : Nat) : Int) = b3 := wrap_of (by omega) (by omega)
 refine (rdec_fun encX encXE s k (n : Int) (by rw [en]) _ rfl (b0 : Int) (by rw [e0, f0]) ((b0 % 128 : Nat) : Int) m0.symm _ rfl _ rfl (b1 : Int) (by rw [e1, f1]) _ rfl _ rfl _ rfl (b1 : Int) w1.symm (((b0 % 32 : Nat) : Int) * 64 + b1 - 128) (by rw [m1, wrap_of (n := ((b0 % 32 : Nat) : Int) * 64) (by omega) (by omega), wrap_of (n := ((b0 % 32 : Nat) : Int) * 64 + b1) (by omega) (by omega), wrap_of (by omega) (by omega)])
  _ rfl _ rfl (b2 : Int) (by rw [e2, f2]) _ rfl _ rfl _ rfl (b2 : Int) w2.symm ((((b0 % 16 : Nat) : Int) * 64 + b1 - 128) * 64 + b2 - 128) (by rw [m2, wrap_of (n := ((b0 % 16 : Nat) : Int) * 64) (by omega) (by omega), wrap_of (n := ((b0 % 16 : Nat) : Int) * 64 + b1) (by omega) (by omega), wrap_of (n := ((b0 % 16 : Nat) : Int) * 64 + b1 - 128) (by omega) (by omega), wrap_of (n := (((b0 % 16 : Nat) : Int) * 64 + b1 - 128) * 64) (by omega) (by omega), wrap_of (n := (((b0 % 16 : Nat) : Int) * 64 + b1 - 128) * 64 + b2) (by omega) (by omega), wrap_of (by omega) (by omega)])
  _ rfl _ rfl (b3 : Int) (by rw [e3, f3]) _ rfl (((((b0 % 8 : Nat) : Int) * 64 + b1 - 128) * 64 + b2 - 128) * 64 + b3 - 128) (by rw [m3, w3, wrap_of (n := ((b0 % 8 : Nat) : Int) * 64) (by omega) (by omega), wrap_of (n := ((b0 % 8 : Nat) : Int) * 64 + b1) (by omega) (by omega), wrap_of (n := ((b0 % 8 : Nat) : Int) * 64 + b1 - 128) (by omega) (by omega), wrap_of (n := (((b0 % 8 : Nat) : Int) * 64 + b1 - 128) * 64) (by omega) (by omega), wrap_of (n := (((b0 % 8 : Nat) : Int) * 64 + b1 - 128) * 64 + b2) (by omega) (by omega), wrap_of (n := (((b0 % 8 : Nat) : Int) * 64 + b1 - 128) * 64 + b2 - 128) (by omega) (by omega), wrap_of (n := ((((b0 % 8 : Nat) : Int) * 64 + b1 - 128) * 64 + b2 - 128) * 64) (by omega) (by omega), wrap_of (n := ((((b0 % 8 : Nat) : Int) * 64 + b1 - 128) * 64 + b2 - 128) * 64 + b3) (by omega) (by omega), wrap_of (by omega) (by omega)]) _ rfl).trans ?_
 have d0 : Int.toNat 0 = 0 := rfl
 have d1 : Int.toNat 1 = 1 := rfl
 have d2 : Int.toNat 2 = 2 := rfl
 have d3 : Int.toNat 3 = 3 := rfl
 have d4 : Int.toNat 4 = 4 := rfl
 simp only [es, cond_false, d0, d1, d2, d3, d4, List.drop_zero]
 unfold Lib.decodeN at hD
 have bad : Lib.decodeGo (ba s) = (65533, 1) → k (.ret (.tuple [.int .i64 (-1), .int .i64 1]) []) = k (.ret (.tuple [.int .i64 (decC (ba s)), .int .i64 ((Lib.decodeGo (ba s)).2 : Nat)]) []) := fun h => by rw [(decN_bad h).1, (decN_bad h).2]; rfl
 have good : ∀ (c m : Nat) (z : Int), Lib.decodeGo (ba s) = (c, m) → ¬ (c = 65533 ∧ m < 2) → z = c → k (.ret (.tuple [.int .i64 z, .int .i64 (m : Nat)]) []) = k (.ret (.tuple [.int .i64 (decC (ba s)), .int .i64 ((Lib.decodeGo (ba s)).2 : Nat)]) []) := fun c m z h h2 h3 => by rw [(decN_good h h2).1, (decN_good h h2).2, h3]
 by_cases c1 : b0 < 128
 · rw [if_pos c1] at hD
   obtain ⟨g1, g2⟩ := encX_good (n := ((b0 % 128 : Nat) : Int)) (by omega) (by omega) (by omega)
   have g3 : Lib.encodeRune ((b0 % 128 : Nat) : Int) = [x0] := by
    unfold Lib.encodeRune
    rw [Lib.encodeRuneZ_one (by omega) (by omega)]
    show [((b0 % 128 : Nat) : Int).toNat.toUInt8] = [x0]
    rw [u0 (z := ((b0 % 128 : Nat) : Int)) (by omega)]
   simp (disch := omega) only [dT, dF, cond_true, cond_false, g1, g2, g3, t1, beq_self_eq_true, Bool.not_true, Bool.true_or]
   exact good b0 1 _ hD (by omega) (by omega)
 rw [if_neg c1] at hD
 by_cases c2 : 194 ≤ b0 ∧ b0 < 224
 · by_cases hn : 2 > n
   · simp (disch := omega) only [dT, dF, cond_true, cond_false, Bool.true_or, Bool.or_true, Bool.not_false, Bool.not_true, Bool.or_self, Bool.or_false, Bool.false_or, Bool.not_not]
     exact bad (by rw [hD]; (repeat' split) <;> first | rfl | (exfalso; omega))
   by_cases q1 : b1 < 128
   · simp (disch := omega) only [dT, dF, cond_true, cond_false, Bool.true_or, Bool.or_true, Bool.not_false, Bool.not_true, Bool.or_self, Bool.or_false, Bool.false_or, Bool.not_not]
     exact bad (by rw [hD]; (repeat' split) <;> first | rfl | (exfalso; omega))
   by_cases p1 : b1 > 191
   · simp (disch := omega) only [dT, dF, cond_true, cond_false, Bool.true_or, Bool.or_true, Bool.not_false, Bool.not_true, Bool.or_self, Bool.or_false, Bool.false_or, Bool.not_not]
     exact bad (by rw [hD]; (repeat' split) <;> first | rfl | (exfalso; omega))
   have hN := t2 (by omega)
   obtain ⟨z, hz⟩ : ∃ z : Int, z = ((b0 % 32 : Nat) : Int) * 64 + b1 - 128 := ⟨_, rfl⟩
   rw [← hz]
   have hzc : z = ((b0 % 32 * 64 + b1 % 64 : Nat) : Int) := by omega
   obtain ⟨g1, g2⟩ := encX_good (n := z) (by omega) (by omega) (by omega)
   have g3 : Lib.encodeRune z = [x0, x1] := by
    unfold Lib.encodeRune
    rw [Lib.encodeRuneZ_two (by omega) (by omega)]
    show [(192 + z / 64).toNat.toUInt8, (128 + z % 64).toNat.toUInt8] = _
    rw [u0 (z := 192 + z / 64) (by omega), u1 (z := 128 + z % 64) (by omega)]
   simp (disch := omega) only [dT, dF, cond_true, cond_false, Bool.true_or, Bool.or_true, Bool.not_false, Bool.not_true, Bool.or_self, Bool.or_false, Bool.false_or, Bool.not_not, g1, g2, g3, hN, beq_self_eq_true]
   exact good (b0 % 32 * 64 + b1 % 64) 2 z (by rw [hD]; (repeat' split) <;> first | rfl | (exfalso; omega)) (by omega) hzc
 by_cases c3 : 224 ≤ b0 ∧ b0 < 240
 · by_cases hn : 3 > n
   · simp (disch := omega) only [dT, dF, cond_true, cond_false, Bool.true_or, Bool.or_true, Bool.not_false, Bool.not_true, Bool.or_self, Bool.or_false, Bool.false_or, Bool.not_not]
     exact bad (by rw [hD]; (repeat' split) <;> first | rfl | (exfalso; omega))
   by_cases q1 : b1 < 128
   · simp (disch := omega) only [dT, dF, cond_true, cond_false, Bool.true_or, Bool.or_true, Bool.not_false, Bool.not_true, Bool.or_self, Bool.or_false, Bool.false_or, Bool.not_not]
     exact bad (by rw [hD]; (repeat' split) <;> first | rfl | (exfalso; omega))
   by_cases p1 : b1 > 191
   · simp (disch := omega) only [dT, dF, cond_true, cond_false, Bool.true_or, Bool.or_true, Bool.not_false, Bool.not_true, Bool.or_self, Bool.or_false, Bool.false_or, Bool.not_not]
     exact bad (by rw [hD]; (repeat' split) <;> first | rfl | (exfalso; omega))
   by_cases q2 : b2 < 128
   · simp (disch := omega) only [dT, dF, cond_true, cond_false, Bool.true_or, Bool.or_true, Bool.not_false, Bool.not_true, Bool.or_self, Bool.or_false, Bool.false_or, Bool.not_not]
     exact bad (by rw [hD]; (repeat' split) <;> first | rfl | (exfalso; omega))
   by_cases p2 : b2 > 191
   · simp (disch := omega) only [dT, dF, cond_true, cond_false, Bool.true_or, Bool.or_true, Bool.not_false, Bool.not_true, Bool.or_self, Bool.or_false, Bool.false_or, Bool.not_not]
     exact bad (by rw [hD]; (repeat' split) <;> first | rfl | (exfalso; omega))
   have hN := t3 (by omega)
   obtain ⟨z, hz⟩ : ∃ z : Int, z = (((b0 % 16 : Nat) : Int) * 64 + b1 - 128) * 64 + b2 - 128 := ⟨_, rfl⟩
   rw [← hz]
   have hzc : z = ((b0 % 16 * 4096 + b1 % 64 * 64 + b2 % 64 : Nat) : Int) := by omega
   by_cases r1 : z < 2048
   · obtain ⟨g1, g2⟩ := encX_good (n := z) (by omega) (by omega) (by omega)
     have g3 : (Lib.encodeRune z == [x0, x1, x2]) = false := by
      by_cases r0 : z ≤ 127
      · exact ne_len (by rw [enc_len1 z (by omega) r0]; simp)
      · exact ne_len (by rw [enc_len2 z (by omega) (by omega)]; simp)
     simp (disch := omega) only [dT, dF, cond_true, cond_false, Bool.true_or, Bool.or_true, Bool.not_false, Bool.not_true, Bool.or_self, Bool.or_false, Bool.false_or, Bool.not_not, g1, g2, hN, g3]
     exact bad (by rw [hD]; (repeat' split) <;> first | rfl | (exfalso; omega))
   by_cases r2 : 55296 ≤ z ∧ z ≤ 57343
   · have g2 := encX_bad (n := z) (.inr r2)
     simp (disch := omega) only [dT, dF, cond_true, cond_false, Bool.true_or, Bool.or_true, Bool.not_false, Bool.not_true, Bool.or_self, Bool.or_false, Bool.false_or, Bool.not_not, g2]
     exact bad (by rw [hD]; (repeat' split) <;> first | rfl | (exfalso; omega))
   obtain ⟨g1, g2⟩ := encX_good (n := z) (by omega) (by omega) (by omega)
   have g3 : Lib.encodeRune z = [x0, x1, x2] := by
    unfold Lib.encodeRune
    rw [Lib.encodeRuneZ_three (by omega)]
    show [(224 + z / 4096).toNat.toUInt8, (128 + z / 64 % 64).toNat.toUInt8, (128 + z % 64).toNat.toUInt8] = _
    rw [u0 (z := 224 + z / 4096) (by omega), u1 (z := 128 + z / 64 % 64) (by omega), u2 (z := 128 + z % 64) (by omega)]
   simp (disch := omega) only [dT, dF, cond_true, cond_false, Bool.true_or, Bool.or_true, Bool.not_false, Bool.not_true, Bool.or_self, Bool.or_false, Bool.false_or, Bool.not_not, g1, g2, g3, hN, beq_self_eq_true]
   exact good (b0 % 16 * 4096 + b1 % 64 * 64 + b2 % 64) 3 z (by rw [hD]; (repeat' split) <;> first | rfl | (exfalso; omega)) (by omega) hzc
 by_cases c4 : 240 ≤ b0 ∧ b0 < 245
 · by_cases hn : 4 > n
   · simp (disch := omega) only [dT, dF, cond_true, cond_false, Bool.true_or, Bool.or_true, Bool.not_false, Bool.not_true, Bool.or_self, Bool.or_false, Bool.false_or, Bool.not_not]
     exact bad (by rw [hD]; (repeat' split) <;> first | rfl | (exfalso; omega))
   by_cases q1 : b1 < 128
   · simp (disch := omega) only [dT, dF, cond_true, cond_false, Bool.true_or, Bool.or_true, Bool.not_false, Bool.not_true, Bool.or_self, Bool.or_false, Bool.false_or, Bool.not_not]
     exact bad (by rw [hD]; (repeat' split) <;> first | rfl | (exfalso; omega))
   by_cases p1 : b1 > 191
   · simp (disch := omega) only [dT, dF, cond_true, cond_false, Bool.true_or, Bool.or_true, Bool.not_false, Bool.not_true, Bool.or_self, Bool.or_false, Bool.false_or, Bool.not_not]
     exact bad (by rw [hD]; (repeat' split) <;> first | rfl | (exfalso; omega))
   by_cases q2 : b2 < 128
   · simp (disch := omega) only [dT, dF, cond_true, cond_false, Bool.true_or, Bool.or_true, Bool.not_false, Bool.not_true, Bool.or_self, Bool.or_false, Bool.false_or, Bool.not_not]
     exact bad (by rw [hD]; (repeat' split) <;> first | rfl | (exfalso; omega))
   by_cases p2 : b2 > 191
   · simp (disch := omega) only [dT, dF, cond_true, cond_false, Bool.true_or, Bool.or_true, Bool.not_false, Bool.not_true, Bool.or_self, Bool.or_false, Bool.false_or, Bool.not_not]
     exact bad (by rw [hD]; (repeat' split) <;> first | rfl | (exfalso; omega))
   by_cases q3 : b3 < 128
   · simp (disch := omega) only [dT, dF, cond_true, cond_false, Bool.true_or, Bool.or_true, Bool.not_false, Bool.not_true, Bool.or_self, Bool.or_false, Bool.false_or, Bool.not_not]
     exact bad (by rw [hD]; (repeat' split) <;> first | rfl | (exfalso; omega))
   by_cases p3 : b3 > 191
   · simp (disch := omega) only [dT, dF, cond_true, cond_false, Bool.true_or, Bool.or_true, Bool.not_false, Bool.not_true, Bool.or_self, Bool.or_false, Bool.false_or, Bool.not_not]
     exact bad (by rw [hD]; (repeat' split) <;> first | rfl | (exfalso; omega))
   have hN := t4 (by omega)
   obtain ⟨z, hz⟩ : ∃ z : Int, z = ((((b0 % 8 : Nat) : Int) * 64 + b1 - 128) * 64 + b2 - 128) * 64 + b3 - 128 := ⟨_, rfl⟩
   rw [← hz]
   have hzc : z = ((b0 % 8 * 262144 + b1 % 64 * 4096 + b2 % 64 * 64 + b3 % 64 : Nat) : Int) := by omega
   by_cases r1 : z < 65536
   · by_cases r2 : 55296 ≤ z ∧ z ≤ 57343
     · have g2 := encX_bad (n := z) (.inr r2)
       simp (disch := omega) only [dT, dF, cond_true, cond_false, Bool.true_or, Bool.or_true, Bool.not_false, Bool.not_true, Bool.or_self, Bool.or_false, Bool.false_or, Bool.not_not, g2]
       exact bad (by rw [hD]; (repeat' split) <;> first | rfl | (exfalso; omega))
     obtain ⟨g1, g2⟩ := encX_good (n := z) (by omega) (by omega) (by omega)
     have g3 : (Lib.encodeRune z == [x0, x1, x2, x3]) = false := by
      by_cases r0 : z ≤ 127
      · exact ne_len (by rw [enc_len1 z (by omega) r0]; simp)
      by_cases r00 : z ≤ 2047
      · exact ne_len (by rw [enc_len2 z (by omega) (by omega)]; simp)
      · exact ne_len (by rw [enc_len3 z (by omega)]; simp)
     simp (disch := omega) only [dT, dF, cond_true, cond_false, Bool.true_or, Bool.or_true, Bool.not_false, Bool.not_true, Bool.or_self, Bool.or_false, Bool.false_or, Bool.not_not, g1, g2, hN, g3]
     exact bad (by rw [hD]; (repeat' split) <;> first | rfl | (exfalso; omega))
   by_cases r2 : z > 1114111
   · have g2 := encX_bad (n := z) (.inl r2)
     simp (disch := omega) only [dT, dF, cond_true, cond_false, Bool.true_or, Bool.or_true, Bool.not_false, Bool.not_true, Bool.or_self, Bool.or_false, Bool.false_or, Bool.not_not, g2]
     exact bad (by rw [hD]; (repeat' split) <;> first | rfl | (exfalso; omega))
   obtain ⟨g1, g2⟩ := encX_good (n := z) (by omega) (by omega) (by omega)
   have g3 : Lib.encodeRune z = [x0, x1, x2, x3] := by
    unfold Lib.encodeRune
    rw [Lib.encodeRuneZ_four (by omega) (by omega)]
    show [(240 + z / 262144).toNat.toUInt8, (128 + z / 4096 % 64).toNat.toUInt8, (128 + z / 64 % 64).toNat.toUInt8, (128 + z % 64).toNat.toUInt8] = _
    rw [u0 (z := 240 + z / 262144) (by omega), u1 (z := 128 + z / 4096 % 64) (by omega), u2 (z := 128 + z / 64 % 64) (by omega), u3 (z := 128 + z % 64) (by omega)]
   simp (disch := omega) only [dT, dF, cond_true, cond_false, Bool.true_or, Bool.or_true, Bool.not_false, Bool.not_true, Bool.or_self, Bool.or_false, Bool.false_or, Bool.not_not, g1, g2, g3, hN, beq_self_eq_true]
   exact good (b0 % 8 * 262144 + b1 % 64 * 4096 + b2 % 64 * 64 + b3 % 64) 4 z (by rw [hD]; (repeat' split) <;> first | rfl | (exfalso; omega)) (by omega) hzc
 have k1 : (bif decide ((b0 : Int) ≥ 194) then decide ((b0 : Int) < 224) else false) = false := by
  by_cases h : (b0 : Int) ≥ 194
  · rw [dT h, dF (show ¬ (b0 : Int) < 224 by omega)]; rfl
  · rw [dF h]; rfl
 have k2 : (bif decide ((b0 : Int) ≥ 224) then decide ((b0 : Int) < 240) else false) = false := by
  by_cases h : (b0 : Int) ≥ 224
  · rw [dT h, dF (show ¬ (b0 : Int) < 240 by omega)]; rfl
  · rw [dF h]; rfl
 have k3 : (bif decide ((b0 : Int) ≥ 240) then decide ((b0 : Int) < 245) else false) = false := by
  by_cases h : (b0 : Int) ≥ 240
  · rw [dT h, dF (show ¬ (b0 : Int) < 245 by omega)]; rfl
  · rw [dF h]; rfl
 rw [dT (show (0 : Int) < n by omega), dF (show ¬ (b0 : Int) < 128 by omega), k1, k2, k3]
 simp only [cond_true, cond_false]
 exact bad (by rw [hD]; (repeat' split) <;> first | rfl | (exfalso; omega))
def rdP (s : Oc) : Int × Nat := (decC (ba s), (Lib.decodeGo (ba s)).2)
theorem layRd0_ok : (layRd0 encX encXE).OK Tryz.prog := Lay.nil_ok.addF encrTold_ok
end Go.Mu
namespace Go.Mu
open Go Go.Proofs
abbrev RdP := Oc → Int × Nat
def rdTold (W : RdP) : FSp := mkFS [.s] (fun xs => decide ((aS xs 0).length ≤ 1099511627776)) (fun xs k => k (.ret (.tuple [.int .i64 (W (aS xs 0)).1, .int .i64 ((W (aS xs 0)).2 : Nat)]) []))
def layRc0 (W : RdP) : Lay := Lay.nil.addF 60 (rdTold W)
def ichRow (c : Int) : List AVal := [.int .i64 c]
abbrev RcR := Oc → List Int
noncomputable def rcSp (R : RcR) : LSp := mkL (fun vs _ H => (aS vs 0, (aI vs 2).toNat)) (fun x => x.2 = 0 ∧ x.1.length ≤ 1099511627776) (fun x => [.str x.1, nilList, .int .i64 (x.2 : Nat)]) (fun _ => []) (fun _ => [])
 (fun x k => cond (x.1 == []) (k (.exit 0) [nilList] [] []) (k (.exit 0) [.own 0 0 (R x.1).length ((R x.1).length - 1) false] [] [.arr 1 ((R x.1).map ichRow) ((R x.1).length - 1)]))
noncomputable def rcFH (R : RcR) : FH := .of [(3, loopSpec 28 [0,3,4] [] [3] [] (rcSp R))]
theorem rc_s0 (R : RcR) (W : RdP) (s : Oc) (i : Int) (D : Dfs) (k : Kont) : lturn Tryz.prog (layRc0 W) (rcFH R) 28 3 [0,3,4] [] [3] [] (stL 28 [0,3,4] [.str s, nilList, .int .i64 i] [] [] [] D) k = (
 let n0 : Int := (↑s.length : Int);
 let l1 : Oc := List.drop i.toNat (List.take n0.toNat s);
 let n2 : Int := (W l1).fst;
 let z0 := [AVal.str s, AVal.own 0 0 (0 + 1) 0 false, AVal.int .i64 (IntKind.i64.wrap (i + (↑(W l1).snd : Int)))];
  bif decide (i < n0) then bif decide (0 ≤ i) && decide (i ≤ n0) && decide (n0 ≤ n0) then bif decide (l1.length ≤ 1099511627776) then bif decide (n2 ≤ 0) then k AExit.normal (stL 28 [0, 3, 4] z0 [] [] [Obj.arr 1 [[AVal.int .i64 65533]] 0] D) else k AExit.normal (stL 28 [0, 3, 4] z0 [] [] [Obj.arr 1 [[AVal.int .i64 n2]] 0] D) else none else none else k (AExit.exit 0) (stL 28 [3] [AVal.list true 0 fun (x : Nat) => []] [] [] [] D)) := by kernel_rfl
theorem rc_s1 (R : RcR) (W : RdP) (s : Oc) (i : Int) (q v : Nat) (rows : List (List AVal)) (D : Dfs) (k : Kont) : lturn Tryz.prog (layRc0 W) (rcFH R) 28 3 [0,3,4] [] [3] [] (stL 28 [0,3,4] [.str s, .own 0 0 q v false, .int .i64 i] [] [] [.arr 1 rows v] D) k = (
 let n0 : Int := (↑s.length : Int);
 let l1 : Oc := List.drop i.toNat (List.take n0.toNat s);
 let n2 : Int := (W l1).fst;
 let m3 : Nat := q + 1;
 let c4 : Bool := v == v && q == rows.length && decide ((2 * m3 + 1000) * 8 ≤ 281474976710656) && true;
 let m5 : Nat := v + 1;
 let z0 := [AVal.str s, AVal.own 0 0 m3 m5 false, AVal.int .i64 (IntKind.i64.wrap (i + (↑(W l1).snd : Int)))];
  bif decide (i < n0) then bif decide (0 ≤ i) && decide (i ≤ n0) && decide (n0 ≤ n0) then bif decide (l1.length ≤ 1099511627776) then bif decide (n2 ≤ 0) then bif c4 then k AExit.normal (stL 28 [0, 3, 4] z0 [] [] [Obj.arr 1 (rows.append [[AVal.int .i64 65533]]) m5] D) else none else bif c4 then k AExit.normal (stL 28 [0, 3, 4] z0 [] [] [Obj.arr 1 (rows.append [[AVal.int .i64 n2]]) m5] D) else none else none else none else k (AExit.exit 0) (stL 28 [3] [AVal.own 0 0 q v false] [] [] [Obj.arr 1 rows v] D)) := by kernel_rfl
noncomputable def layRc (W : RdP) (R : RcR) : Lay := (layRc0 W).addL 28 (rcFH R)
theorem rc_fun (W : RdP) (R : RcR) (s : Oc) (k : Out → Ans) : iFun Tryz.prog ((layRc W R).hd Tryz.prog) (layRc W R).fhs 0 28 [.str s] [] k = (
 let m0 : Nat := (R s).length - 1;
  bif tst ((Int.toNat 0 = 0 ∧ s.length ≤ 1099511627776) ∧ SubTL [AVal.str s, AVal.list true 0 fun (x : Nat) => [], AVal.int .i64 0] [AVal.str s, AVal.list true 0 fun (x : Nat) => [], AVal.int .i64 (↑(Int.toNat 0) : Int)] ∧ ([] : List (List AVal)) = [] ∧ ([] : Heap) = []) then bif s == [] then k (Out.ret (AVal.list true 0 fun (x : Nat) => []) []) else k (Out.ret (AVal.own 0 0 (R s).length m0 false) [Obj.arr 1 (List.map ichRow (R s)) m0]) else none) := by kernel_rfl
def rpcTold (C : RcR) : FSp := mkFS [.s] (fun xs => decide ((aS xs 0).length ≤ 1099511627776)) (fun xs k => k (.ret (encL false ichRow 0 (C (aS xs 0))) []))
def layRr0 (C : RcR) (X : Int → Oc) (E : Int → Int) : Lay := (Lay.nil.addF 28 (rpcTold C)).addF 29 (encrTold X E)
def okCh (l : List Int) : Prop := ∀ c ∈ l, 0 < c ∧ c ≤ 1114111 ∧ ¬ (55296 ≤ c ∧ c ≤ 57343)
abbrev RrR := List Int → Oc × Nat
noncomputable def rrSp (R : RrR) : LSp := mkL (fun vs _ H => (fullOf (vs.getD 1 .undef), decL (fun r => intOf (r.getD 0 .undef)) (vs.getD 1 .undef), (aI vs 2).toNat)) (fun x => x.2.2 = 0 ∧ x.2.1.length ≤ 17592186044416 ∧ okCh x.2.1) (fun x => [nilList, encL x.1 ichRow 0 x.2.1, .int .i64 (x.2.2 : Nat)]) (fun _ => []) (fun _ => [])
 (fun x k => cond (x.2.1 == []) (k (.exit 0) [nilList] [] []) (k (.exit 0) [.own 0 0 (R x.2.1).1.length (R x.2.1).2 false] [] [.arr 1 ((R x.2.1).1.map byteRow) (R x.2.1).2]))
noncomputable def rrFH (R : RrR) : FH := .of [(4, loopSpec 29 [3,4,5] [] [3] [] (rrSp R))]
theorem rr_s0 (R : RrR) (C : RcR) (X : Int → Oc) (E : Int → Int) (f : Bool) (l : List Int) (i : Int) (D : Dfs) (k : Kont) : lturn Tryz.prog (layRr0 C X E) (rrFH R) 9 4 [3,4,5] [] [3] [] (stL 29 [3,4,5] [nilList, encL f ichRow 0 l, .int .i64 i] [] [] [] D) k = (
 let c0 : Bool := decide (i < (↑l.length : Int));
 let n1 : Int := l.getD i.toNat 0;
 let m2 : Nat := (List.map (fun (c : UInt8) => [AVal.int .u8 (↑c.toNat : Int)]) (X n1)).length;
 let m3 : Nat := 0 + m2;
  bif c0 then bif decide (0 ≤ i) && c0 then bif decide (0 ≤ n1 ∧ n1 ≤ 2147483647) then bif (decide (0 < m2) || true) && decide ((2 * m3 + 1000) * 1 ≤ 281474976710656) then k AExit.normal (stL 29 [3, 4, 5] [AVal.own 0 0 m3 0 false, AVal.list f l.length fun (i : Nat) => ichRow (l.getD i 0), AVal.int .i64 (IntKind.i64.wrap (i + 1))] [] [] [Obj.arr 1 (List.map (fun (c : UInt8) => [AVal.int .u8 (↑c.toNat : Int)]) (X n1)) 0] D) else none else none else none else k (AExit.exit 0) (stL 29 [3] [AVal.list true 0 fun (x : Nat) => []] [] [] [] D)) := by kernel_rfl
theorem rr_s1 (R : RrR) (C : RcR) (X : Int → Oc) (E : Int → Int) (f : Bool) (l : List Int) (i : Int) (q v : Nat) (rows : List (List AVal)) (D : Dfs) (k : Kont) : lturn Tryz.prog (layRr0 C X E) (rrFH R) 9 4 [3,4,5] [] [3] [] (stL 29 [3,4,5] [.own 0 0 q v false, encL f ichRow 0 l, .int .i64 i] [] [] [.arr 1 rows v] D) k = (
 let c0 : Bool := decide (i < (↑l.length : Int));
 let n1 : Int := l.getD i.toNat 0;
 let m2 : Nat := q + (List.map (fun (c : UInt8) => [AVal.int .u8 (↑c.toNat : Int)]) (X n1)).length;
 let m3 : Nat := v + 1;
  bif c0 then bif decide (0 ≤ i) && c0 then bif decide (0 ≤ n1 ∧ n1 ≤ 2147483647) then bif v == v && q == rows.length && decide ((2 * m2 + 1000) * 1 ≤ 281474976710656) && true then k AExit.normal (stL 29 [3, 4, 5] [AVal.own 0 0 m2 m3 false, AVal.list f l.length fun (i : Nat) => ichRow (l.getD i 0), AVal.int .i64 (IntKind.i64.wrap (i + 1))] [] [] [Obj.arr 1 (rows.append (List.map (fun (c : UInt8) => [AVal.int .u8 (↑c.toNat : Int)]) (X n1))) m3] D) else none else none else none else k (AExit.exit 0) (stL 29 [3] [AVal.own 0 0 q v false] [] [] [Obj.arr 1 rows v] D)) := by kernel_rfl
noncomputable def layRr (C : RcR) (X : Int → Oc) (E : Int → Int) (R : RrR) : Lay := (layRr0 C X E).addL 9 (rrFH R)
theorem rr_fun (C : RcR) (X : Int → Oc) (E : Int → Int) (R : RrR) (s : Oc) (k : Out → Ans) : iFun Tryz.prog ((layRr C X E R).hd Tryz.prog) (layRr C X E R).fhs 0 9 [.str s] [] k = (
 let m0 : Nat := (decL (fun (r : List AVal) => intOf (r.getD 0 AVal.undef)) (AVal.list false (C s).length fun (i : Nat) => ichRow ((C s).getD i 0))).length;
 let m1 : Nat := (R (decL (fun (r : List AVal) => intOf (r.getD 0 AVal.undef)) (AVal.list false (C s).length fun (i : Nat) => ichRow ((C s).getD i 0)))).snd;
 let l2 : Oc := (R (decL (fun (r : List AVal) => intOf (r.getD 0 AVal.undef)) (AVal.list false (C s).length fun (i : Nat) => ichRow ((C s).getD i 0)))).fst;
 let m3 : Nat := l2.length;
  bif decide (s.length ≤ 1099511627776) then bif tst ((Int.toNat 0 = 0 ∧ m0 ≤ 17592186044416 ∧ okCh (decL (fun (r : List AVal) => intOf (r.getD 0 AVal.undef)) (AVal.list false (C s).length fun (i : Nat) => ichRow ((C s).getD i 0)))) ∧ SubTL [AVal.list true 0 fun (x : Nat) => [], AVal.list false (C s).length fun (i : Nat) => ichRow ((C s).getD i 0), AVal.int .i64 0] [AVal.list true 0 fun (x : Nat) => [], AVal.list false m0 fun (i : Nat) => ichRow ((decL (fun (r : List AVal) => intOf (r.getD 0 AVal.undef)) (AVal.list false (C s).length fun (i : Nat) => ichRow ((C s).getD i 0))).getD i 0), AVal.int .i64 (↑(Int.toNat 0) : Int)] ∧ ([] : List (List AVal)) = [] ∧ ([] : Heap) = []) then bif decL (fun (r : List AVal) => intOf (r.getD 0 AVal.undef)) (AVal.list false (C s).length fun (i : Nat) => ichRow ((C s).getD i 0)) == [] then k (Out.ret (AVal.str []) []) else bif m1 == m1 && true && decide (0 + m3 ≤ (List.map (fun (c : UInt8) => [AVal.int .u8 (↑c.toNat : Int)]) l2).length) && (List.take m3 (List.drop 0 (List.map (fun (c : UInt8) => [AVal.int .u8 (↑c.toNat : Int)]) l2))).all fun (r : List AVal) => match r with | [v] => isInt IntKind.u8 v | x => false then k (Out.ret (AVal.str (List.map (fun (r : List AVal) => UInt8.ofNat (intOf (r.getD 0 AVal.undef)).toNat) (List.take m3 (List.drop 0 (List.map (fun (c : UInt8) => [AVal.int .u8 (↑c.toNat : Int)]) l2))))) [Obj.arr 1 (List.map (fun (c : UInt8) => [AVal.int .u8 (↑c.toNat : Int)]) l2) m1]) else none else none else none) := by kernel_rfl
def ursTold (R : Oc → Oc) : FSp := mkFS [.s] (fun xs => decide ((aS xs 0).length ≤ 1073741824)) (fun xs k => k (.ret (.str (R (aS xs 0))) []))
def layRe0 (R : Oc → Oc) : Lay := Lay.nil.addF 9 (ursTold R)
abbrev ReR := Oc → Oc × Nat
noncomputable def reSp (R : ReR) : LSp := mkL (fun vs _ H => (aS vs 0, (aI vs 2).toNat)) (fun x => x.2 = 0 ∧ x.1.length ≤ 17592186044416) (fun x => [.str x.1, nilList, .int .i64 (x.2 : Nat)]) (fun _ => []) (fun _ => [])
 (fun x k => cond (x.1 == []) (k (.exit 0) [nilList] [] []) (k (.exit 0) [.own 0 0 (R x.1).1.length (R x.1).2 false] [] [.arr 1 ((R x.1).1.map byteRow) (R x.1).2]))
noncomputable def reFH (R : ReR) : FH := .of [(4, loopSpec 49 [3,4,5] [] [4] [] (reSp R))]
theorem re_s0 (R : ReR) (W : Oc → Oc) (s : Oc) (i : Int) (D : Dfs) (k : Kont) : lturn Tryz.prog (layRe0 W) (reFH R) 23 4 [3,4,5] [] [4] [] (stL 49 [3,4,5] [.str s, nilList, .int .i64 i] [] [] [] D) k = (
 let c0 : Bool := decide (i < (↑s.length : Int));
 let c1 : Bool := decide (0 ≤ i) && c0;
 let n2 : Int := (↑(s.getD i.toNat 0).toNat : Int);
 let z0 := [AVal.str s, AVal.own 0 0 5 0 false, AVal.int .i64 (IntKind.i64.wrap (i + 1))];
 let z1 := [AVal.str s, AVal.own 0 0 4 0 false, AVal.int .i64 (IntKind.i64.wrap (i + 1))];
  bif c0 then bif c1 then bif n2 == 38 then k AExit.normal (stL 49 [3, 4, 5] z0 [] [] [Obj.arr 1 [[AVal.int .u8 38], [AVal.int .u8 97], [AVal.int .u8 109], [AVal.int .u8 112], [AVal.int .u8 59]] 0] D) else bif n2 == 60 then k AExit.normal (stL 49 [3, 4, 5] z1 [] [] [Obj.arr 1 [[AVal.int .u8 38], [AVal.int .u8 108], [AVal.int .u8 116], [AVal.int .u8 59]] 0] D) else bif n2 == 62 then k AExit.normal (stL 49 [3, 4, 5] z1 [] [] [Obj.arr 1 [[AVal.int .u8 38], [AVal.int .u8 103], [AVal.int .u8 116], [AVal.int .u8 59]] 0] D) else bif n2 == 34 then k AExit.normal (stL 49 [3, 4, 5] z0 [] [] [Obj.arr 1 [[AVal.int .u8 38], [AVal.int .u8 35], [AVal.int .u8 51], [AVal.int .u8 52], [AVal.int .u8 59]] 0] D) else bif n2 == 39 then k AExit.normal (stL 49 [3, 4, 5] z0 [] [] [Obj.arr 1 [[AVal.int .u8 38], [AVal.int .u8 35], [AVal.int .u8 51], [AVal.int .u8 57], [AVal.int .u8 59]] 0] D) else bif n2 == 43 then k AExit.normal (stL 49 [3, 4, 5] z0 [] [] [Obj.arr 1 [[AVal.int .u8 38], [AVal.int .u8 35], [AVal.int .u8 52], [AVal.int .u8 51], [AVal.int .u8 59]] 0] D) else bif c1 then k AExit.normal (stL 49 [3, 4, 5] [AVal.str s, AVal.own 0 0 (0 + 1) 0 false, AVal.int .i64 (IntKind.i64.wrap (i + 1))] [] [] [Obj.arr 1 [[AVal.int .u8 n2]] 0] D) else none else none else k (AExit.exit 0) (stL 49 [4] [AVal.list true 0 fun (x : Nat) => []] [] [] [] D)) := by kernel_rfl
theorem re_s1 (R : ReR) (W : Oc → Oc) (s : Oc) (i : Int) (q v : Nat) (rows : List (List AVal)) (D : Dfs) (k : Kont) : lturn Tryz.prog (layRe0 W) (reFH R) 23 4 [3,4,5] [] [4] [] (stL 49 [3,4,5] [.str s, .own 0 0 q v false, .int .i64 i] [] [] [.arr 1 rows v] D) k = (
 let c0 : Bool := decide (i < (↑s.length : Int));
 let c1 : Bool := decide (0 ≤ i) && c0;
 let n2 : Int := (↑(s.getD i.toNat 0).toNat : Int);
 let c3 : Bool := v == v && q == rows.length;
 let m4 : Nat := q + 5;
 let c5 : Bool := c3 && decide ((2 * m4 + 1000) * 1 ≤ 281474976710656) && true;
 let m6 : Nat := v + 1;
 let m7 : Nat := q + 4;
 let c8 : Bool := c3 && decide ((2 * m7 + 1000) * 1 ≤ 281474976710656) && true;
 let m9 : Nat := q + 1;
 let z0 := [AVal.str s, AVal.own 0 0 m4 m6 false, AVal.int .i64 (IntKind.i64.wrap (i + 1))];
 let z1 := [AVal.str s, AVal.own 0 0 m7 m6 false, AVal.int .i64 (IntKind.i64.wrap (i + 1))];
  bif c0 then bif c1 then bif n2 == 38 then bif c5 then k AExit.normal (stL 49 [3, 4, 5] z0 [] [] [Obj.arr 1 (rows.append [[AVal.int .u8 38], [AVal.int .u8 97], [AVal.int .u8 109], [AVal.int .u8 112], [AVal.int .u8 59]]) m6] D) else none else bif n2 == 60 then bif c8 then k AExit.normal (stL 49 [3, 4, 5] z1 [] [] [Obj.arr 1 (rows.append [[AVal.int .u8 38], [AVal.int .u8 108], [AVal.int .u8 116], [AVal.int .u8 59]]) m6] D) else none else bif n2 == 62 then bif c8 then k AExit.normal (stL 49 [3, 4, 5] z1 [] [] [Obj.arr 1 (rows.append [[AVal.int .u8 38], [AVal.int .u8 103], [AVal.int .u8 116], [AVal.int .u8 59]]) m6] D) else none else bif n2 == 34 then bif c5 then k AExit.normal (stL 49 [3, 4, 5] z0 [] [] [Obj.arr 1 (rows.append [[AVal.int .u8 38], [AVal.int .u8 35], [AVal.int .u8 51], [AVal.int .u8 52], [AVal.int .u8 59]]) m6] D) else none else bif n2 == 39 then bif c5 then k AExit.normal (stL 49 [3, 4, 5] z0 [] [] [Obj.arr 1 (rows.append [[AVal.int .u8 38], [AVal.int .u8 35], [AVal.int .u8 51], [AVal.int .u8 57], [AVal.int .u8 59]]) m6] D) else none else bif n2 == 43 then bif c5 then k AExit.normal (stL 49 [3, 4, 5] z0 [] [] [Obj.arr 1 (rows.append [[AVal.int .u8 38], [AVal.int .u8 35], [AVal.int .u8 52], [AVal.int .u8 51], [AVal.int .u8 59]]) m6] D) else none else bif c1 then bif c3 && decide ((2 * m9 + 1000) * 1 ≤ 281474976710656) && true then k AExit.normal (stL 49 [3, 4, 5] [AVal.str s, AVal.own 0 0 m9 m6 false, AVal.int .i64 (IntKind.i64.wrap (i + 1))] [] [] [Obj.arr 1 (rows.append [[AVal.int .u8 n2]]) m6] D) else none else none else none else k (AExit.exit 0) (stL 49 [4] [AVal.own 0 0 q v false] [] [] [Obj.arr 1 rows v] D)) := by kernel_rfl
noncomputable def layRe (W : Oc → Oc) (R : ReR) : Lay := (layRe0 W).addL 23 (reFH R)
theorem re_fun (W : Oc → Oc) (R : ReR) (s : Oc) (k : Out → Ans) : iFun Tryz.prog ((layRe W R).hd Tryz.prog) (layRe W R).fhs 0 23 [.str s] [] k = (
 let m0 : Nat := (R (W s)).snd;
 let l1 : Oc := (R (W s)).fst;
 let m2 : Nat := l1.length;
  bif decide (s.length ≤ 1073741824) then bif tst ((Int.toNat 0 = 0 ∧ (W s).length ≤ 17592186044416) ∧ SubTL [AVal.str (W s), AVal.list true 0 fun (x : Nat) => [], AVal.int .i64 0] [AVal.str (W s), AVal.list true 0 fun (x : Nat) => [], AVal.int .i64 (↑(Int.toNat 0) : Int)] ∧ ([] : List (List AVal)) = [] ∧ ([] : Heap) = []) then bif W s == [] then k (Out.ret (AVal.str []) []) else bif m0 == m0 && true && decide (0 + m2 ≤ (List.map (fun (c : UInt8) => [AVal.int .u8 (↑c.toNat : Int)]) l1).length) && (List.take m2 (List.drop 0 (List.map (fun (c : UInt8) => [AVal.int .u8 (↑c.toNat : Int)]) l1))).all fun (r : List AVal) => match r with | [v] => isInt IntKind.u8 v | x => false then k (Out.ret (AVal.str (List.map (fun (r : List AVal) => UInt8.ofNat (intOf (r.getD 0 AVal.undef)).toNat) (List.take m2 (List.drop 0 (List.map (fun (c : UInt8) => [AVal.int .u8 (↑c.toNat : Int)]) l1))))) [Obj.arr 1 (List.map (fun (c : UInt8) => [AVal.int .u8 (↑c.toNat : Int)]) l1) m0]) else none else none else none) := by kernel_rfl
end Go.Mu
namespace Go.Mu
open Go Go.Proofs
variable {P : Program}
theorem Lay.OK.callN {L : Lay} (h : L.OK P) {f : FuncId} {xs : List AVal} {v : AVal} {G : Heap} (F : Nat) (hv : refsD 6 0 v = true) (hr : ∀ k, iFun P (L.hd P) L.fhs F f xs [] k = k (.ret v G)) : CallOK P f xs [] (.ret v []) := by
 refine CallOK.shrink (H := []) (H' := []) (G := G) ?_ (Nat.le_refl _) hv (fun x hx => by cases hx)
 classical
 have hz : iFun P (L.hd P) L.fhs F f xs [] (fun o' => if o' = .ret v G then some (.ret v G) else none) = some (.ret v G) := (hr _).trans (by simp)
 obtain ⟨o', h1, h2⟩ := iFun_sound h.hok (fun g => ⟨regions_ok h.hok _, h.l g⟩) hz
 split at h2
 · rename_i e; rw [e] at h1; exact h1
 · simp at h2
theorem rdcTold_ok : ∀ xs H k out, rdTold rdP xs H k = some out → ∃ o, CallOK Tryz.prog 60 xs H o ∧ k o = some out := mkFS_ok fun ys xs e h => by
 obtain ⟨s, rfl⟩ : ∃ s, xs = [.str s] := ⟨_, e⟩
 have h2 : s.length ≤ 1099511627776 := of_decide_eq_true h
 exact ⟨_, fun k => rfl, layRd0_ok.callN (G := []) 9 rfl (fun k => rdec_call s h2 k)⟩
theorem layRc0_ok : (layRc0 rdP).OK Tryz.prog := Lay.nil_ok.addF rdcTold_ok
theorem rep_of (t : ByteArray) : repC t = if decC t ≤ 0 then 65533 else decC t := by
 unfold repC decC
 by_cases h : (Lib.decodeGo t).1 = 65533 ∧ (Lib.decodeGo t).2 < 2
 · rw [if_pos h, h.1]; simp
 · rw [if_neg h]
   by_cases h0 : (Lib.decodeGo t).1 = 0
   · rw [if_pos h0, if_pos (by omega)]
   · rw [if_neg h0, if_neg (by omega)]
theorem ba_ext (s : Oc) (w : Nat) : (ba s).extract w (ba s).size = ba (s.drop w) := by
 apply ByteArray.ext
 rw [ByteArray.data_extract]
 apply Array.ext'
 simp [ba, ByteArray.size]
 exact List.take_of_length_le (by simp)
theorem dgo_w (s : Oc) (h : s ≠ []) : 1 ≤ (Lib.decodeGo (ba s)).2 ∧ (Lib.decodeGo (ba s)).2 ≤ s.length := by
 have hl : 0 < s.length := List.length_pos_iff.2 h
 have hz : ¬ (ba s).size = 0 := by rw [ba_size]; omega
 have hdG : Lib.decodeGo (ba s) = Utf8.decode (ba s) 0 := by unfold Lib.decodeGo; rw [if_neg hz]
 rw [hdG]
 exact ⟨Lib.width_pos (ba s) 0, Lib.width_le (ba s) (by rw [ba_size]; omega)⟩
def chL (m : Nat) (s : Oc) : List Int := chF m (ba s)
theorem chL_cons (m : Nat) (s : Oc) (h : s ≠ []) : chL (m + 1) s = (if (rdP s).1 ≤ 0 then 65533 else (rdP s).1) :: chL m (s.drop (rdP s).2) := by
 have hl : 0 < s.length := List.length_pos_iff.2 h
 unfold chL
 rw [chF, if_neg (by rw [ba_size]; omega), ba_ext, rep_of]
 rfl
theorem chL_nil (m : Nat) : chL m [] = [] := by
 cases m with
 | zero => rfl
 | succ m => unfold chL; rw [chF, if_pos (by rfl)]
theorem rdP_w (s : Oc) (h : s ≠ []) : 1 ≤ (rdP s).2 ∧ (rdP s).2 ≤ s.length := dgo_w s h
theorem chL_len : ∀ (m : Nat) (s : Oc), (chL m s).length ≤ s.length
 | 0, s => Nat.zero_le _
 | m + 1, s => by
  by_cases h : s = []
  · subst h; rw [chL_nil]; exact Nat.le_refl _
  · have hw := rdP_w s h
    rw [chL_cons m s h, List.length_cons]
    have := chL_len m (s.drop (rdP s).2)
    rw [List.length_drop] at this
    omega
noncomputable abbrev rcTurn := lturn Tryz.prog (layRc0 rdP) (rcFH (fun s => chL s.length s)) 28 3 [0,3,4] [] [3] []
theorem h_row (l : List Int) (c : Int) : (l.map ichRow).append [[AVal.int .i64 c]] = (l ++ [c]).map ichRow := by
 show l.map ichRow ++ [ichRow c] = _
 rw [List.map_append]; rfl
theorem rc_own (s : Oc) (hs : s.length ≤ 1099511627776) : ∀ (m i : Nat) (l : List Int) (v : Nat), s.length - i ≤ m → i ≤ s.length → l.length ≤ i →
 LoopRuns rcTurn 28 [0,3,4] [] [3] [] [.str s, .own 0 0 l.length v false, .int .i64 (i : Nat)] [] [.arr 1 (l.map ichRow) v] (.exit 0) [.own 0 0 (l ++ chL m (s.drop i)).length (v + (chL m (s.drop i)).length) false] [] [.arr 1 ((l ++ chL m (s.drop i)).map ichRow) (v + (chL m (s.drop i)).length)] := by
 have out : ∀ (m i : Nat) (l : List Int) (v : Nat), s.length ≤ i → LoopRuns rcTurn 28 [0,3,4] [] [3] [] [.str s, .own 0 0 l.length v false, .int .i64 (i : Nat)] [] [.arr 1 (l.map ichRow) v] (.exit 0) [.own 0 0 (l ++ chL m (s.drop i)).length (v + (chL m (s.drop i)).length) false] [] [.arr 1 ((l ++ chL m (s.drop i)).map ichRow) (v + (chL m (s.drop i)).length)] := fun m i l v hi => by
  rw [List.drop_eq_nil_of_le hi, chL_nil, List.append_nil]
  refine .stop (by simp) (fun D k => (rc_s1 _ rdP s i l.length v (l.map ichRow) D k).trans ?_)
  simp only [dF (show ¬ (i : Int) < s.length by omega), cond_false]
  rfl
 intro m
 induction m with
 | zero => intro i l v hm hi hl; exact out 0 i l v (by omega)
 | succ m ih =>
  intro i l v hm hi hl
  by_cases hlt : i < s.length
  case neg => exact out (m + 1) i l v (by omega)
  have hne : s.drop i ≠ [] := by
   intro e
   have := congrArg List.length e
   rw [List.length_drop] at this
   simp at this
   omega
  have hdl : (s.drop i).length = s.length - i := List.length_drop
  have hw := rdP_w (s.drop i) hne
  have et : List.drop i (List.take s.length s) = s.drop i := by rw [List.take_length]
  have e2 : IntKind.i64.wrap ((i : Int) + (((rdP (s.drop i)).2 : Nat) : Int)) = ((i + (rdP (s.drop i)).2 : Nat) : Int) := by rw [wrap_of (by omega) (by omega)]; omega
  have hq : (l.length == (l.map ichRow).length) = true := by simp
  have key := fun D k => rc_s1 (fun s => chL s.length s) rdP s i l.length v (l.map ichRow) D k
  simp only [Int.toNat_natCast, et, e2, hq, beq_self_eq_true, dT (show (i : Int) < s.length by omega), dT (show (0 : Int) ≤ i by omega), dT (show (i : Int) ≤ s.length by omega), dT (show (s.length : Int) ≤ s.length by omega), dT (show (s.drop i).length ≤ 1099511627776 by omega), dT (show (2 * (l.length + 1) + 1000) * 8 ≤ 281474976710656 by omega), Bool.and_self, cond_true, h_row] at key
  rw [chL_cons m _ hne, List.drop_drop]
  by_cases hc : (rdP (s.drop i)).1 ≤ 0
  · simp only [dT hc, cond_true] at key
    rw [if_pos hc]
    have ih2 := ih (i + (rdP (s.drop i)).2) (l ++ [65533]) (v + 1) (by omega) (by omega) (by rw [List.length_append, List.length_singleton]; omega)
    rw [List.append_assoc, List.singleton_append] at ih2
    rw [List.length_append, List.length_singleton] at ih2
    rw [List.length_cons, show v + ((chL m (List.drop (i + (rdP (List.drop i s)).2) s)).length + 1) = v + 1 + (chL m (List.drop (i + (rdP (List.drop i s)).2) s)).length by omega]
    exact .step key ih2
  · simp only [dF hc, cond_false] at key
    rw [if_neg hc]
    have ih2 := ih (i + (rdP (s.drop i)).2) (l ++ [(rdP (s.drop i)).1]) (v + 1) (by omega) (by omega) (by rw [List.length_append, List.length_singleton]; omega)
    rw [List.append_assoc, List.singleton_append] at ih2
    rw [List.length_append, List.length_singleton] at ih2
    rw [List.length_cons, show v + ((chL m (List.drop (i + (rdP (List.drop i s)).2) s)).length + 1) = v + 1 + (chL m (List.drop (i + (rdP (List.drop i s)).2) s)).length by omega]
    exact .step key ih2
theorem rcSp_ok : SpOK rcTurn 28 [0,3,4] [] [3] [] (rcSp (fun s => chL s.length s)) := mkL_ok fun a h => by
 obtain ⟨s, i⟩ := a
 obtain ⟨h1, h2⟩ := h
 simp only at h1 h2
 subst h1
 show ∃ e vs bs H', (∀ k : AExit → List AVal → List (List AVal) → Heap → Ans, cond (s == []) _ _ = k e vs bs H') ∧ _
 by_cases hs0 : s = []
 · subst hs0
   exact ⟨_, _, _, _, fun k => rfl, .stop (by simp) (fun D k => (rc_s0 _ rdP [] 0 D k).trans rfl)⟩
 · have hb : (s == []) = false := by simpa using hs0
   have hl : 0 < s.length := List.length_pos_iff.2 hs0
   have hw := rdP_w s hs0
   rw [hb]
   refine ⟨_, _, _, _, fun k => rfl, ?_⟩
   have et : List.drop (Int.toNat 0) (List.take s.length s) = s := by rw [List.take_length]; rfl
   have e2 : IntKind.i64.wrap ((0 : Int) + (((rdP s).2 : Nat) : Int)) = (((rdP s).2 : Nat) : Int) := by rw [wrap_of (by omega) (by omega)]; omega
   have key := fun D k => rc_s0 (fun s => chL s.length s) rdP s 0 D k
   simp only [Int.toNat_natCast, et, e2, Nat.zero_add, dT (show (0 : Int) < s.length by omega), dT (show (0 : Int) ≤ 0 by omega), dT (show (0 : Int) ≤ s.length by omega), dT (show (s.length : Int) ≤ s.length by omega), dT (show s.length ≤ 1099511627776 by omega), Bool.and_self, cond_true] at key
   have e3 : chL s.length s = (if (rdP s).1 ≤ 0 then 65533 else (rdP s).1) :: chL (s.length - 1) (s.drop (rdP s).2) := by
    obtain ⟨m, hm⟩ : ∃ m, s.length = m + 1 := ⟨s.length - 1, by omega⟩
    rw [hm, chL_cons m s hs0, Nat.add_sub_cancel]
   show LoopRuns _ _ _ _ _ _ _ _ _ _ [.own 0 0 (chL s.length s).length ((chL s.length s).length - 1) false] _ [.arr 1 ((chL s.length s).map ichRow) ((chL s.length s).length - 1)]
   rw [e3]
   by_cases hc : (rdP s).1 ≤ 0
   · simp only [dT hc, cond_true] at key
     rw [if_pos hc]
     have ih := rc_own s (by omega) (s.length - 1) (rdP s).2 [65533] 0 (by omega) (by omega) (by show 1 ≤ _; omega)
     rw [List.singleton_append, Nat.zero_add] at ih
     exact .step key ih
   · simp only [dF hc, cond_false] at key
     rw [if_neg hc]
     have ih := rc_own s (by omega) (s.length - 1) (rdP s).2 [(rdP s).1] 0 (by omega) (by omega) (by show 1 ≤ _; omega)
     rw [List.singleton_append, Nat.zero_add] at ih
     exact .step key ih
theorem layRc_ok : (layRc rdP (fun s => chL s.length s)).OK Tryz.prog := layRc0_ok.loop1 (id := 3) (by kernel_rfl) (by kernel_rfl) (by kernel_rfl) rcSp_ok
def chP (s : Oc) : List Int := chL s.length s
theorem sub_ich (l : List Int) : Sub (.list false l.length (fun i => (l.map ichRow).getD i [])) (encL false ichRow 0 l) := by
 refine Sub.list (fun h => h) (fun i hi => ?_)
 have : (l.map ichRow).getD i [] = ichRow (l.getD i 0) := by
  rw [List.getD_eq_getElem?_getD, List.getD_eq_getElem?_getD, List.getElem?_map, List.getElem?_eq_getElem hi]
  rfl
 rw [this]
 exact .refl _
theorem rc_ok (s : Oc) (hs : s.length ≤ 1099511627776) : CallOK Tryz.prog 28 [.str s] [] (.ret (encL false ichRow 0 (chP s)) []) := by
 have key := fun k => (rc_fun rdP (fun s => chL s.length s) s k).trans ((congrArg (fun c => cond c _ none) (tst_true ⟨⟨rfl, hs⟩, .refl _, by trivial⟩)).trans (cond_true _ _))
 by_cases h0 : s = []
 · subst h0
   have hc : CallOK Tryz.prog 28 [.str []] [] (.ret (.list true 0 fun (x : Nat) => []) []) := layRc_ok.callF (G := []) rfl key
   exact hc.sub (.refl _) ⟨Sub.list (fun h => by cases h) (fun i hi => by omega), rfl⟩
 · have hb : (s == []) = false := by simpa using h0
   rw [hb] at key
   have hc : CallOK Tryz.prog 28 [.str s] [] (.ret (.own 0 0 (chP s).length ((chP s).length - 1) false) [.arr 1 ((chP s).map ichRow) ((chP s).length - 1)]) := layRc_ok.call key
   have fz : freezeV [.arr 1 ((chP s).map ichRow) ((chP s).length - 1)] 2 (.own 0 0 (chP s).length ((chP s).length - 1) false) = some (.list false (chP s).length (fun i => ((chP s).map ichRow).getD i [])) := by
    refine freezeW (sz := 1) (rows := (chP s).map ichRow) (rows' := (chP s).map ichRow) rfl (by simp) ?_
    rw [List.drop_zero, List.take_of_length_le (by simp)]
    exact freeze_pures _ 0 _ (fun r hr => by
     obtain ⟨a, _, rfl⟩ := List.mem_map.1 hr
     rfl)
   exact (hc.freeze (d := 2) fz).sub (.refl _) ⟨sub_ich (chP s), rfl⟩
theorem rcTold_ok : ∀ xs H k out, rpcTold chP xs H k = some out → ∃ o, CallOK Tryz.prog 28 xs H o ∧ k o = some out := mkFS_ok fun ys xs e h => by
 obtain ⟨s, rfl⟩ : ∃ s, xs = [.str s] := ⟨_, e⟩
 exact ⟨_, fun k => rfl, rc_ok s (of_decide_eq_true h)⟩
end Go.Mu
namespace Go.Mu
open Go Go.Proofs
theorem encX_len (c : Int) : (encX c).length ≤ 4 := by
 unfold encX
 cases badR c with
 | true => simp
 | false =>
  have h := (Lib.runeCells_le c).2
  rw [Lib.runeCells_length] at h
  exact h
theorem rows_of (t : Oc) : t.map (fun c => [AVal.int .u8 (c.toNat : Int)]) = t.map byteRow := rfl
def rrR : RrR := fun l => (l.flatMap encX, l.length - 1)
noncomputable abbrev rrTurn := lturn Tryz.prog (layRr0 chP encX encXE) (rrFH rrR) 9 4 [3,4,5] [] [3] []
theorem rrSp_ok : SpOK rrTurn 29 [3,4,5] [] [3] [] (rrSp rrR) := mkL_ok fun a h => by
 obtain ⟨f, l, i⟩ := a
 obtain ⟨h1, h2, h3⟩ := h
 simp only at h1 h2 h3
 subst h1
 have hl := fun i => flat_len_take encX 4 encX_len l i
 have hx := encX_len
 have hc : ∀ i, i < l.length → 0 ≤ l.getD i 0 ∧ l.getD i 0 ≤ 2147483647 := fun i hi => by
  have := h3 (l.getD i 0) (by rw [List.getD_eq_getElem?_getD, List.getElem?_eq_getElem hi]; exact List.getElem_mem hi)
  omega
 have key := app_runs (turn := rrTurn) (n := 29) (l := [3,4,5]) (m := []) (lx := [3]) (mx := []) (sz := 1) (fun a i => [a, encL f ichRow 0 l, .int .i64 (i : Nat)]) (fun a => [a]) (fun i => ((l.take i).flatMap encX).map byteRow) l.length (e := .exit 0) (by simp)
  (fun h D k => by
   refine (rr_s0 rrR chP encX encXE f l ((0 : Nat) : Int) D k).trans ?_
   have e1 : IntKind.i64.wrap (((0 : Nat) : Int) + 1) = ((1 : Nat) : Int) := wrap_add1 (by omega)
   have hx0 := hx (l.getD 0 0)
   simp only [Int.toNat_natCast, e1, rows_of, List.length_map, take_flat l 0 encX 0 h, List.take_zero, List.flatMap_nil, List.nil_append, Nat.zero_add, dT (show ((0 : Nat) : Int) < l.length by omega), dT (show (0 : Int) ≤ ((0 : Nat) : Int) by omega), dT (hc 0 h), dT (show (2 * (encX (l.getD 0 0)).length + 1000) * 1 ≤ 281474976710656 by omega), Bool.or_true, Bool.and_self, cond_true])
  (fun i h D k => by
   refine (rr_s1 rrR chP encX encXE f l ((i + 1 : Nat) : Int) _ i _ D k).trans ?_
   have e1 : IntKind.i64.wrap (((i + 1 : Nat) : Int) + 1) = ((i + 2 : Nat) : Int) := wrap_add1 (by omega)
   have hx0 := hx (l.getD (i + 1) 0)
   have hi := hl (i + 1)
   simp only [Int.toNat_natCast, e1, rows_of, List.length_map, take_flat l 0 encX (i + 1) h, List.map_append, List.length_append, List.append_eq, beq_self_eq_true, dT (show ((i + 1 : Nat) : Int) < l.length by omega), dT (show (0 : Int) ≤ ((i + 1 : Nat) : Int) by omega), dT (hc (i + 1) h), dT (show (2 * (((l.take (i + 1)).flatMap encX).length + (encX (l.getD (i + 1) 0)).length) + 1000) * 1 ≤ 281474976710656 by omega), Bool.or_true, Bool.and_self, cond_true])
  (fun h D k => by
   refine (rr_s0 rrR chP encX encXE f l ((0 : Nat) : Int) D k).trans ?_
   rw [h]
   rfl)
  (fun i h D k => by
   refine (rr_s1 rrR chP encX encXE f l ((i + 1 : Nat) : Int) _ i _ D k).trans ?_
   simp only [dF (show ¬ ((i + 1 : Nat) : Int) < l.length by omega), cond_false])
 rw [List.take_of_length_le (Nat.le_refl _)] at key
 show ∃ e vs bs H', (∀ k : AExit → List AVal → List (List AVal) → Heap → Ans, cond (l == []) _ _ = k e vs bs H') ∧ _
 cases l with
 | nil => exact ⟨_, _, _, _, fun k => rfl, key⟩
 | cons c l =>
  refine ⟨_, _, _, _, fun k => rfl, ?_⟩
  rw [if_neg (by simp), if_neg (by simp), List.length_map] at key
  exact key
theorem layRr0_ok : (layRr0 chP encX encXE).OK Tryz.prog := (Lay.nil_ok.addF rcTold_ok).addF encrTold_ok
theorem layRr_ok : (layRr chP encX encXE rrR).OK Tryz.prog := layRr0_ok.loop1 (id := 4) (by kernel_rfl) (by kernel_rfl) (by kernel_rfl) rrSp_ok
def rpP (s : Oc) : Oc := (chP s).flatMap encX
theorem rdP_ok (s : Oc) (h : s ≠ []) : (rdP s).1 ≤ 1114111 ∧ ¬ (55296 ≤ (rdP s).1 ∧ (rdP s).1 ≤ 57343) := by
 have hD := dgo_N s h
 have hs := Lib.decodeN_shape s.length (s.getD 0 0).toNat (s.getD 1 0).toNat (s.getD 2 0).toNat (s.getD 3 0).toNat
 rw [← hD] at hs
 unfold rdP decC
 simp only
 split
 · omega
 · rcases hs with ⟨_, e⟩ | ⟨_, _, _, _, e⟩ | ⟨_, _, _, _, _, _, e⟩ | ⟨_, _, _, _, _, _, _, e⟩ | e
   all_goals (rw [e]; simp only; omega)
theorem chL_ok : ∀ (m : Nat) (s : Oc), okCh (chL m s)
 | 0, s => by intro c hc; unfold chL chF at hc; cases hc
 | m + 1, s => by
  by_cases h : s = []
  · subst h; rw [chL_nil]; intro c hc; cases hc
  · rw [chL_cons m s h]
    intro c hc
    rcases List.mem_cons.1 hc with rfl | hc
    · have := rdP_ok s h
      split
      · omega
      · omega
    · exact chL_ok m _ c hc
theorem chP_ok (s : Oc) : okCh (chP s) := chL_ok _ s
theorem chP_len (s : Oc) : (chP s).length ≤ s.length := chL_len _ s
theorem flat_congr {α β : Type} {f g : α → List β} : ∀ (l : List α), (∀ a ∈ l, f a = g a) → l.flatMap f = l.flatMap g
 | [], _ => rfl
 | a :: l, h => by rw [List.flatMap_cons, List.flatMap_cons, h a (by simp), flat_congr l (fun b hb => h b (by simp [hb]))]
theorem repB_rp (s : Oc) : repB s = rpP s := by
 unfold repB rpP
 rw [repF_ch]
 refine flat_congr _ (fun c hc => ?_)
 have := chP_ok s c hc
 exact (encX_good (by omega) (by omega) (by omega)).1.symm
theorem rpP_len (s : Oc) : (rpP s).length ≤ 4 * s.length := by
 have := flat_len encX 4 encX_len (chP s)
 have := chP_len s
 unfold rpP
 omega
theorem rr_ok (s : Oc) (hs : s.length ≤ 1099511627776) : CallOK Tryz.prog 9 [.str s] [] (.ret (.str (rpP s)) []) := by
 have hd : ∀ l : List Int, decL (fun (r : List AVal) => intOf (r.getD 0 AVal.undef)) (AVal.list false l.length fun (i : Nat) => ichRow (l.getD i 0)) = l := fun l => decL_encL (fun a => rfl) l
 have hlen := chP_len s
 have key := fun k => rr_fun chP encX encXE rrR s k
 simp only [hd, dT hs, cond_true] at key
 replace key := fun k => (key k).trans ((congrArg (fun c => cond c _ none) (tst_true ⟨⟨rfl, by omega, chP_ok s⟩, .refl _, by trivial⟩)).trans (cond_true _ _))
 cases hb : chP s == [] with
 | true =>
  have h0 : chP s = [] := by simpa using hb
  refine layRr_ok.callF (G := []) rfl (fun k => (key k).trans ?_)
  rw [hb, cond_true]
  show _ = k (.ret (.str ((chP s).flatMap encX)) [])
  rw [h0]; rfl
 | false =>
  refine layRr_ok.callF (G := [.arr 1 ((rpP s).map byteRow) ((chP s).length - 1)]) rfl (fun k => (key k).trans ?_)
  rw [hb, cond_false]
  exact fin_bytes (rpP s) ((chP s).length - 1) _ k
theorem rrTold_ok : ∀ xs H k out, ursTold rpP xs H k = some out → ∃ o, CallOK Tryz.prog 9 xs H o ∧ k o = some out := mkFS_ok fun ys xs e h => by
 obtain ⟨s, rfl⟩ : ∃ s, xs = [.str s] := ⟨_, e⟩
 rw [decide_eq_true_eq] at h
 have h : s.length ≤ 1073741824 := h
 exact ⟨_, fun k => rfl, rr_ok s (by omega)⟩
def escC (c : UInt8) : Oc := bif c == 38 then [38,97,109,112,59] else bif c == 60 then [38,108,116,59] else bif c == 62 then [38,103,116,59] else bif c == 34 then [38,35,51,52,59] else bif c == 39 then [38,35,51,57,59] else bif c == 43 then [38,35,52,51,59] else [c]
theorem escC_len (c : UInt8) : (escC c).length ≤ 5 := by
 unfold escC
 cases c == 38 <;> cases c == 60 <;> cases c == 62 <;> cases c == 34 <;> cases c == 39 <;> cases c == 43 <;> simp
def escT (t : Oc) : Oc := t.flatMap escC
def escP (s : Oc) : Oc := escT (rpP s)
end Go.Mu
namespace Go.Mu
open Go Go.Proofs
end Go.Mu
namespace Go.Mu
open Go Go.Proofs
theorem range_flat {β : Type} (f : Nat → List β) (i : Nat) : (List.range (i + 1)).flatMap f = (List.range i).flatMap f ++ f i := by
 rw [List.range_succ, List.flatMap_append]
 simp
end Go.Mu
namespace Go.Mu
open Go Go.Proofs
def plnM (n : Int) : Bool := bif decide (n < 128) then
          bif
           bif bif decide (IntKind.u8.wrap (↑(BitVec.ofInt 8 (IntKind.u8.wrap n) ||| BitVec.ofInt 8 32).toNat : Int) ≥ 97) then decide (IntKind.u8.wrap (↑(BitVec.ofInt 8 (IntKind.u8.wrap n) ||| BitVec.ofInt 8 32).toNat : Int) ≤ 122) else false then true
           else bif decide (n ≥ 48) then decide (n ≤ 57) else false then
           true
          else decide (ibM [32, 95, 46, 44] (IntKind.u8.wrap n) ≥ 0)
 else false
theorem layPl_ok : layPl.OK Tryz.prog := Lay.nil_ok.addF ibTold_ok
theorem plnTold_ok : ∀ xs H k out, plnTold plnM xs H k = some out → ∃ o, CallOK Tryz.prog 132 xs H o ∧ k o = some out := mkFS_ok fun ys xs e h => by
 obtain ⟨n, rfl⟩ : ∃ n, xs = [.int .i64 n] := ⟨_, e⟩
 exact ⟨_, fun k => rfl, layPl_ok.callF (G := []) rfl (fun k => pln_fun n k)⟩
end Go.Mu
namespace Go.Mu
open Go Go.Proofs
def reR : ReR := fun t => (escT t, t.length - 1)
noncomputable abbrev reTurn := lturn Tryz.prog (layRe0 rpP) (reFH reR) 23 4 [3,4,5] [] [4] []
theorem reSp_ok : SpOK reTurn 49 [3,4,5] [] [4] [] (reSp reR) := mkL_ok fun a h => by
 obtain ⟨l, i⟩ := a
 obtain ⟨h1, h2⟩ := h
 simp only at h1 h2
 subst h1
 have hl := fun i => flat_len_take escC 5 escC_len l i
 have key := app_runs (turn := reTurn) (n := 49) (l := [3,4,5]) (m := []) (lx := [4]) (mx := []) (sz := 1) (fun a i => [.str l, a, .int .i64 (i : Nat)]) (fun a => [a]) (fun i => ((l.take i).flatMap escC).map byteRow) l.length (e := .exit 0) (by simp)
  (fun h D k => by
   refine (re_s0 reR rpP l ((0 : Nat) : Int) D k).trans ?_
   have e1 : IntKind.i64.wrap (((0 : Nat) : Int) + 1) = ((1 : Nat) : Int) := wrap_add1 (by omega)
   have q38 : (((l.getD 0 0).toNat : Int) == 38) = (l.getD 0 0 == 38) := eqc (by decide)
   have q60 : (((l.getD 0 0).toNat : Int) == 60) = (l.getD 0 0 == 60) := eqc (by decide)
   have q62 : (((l.getD 0 0).toNat : Int) == 62) = (l.getD 0 0 == 62) := eqc (by decide)
   have q34 : (((l.getD 0 0).toNat : Int) == 34) = (l.getD 0 0 == 34) := eqc (by decide)
   have q39 : (((l.getD 0 0).toNat : Int) == 39) = (l.getD 0 0 == 39) := eqc (by decide)
   have q43 : (((l.getD 0 0).toNat : Int) == 43) = (l.getD 0 0 == 43) := eqc (by decide)
   simp only [Int.toNat_natCast, e1, q38, q60, q62, q34, q39, q43, take_flat l 0 escC 0 h, List.take_zero, List.flatMap_nil, List.nil_append, dT (show ((0 : Nat) : Int) < l.length by omega), dT (show (0 : Int) ≤ ((0 : Nat) : Int) by omega), Bool.and_self, cond_true]
   generalize l.getD 0 0 = c
   unfold escC
   cases c == 38 <;> cases c == 60 <;> cases c == 62 <;> cases c == 34 <;> cases c == 39 <;> cases c == 43 <;> rfl)
  (fun i h D k => by
   refine (re_s1 reR rpP l ((i + 1 : Nat) : Int) _ i _ D k).trans ?_
   have e1 : IntKind.i64.wrap (((i + 1 : Nat) : Int) + 1) = ((i + 2 : Nat) : Int) := wrap_add1 (by omega)
   have hi := hl (i + 1)
   have q38 : (((l.getD (i + 1) 0).toNat : Int) == 38) = (l.getD (i + 1) 0 == 38) := eqc (by decide)
   have q60 : (((l.getD (i + 1) 0).toNat : Int) == 60) = (l.getD (i + 1) 0 == 60) := eqc (by decide)
   have q62 : (((l.getD (i + 1) 0).toNat : Int) == 62) = (l.getD (i + 1) 0 == 62) := eqc (by decide)
   have q34 : (((l.getD (i + 1) 0).toNat : Int) == 34) = (l.getD (i + 1) 0 == 34) := eqc (by decide)
   have q39 : (((l.getD (i + 1) 0).toNat : Int) == 39) = (l.getD (i + 1) 0 == 39) := eqc (by decide)
   have q43 : (((l.getD (i + 1) 0).toNat : Int) == 43) = (l.getD (i + 1) 0 == 43) := eqc (by decide)
   simp only [Int.toNat_natCast, e1, q38, q60, q62, q34, q39, q43, take_flat l 0 escC (i + 1) h, List.map_append, List.length_append, List.length_map, List.append_eq, beq_self_eq_true, dT (show ((i + 1 : Nat) : Int) < l.length by omega), dT (show (0 : Int) ≤ ((i + 1 : Nat) : Int) by omega), dT (show (2 * (((l.take (i + 1)).flatMap escC).length + 5) + 1000) * 1 ≤ 281474976710656 by omega), dT (show (2 * (((l.take (i + 1)).flatMap escC).length + 4) + 1000) * 1 ≤ 281474976710656 by omega), dT (show (2 * (((l.take (i + 1)).flatMap escC).length + 1) + 1000) * 1 ≤ 281474976710656 by omega), Bool.and_self, cond_true]
   generalize l.getD (i + 1) 0 = c
   unfold escC
   cases c == 38 <;> cases c == 60 <;> cases c == 62 <;> cases c == 34 <;> cases c == 39 <;> cases c == 43 <;> rfl)
  (fun h D k => by
   refine (re_s0 reR rpP l ((0 : Nat) : Int) D k).trans ?_
   rw [h]
   rfl)
  (fun i h D k => by
   refine (re_s1 reR rpP l ((i + 1 : Nat) : Int) _ i _ D k).trans ?_
   simp only [dF (show ¬ ((i + 1 : Nat) : Int) < l.length by omega), cond_false])
 rw [List.take_of_length_le (Nat.le_refl _)] at key
 show ∃ e vs bs H', (∀ k : AExit → List AVal → List (List AVal) → Heap → Ans, cond (l == []) _ _ = k e vs bs H') ∧ _
 cases l with
 | nil => exact ⟨_, _, _, _, fun k => rfl, key⟩
 | cons c l =>
  refine ⟨_, _, _, _, fun k => rfl, ?_⟩
  rw [if_neg (by simp), if_neg (by simp), List.length_map] at key
  exact key
theorem layRe0_ok : (layRe0 rpP).OK Tryz.prog := Lay.nil_ok.addF rrTold_ok
theorem layRe_ok : (layRe rpP reR).OK Tryz.prog := layRe0_ok.loop1 (id := 4) (by kernel_rfl) (by kernel_rfl) (by kernel_rfl) reSp_ok
theorem re_ok (s : Oc) (hs : s.length ≤ 1073741824) : CallOK Tryz.prog 23 [.str s] [] (.ret (.str (escP s)) []) := by
 have hlen := rpP_len s
 have key := fun k => re_fun rpP reR s k
 simp only [dT hs, cond_true] at key
 replace key := fun k => (key k).trans ((congrArg (fun c => cond c _ none) (tst_true ⟨⟨rfl, by show (rpP s).length ≤ _; omega⟩, .refl _, by trivial⟩)).trans (cond_true _ _))
 cases hb : rpP s == [] with
 | true =>
  have h0 : rpP s = [] := by simpa using hb
  refine layRe_ok.callF (G := []) rfl (fun k => (key k).trans ?_)
  rw [hb, cond_true]
  show _ = k (.ret (.str (escT (rpP s))) [])
  rw [h0]; rfl
 | false =>
  refine layRe_ok.callF (G := [.arr 1 ((escP s).map byteRow) ((rpP s).length - 1)]) rfl (fun k => (key k).trans ?_)
  rw [hb, cond_false]
  exact fin_bytes (escP s) ((rpP s).length - 1) _ k
end Go.Mu
namespace Go.Mu
open Go Go.Proofs
def oBad (c : UInt8) : Bool := cond (cond (!cond (decide (IntKind.u8.wrap (BitVec.ofInt 8 (c.toNat : Int) ||| BitVec.ofInt 8 32).toNat ≥ 97)) (decide (IntKind.u8.wrap (BitVec.ofInt 8 (c.toNat : Int) ||| BitVec.ofInt 8 32).toNat ≤ 122)) false) ((c.toNat : Int) != 95) false)
 (cond (decide ((c.toNat : Int) < 48)) true (decide ((c.toNat : Int) > 57))) false
def oIdxFH : FH := .of [(2, loopSpec 19 [0,1,7,8] [] [4] [] (idxSp wfB decB oBad 141))]
theorem oIdx_step (full : Bool) (l : Oc) (i : Nat) (H : Heap) (D : Dfs) (k : Kont) : lturn Tryz.prog Lay.nil oIdxFH 97 2 [0,1,7,8] [] [4] [] (stL 19 [0,1,7,8] [encL full byteRow 0 l, .func 141 [], .int .i64 l.length, .int .i64 i] [] [] H D) k =
 cond (decide ((i : Int) < l.length)) (cond (decide ((i : Int) < l.length)) (cond (oBad (l.getD (i : Int).toNat 0)) (k .ret (stL 19 [4] [.int .i64 i] [] [] H D)) (k .normal (stL 19 [0,1,7,8] [encL full byteRow 0 l, .func 141 [], .int .i64 l.length, .int .i64 (IntKind.i64.wrap ((i : Int) + 1))] [] [] H D))) none)
  (k (.exit 0) (stL 19 [4] [.undef] [] [] H D)) := by kernel_rfl
def layA : Lay := Lay.nil.addL 97 oIdxFH
theorem layA_ok : layA.OK Tryz.prog := Lay.nil_ok.loop1 (id := 2) (by kernel_rfl) (by kernel_rfl) (by kernel_rfl) (idxSp_ok wfB_sub oIdx_step)
def rBadA (c : UInt8) : Bool := cond (!cond (cond (decide ((c.toNat : Int) ≥ 97)) (decide ((c.toNat : Int) ≤ 122)) false) true (cond (decide ((c.toNat : Int) ≥ 65)) (decide ((c.toNat : Int) ≤ 90)) false)) ((c.toNat : Int) != 95) false
def rDig (c : UInt8) : Bool := cond (decide ((c.toNat : Int) ≥ 48)) (decide ((c.toNat : Int) ≤ 57)) false
theorem oBad_eq (c : UInt8) : oBad c = (rBadA c && !rDig c) := by
 have h : ∀ n : Fin 256, oBad (UInt8.ofNat n) = (rBadA (UInt8.ofNat n) && !rDig (UInt8.ofNat n)) := by decide +kernel
 have := h ⟨c.toNat, c.toNat_lt⟩
 simpa using this
theorem rDig_bad (c : UInt8) : (rDig c || oBad c) = rBadA c := by
 have h : ∀ n : Fin 256, (rDig (UInt8.ofNat n) || oBad (UInt8.ofNat n)) = rBadA (UInt8.ofNat n) := by decide +kernel
 have := h ⟨c.toNat, c.toNat_lt⟩
 simpa using this
def nmHit (s : Oc) (i : Nat) : Bool := rBadA (s.getD i 0) && (i == 0 || !rDig (s.getD i 0))
def nameB (s : Oc) : Bool := decide (1 ≤ s.length ∧ s.length ≤ 32) && !(List.range s.length).any (nmHit s)
theorem nmHit_any (c : UInt8) (t : Oc) : (List.range (c :: t).length).any (nmHit (c :: t)) = (rBadA c || t.any oBad) := by
 rw [List.length_cons, List.range_succ_eq_map, List.any_cons, List.any_map]
 have h0 : nmHit (c :: t) 0 = rBadA c := by simp [nmHit]
 have h1 : (nmHit (c :: t) ∘ Nat.succ) = fun i => oBad (t.getD i 0) := by
  funext i
  simp [nmHit, oBad_eq, List.getD_eq_getElem?_getD]
 rw [h0, h1, any_getD]
def rNameSp : LSp := fun vs bs H k => match vs with
 | [.str s, .int .i64 z] => cond (z == 0 && decide (s.length ≤ 4611686018427387903) && bs.isEmpty) (cond ((List.range s.length).any (nmHit s)) (k .ret [.str s, .bool false] [] H) (k (.exit 0) [.str s, .undef] [] H)) none
 | _ => none
def rNameFH : FH := .of [(2, loopSpec 40 [0,3] [] [0,2] [] rNameSp)]
noncomputable abbrev rNameTurn := lturn Tryz.prog layA rNameFH 111 2 [0,3] [] [0,2] []
theorem rName_step0 (i : Nat) (s : Oc) (H : Heap) (D : Dfs) (k : Kont) : rNameTurn (stL 40 [0,3] [.str s, .int .i64 i] [] [] H D) k =
 cond (decide ((i : Int) < s.length)) (cond (decide ((i : Int) < s.length))
  (cond (decide ((i : Int) < s.length) || !!cond (cond (decide (((s.getD (i : Int).toNat 0).toNat : Int) ≥ 97)) (decide (((s.getD (i : Int).toNat 0).toNat : Int) ≤ 122)) false) true (cond (decide (((s.getD (i : Int).toNat 0).toNat : Int) ≥ 65)) (decide (((s.getD (i : Int).toNat 0).toNat : Int) ≤ 90)) false))
   (cond (decide ((i : Int) < s.length) || !(rBadA (s.getD (i : Int).toNat 0) && !((i : Int) == 0)))
    (cond (cond (rBadA (s.getD (i : Int).toNat 0)) (cond ((i : Int) == 0) true (!rDig (s.getD (i : Int).toNat 0))) false) (k .ret (stL 40 [0,2] [.str s, .bool false] [] [] H D)) (k .normal (stL 40 [0,3] [.str s, .int .i64 (IntKind.i64.wrap ((i : Int) + 1))] [] [] H D)))
    none) none) none)
 (k (.exit 0) (stL 40 [0,2] [.str s, .undef] [] [] H D)) := by kernel_rfl
theorem rName_step (i : Nat) (s : Oc) (H : Heap) (D : Dfs) (k : Kont) (hi : i < s.length) (hs : s.length ≤ 4611686018427387903) : rNameTurn (stL 40 [0,3] [.str s, .int .i64 i] [] [] H D) k =
 cond (nmHit s i) (k .ret (stL 40 [0,2] [.str s, .bool false] [] [] H D)) (k .normal (stL 40 [0,3] [.str s, .int .i64 ((i + 1 : Nat) : Int)] [] [] H D)) := by
 rw [rName_step0, decide_eq_true (show (i : Int) < s.length by omega), wrap_add1 (by omega)]
 have e : ((i : Int) == 0) = (i == 0) := by
  rw [Bool.eq_iff_iff]; simp
 simp only [e, nmHit, Int.toNat_natCast, Bool.true_or, cond_true]
 cases rBadA (s.getD i 0) <;> cases (i == 0) <;> cases rDig (s.getD i 0) <;> rfl
theorem rNameSp_ok : SpOK rNameTurn 40 [0,3] [] [0,2] [] rNameSp := by
 intro vs bs H k out ho
 unfold rNameSp at ho
 split at ho
 case h_2 => simp at ho
 rename_i s z
 rw [Bool.cond_eq_ite] at ho
 split at ho
 case isFalse => simp at ho
 rename_i hc
 simp only [Bool.and_eq_true, beq_iff_eq, decide_eq_true_eq, List.isEmpty_iff] at hc
 obtain ⟨⟨rfl, hn⟩, rfl⟩ := hc
 have hrun := fun D k => search_any (turn := rNameTurn) (S := fun i => stL 40 [0,3] [.str s, .int .i64 (i : Nat)] [] [] H D) (hit := nmHit s) (n := s.length) (e0 := .exit 0) (e1 := .ret) (R0 := stL 40 [0,2] [.str s, .undef] [] [] H D) (R1 := stL 40 [0,2] [.str s, .bool false] [] [] H D)
  (fun i k hi => rName_step i s H D k hi hn) (fun k => by rw [rName_step0, decide_eq_false (by omega)]; rfl) (by simp) (by simp) k
 cases ha : (List.range s.length).any (nmHit s) with
 | true =>
  rw [ha] at ho
  exact ⟨_, _, _, _, _, _, .refl _, ⟨_, fun D k => (hrun D k).trans (by rw [ha]; rfl)⟩, .refl _, ho⟩
 | false =>
  rw [ha] at ho
  exact ⟨_, _, _, _, _, _, .refl _, ⟨_, fun D k => (hrun D k).trans (by rw [ha]; rfl)⟩, .refl _, ho⟩
def layB : Lay := layA.addL 111 rNameFH
theorem layB_ok : layB.OK Tryz.prog := layA_ok.loop1 (id := 2) (by kernel_rfl) (by kernel_rfl) (by kernel_rfl) rNameSp_ok
theorem rName_fun (s : Oc) (k : Out → Ans) : iFun Tryz.prog (layB.hd Tryz.prog) layB.fhs 0 111 [.str s] [] k =
 cond (true && decide (s.length ≤ 4611686018427387903) && true) (cond ((List.range s.length).any (nmHit s)) (k (.ret (.bool false) [])) (k (.ret (.bool (cond (decide ((s.length : Int) ≥ 1)) (decide ((s.length : Int) ≤ 32)) false)) []))) none := by kernel_rfl
theorem oName_fun (s : Oc) (k : Out → Ans) : iFun Tryz.prog (layB.hd Tryz.prog) layB.fhs 0 134 [.str s] [] k =
 cond (decide ((0 : Int) < s.length) || !!cond (s == []) true (decide ((s.length : Int) > 32)))
  (cond (decide ((0 : Int) < s.length) || !((!cond (s == []) true (decide ((s.length : Int) > 32))) && decide (((s.getD 0 0).toNat : Int) ≥ 48)))
   (cond (cond (cond (s == []) true (decide ((s.length : Int) > 32))) true (rDig (s.getD 0 0))) (k (.ret (.bool false) []))
    (cond (wfL wfB (encL false byteRow 0 s) && true && ((s.length : Int) == s.length) && true && decide (s.length ≤ 1099511627776) && true)
     (cond ((decL decB (encL false byteRow 0 s)).any oBad) (k (.ret (.bool false) [])) (k (.ret (.bool true) []))) none)) none) none := by kernel_rfl
theorem oName_call (s : Oc) (k : Out → Ans) : iFun Tryz.prog (layB.hd Tryz.prog) layB.fhs 0 134 [.str s] [] k = k (.ret (.bool (nameB s)) []) := by
 rw [oName_fun, wfL_encL wfB_enc, decL_encL decB_enc]
 cases s with
 | nil => rfl
 | cons c t =>
  have h0 : decide ((0 : Int) < ((c :: t).length : Int)) = true := by simp
  have h1 : ((c :: t) == []) = false := rfl
  rw [h0, h1]
  unfold nameB
  rw [nmHit_any]
  by_cases hl : (c :: t).length ≤ 32
  · rw [decide_eq_false (show ¬ (((c :: t).length : Int) > 32) by omega), decide_eq_true (show 1 ≤ (c :: t).length ∧ (c :: t).length ≤ 32 from ⟨by simp, hl⟩), decide_eq_true (show (c :: t).length ≤ 1099511627776 by omega)]
    simp only [List.getD_cons_zero, List.any_cons, beq_self_eq_true, Bool.true_or, Bool.and_self, cond_true, cond_false, Bool.true_and]
    rw [← rDig_bad c]
    cases rDig c <;> cases oBad c <;> cases t.any oBad <;> rfl
  · rw [decide_eq_true (show (((c :: t).length : Int) > 32) by omega), decide_eq_false (show ¬ (1 ≤ (c :: t).length ∧ (c :: t).length ≤ 32) from fun h => hl h.2)]
    rfl
theorem rName_call (s : Oc) (hs : s.length ≤ 4611686018427387903) (k : Out → Ans) : iFun Tryz.prog (layB.hd Tryz.prog) layB.fhs 0 111 [.str s] [] k = k (.ret (.bool (nameB s)) []) := by
 rw [rName_fun, decide_eq_true hs]
 unfold nameB
 have e : cond (decide ((s.length : Int) ≥ 1)) (decide ((s.length : Int) ≤ 32)) false = decide (1 ≤ s.length ∧ s.length ≤ 32) := by
  by_cases h1 : 1 ≤ s.length
  · rw [decide_eq_true (show (s.length : Int) ≥ 1 by omega)]
    by_cases h2 : s.length ≤ 32
    · rw [decide_eq_true (show (s.length : Int) ≤ 32 by omega), decide_eq_true ⟨h1, h2⟩]; rfl
    · rw [decide_eq_false (show ¬ (s.length : Int) ≤ 32 by omega), decide_eq_false (show ¬ (1 ≤ s.length ∧ s.length ≤ 32) from fun h => h2 h.2)]; rfl
  · rw [decide_eq_false (show ¬ (s.length : Int) ≥ 1 by omega), decide_eq_false (show ¬ (1 ≤ s.length ∧ s.length ≤ 32) from fun h => h1 h.1)]; rfl
 rw [e]
 cases (List.range s.length).any (nmHit s) <;> cases decide (1 ≤ s.length ∧ s.length ≤ 32) <;> rfl
end Go.Mu
namespace Go.Mu
open Go Go.Proofs
structure ArgD where
 kind : Int
 name : Oc
 pf : Bool
 path : List Oc
 int : Int
 text : Oc
def oNameTold : FSp := fun xs H k => match xs, H with
 | [.str s], [] => k (.ret (.bool (nameB s)) [])
 | _, _ => none
def rNameTold : FSp := fun xs H k => match xs, H with
 | [.str s], [] => cond (decide (s.length ≤ 4611686018427387903)) (k (.ret (.bool (nameB s)) [])) none
 | _, _ => none
theorem oNameTold_ok (xs : List AVal) (H : Heap) (k : Out → Ans) (out : Out) (ho : oNameTold xs H k = some out) : ∃ o, CallOK Tryz.prog 134 xs H o ∧ k o = some out := by
 unfold oNameTold at ho
 split at ho
 · exact ⟨_, layB_ok.call (oName_call _), ho⟩
 · simp at ho
theorem rNameTold_ok (xs : List AVal) (H : Heap) (k : Out → Ans) (out : Out) (ho : rNameTold xs H k = some out) : ∃ o, CallOK Tryz.prog 111 xs H o ∧ k o = some out := by
 unfold rNameTold at ho
 split at ho
 · rw [Bool.cond_eq_ite] at ho
   split at ho
   · rename_i hs; exact ⟨_, layB_ok.call (rName_call _ (of_decide_eq_true hs)), ho⟩
   · simp at ho
 · simp at ho
end Go.Mu
namespace Go.Mu
open Go Go.Proofs
structure VaD where
 kind : Int
 int : Int
 text : Oc
 lf : Bool
 ln : Nat
 lr : Nat → List AVal
 kf : Bool
 keys : List Oc
def va0 : VaD := ⟨0, 0, [], true, 0, fun _ => [], true, []⟩
def VaD.list (v : VaD) : AVal := .list v.lf v.ln v.lr
def encVa (v : VaD) : List AVal := [.int .i64 v.kind, .int .i64 v.int, .str v.text, .list v.lf v.ln v.lr, encSs v.kf v.keys]
def rowV : AVal → Nat → List AVal
 | .list _ _ r => r
 | _ => fun _ => []
def decVa (r : List AVal) : VaD := ⟨intOf (r.getD 0 .undef), intOf (r.getD 1 .undef), strOf (r.getD 2 .undef), fullOf (r.getD 3 .undef), lenL (r.getD 3 .undef), rowV (r.getD 3 .undef), fullOf (r.getD 4 .undef), decL decS (r.getD 4 .undef)⟩
theorem decVa_enc (v : VaD) : decVa (encVa v) = v := by
 have : decL decS (encSs v.kf v.keys) = v.keys := decL_encL (fun a => rfl) _
 unfold decVa encVa
 simp only [List.getD_cons_zero, List.getD_cons_succ, intOf, strOf, fullOf, lenL, rowV]
 exact congrArg (fun l => VaD.mk v.kind v.int v.text v.lf v.ln v.lr v.kf l) this
end Go.Mu
namespace Go.Mu
open Go Go.Proofs
end Go.Mu
namespace Go.Mu
open Go Go.Proofs
abbrev vals (x : AVal) : List VaD := decL decVa x
def cellsA : AVal → List AVal
 | .agg x => x
 | _ => []
def isV (x : List AVal) : Prop := x = encVa (decVa x)
theorem isV_enc (v : VaD) : isV (encVa v) := by unfold isV; rw [decVa_enc]
noncomputable def vrTold (ok : List AVal → Prop) (post : List AVal → (Out → Ans) → Ans) : FSp := mkF (fun xs H => cellsA (xs.getD 0 .undef)) ok (fun x => [.agg x]) (fun _ => []) post
abbrev NsT := List AVal → Int → Int
noncomputable def nsTold (W : List AVal → Prop) (N : NsT) : FSp := mkF (fun xs H => (cellsA (xs.getD 0 .undef), aI xs 1)) (fun a => W a.1 ∧ 0 ≤ a.2 ∧ a.2 ≤ 16) (fun a => [.agg a.1, .int .i64 a.2]) (fun _ => []) (fun a k => k (.ret (.int .i64 (N a.1 a.2)) []))
def lnV (x : AVal) : Nat := (vals x).length
end Go.Mu
namespace Go.Mu
open Go Go.Proofs
noncomputable def wfVa (r : List AVal) : Bool := tst (r = encVa (decVa r))
theorem vrTold_ok {P : Program} {ok : List AVal → Prop} {post : List AVal → (Out → Ans) → Ans} {f : FuncId} (h : ∀ x, ok x → ∃ o, (∀ k, post x k = k o) ∧ CallOK P f [.agg x] [] o) : ∀ xs H k out, vrTold ok post xs H k = some out → ∃ o, CallOK P f xs H o ∧ k o = some out := mkF_ok h
def wfVal : Nat → VaD → Prop
 | 0, _ => False
 | d + 1, v => -9223372036854775808 ≤ v.int ∧ v.int ≤ 9223372036854775807 ∧ wfL wfVa v.list = true ∧ ∀ x ∈ vals v.list, wfVal d x
def szV : Nat → VaD → Nat
 | 0, _ => 96
 | d + 1, v => 96 + 16 * v.text.length + (v.keys.map (fun k => 16 + 16 * k.length)).sum + ((vals v.list).map (szV d)).sum
theorem szV_64 (d : Nat) (v : VaD) : 64 ≤ szV d v := by
 cases d with
 | zero => unfold szV; omega
 | succ d => unfold szV; omega
theorem sum_ge {α : Type} (f : α → Nat) (c : Nat) (h : ∀ a, c ≤ f a) : ∀ l : List α, c * l.length ≤ (l.map f).sum
 | [] => by simp
 | a :: l => by
  have := sum_ge f c h l
  have := h a
  rw [List.map_cons, List.sum_cons, List.length_cons, Nat.mul_add, Nat.mul_one]
  omega
theorem sum_mem {α : Type} (f : α → Nat) : ∀ (l : List α) (a : α), a ∈ l → f a ≤ (l.map f).sum
 | b :: l, a, h => by
  rw [List.map_cons, List.sum_cons]
  rcases List.mem_cons.1 h with rfl | h
  · omega
  · have := sum_mem f l a h; omega
def WlD (d : Nat) (x : AVal) : Prop := wfL wfVa x = true ∧ (∀ v ∈ vals x, wfVal d v) ∧ ((vals x).map (szV d)).sum ≤ 16777216
def WvD (d : Nat) (x : List AVal) : Prop := isV x ∧ wfVal d (decVa x) ∧ szV d (decVa x) ≤ 16777216
theorem WvD_enc {d : Nat} {v : VaD} (h : wfVal d v) (h2 : szV d v ≤ 16777216) : WvD d (encVa v) := by
 refine ⟨isV_enc v, ?_, ?_⟩ <;> rw [decVa_enc] <;> assumption
theorem WlD_mem {d : Nat} {x : AVal} (h : WlD d x) {v : VaD} (hv : v ∈ vals x) : wfVal d v ∧ szV d v ≤ 16777216 :=
 ⟨h.2.1 v hv, Nat.le_trans (sum_mem (szV d) _ v hv) h.2.2⟩
theorem WlD_len {d : Nat} {x : AVal} (h : WlD d x) : (vals x).length ≤ 1048576 := by
 have := sum_ge (szV d) 64 (szV_64 d) (vals x)
 have := h.2.2
 omega
theorem wf_list {d : Nat} {v : VaD} (h : wfVal (d + 1) v) (h2 : szV (d + 1) v ≤ 16777216) : WlD d v.list := by
 refine ⟨h.2.2.1, h.2.2.2, ?_⟩
 unfold szV at h2
 omega
theorem wf_keys {d : Nat} {v : VaD} (h2 : szV (d + 1) v ≤ 16777216) : v.keys.length ≤ 1048576 := by
 unfold szV at h2
 have := sum_ge (fun k : Oc => 16 + 16 * k.length) 16 (fun k => by omega) v.keys
 omega
theorem lnV_eq {d : Nat} {x : AVal} (h : WlD d x) : lnV x = lenL x := lenL_decL h.1
end Go.Mu
namespace Go.Mu
open Go Go.Proofs
structure b1H where
 P0 : Obj
 x : Bld
end Go.Mu
namespace Go.Mu
open Go Go.Proofs
def digsF : Nat → Nat → Oc → Oc
 | 0, _, t => t
 | f + 1, u, t => bif u / 10 == 0 then UInt8.ofNat (48 + u % 10) :: t else digsF f (u / 10) (UInt8.ofNat (48 + u % 10) :: t)
structure PrA where
 n : Int
 at_ : Nat
 u : Nat
 t : Oc
def printM (n : Int) : Oc := bif decide (n < 0) then 45 :: digsF 19 n.natAbs [] else digsF 19 n.natAbs []
end Go.Mu
namespace Go.Mu
open Go Go.Proofs
noncomputable def ckTold (W : List AVal → Prop) (N : List AVal → Int) : FSp := vrTold W (fun x k => k (.ret (.int .i64 (N x)) []))
end Go.Mu
namespace Go.Mu
open Go Go.Proofs
def ascB (c : UInt8) : Bool := decide (1 ≤ c.toNat) && decide (c.toNat < 128) && c != 60
abbrev ascL (t : Oc) : Prop := ∀ c ∈ t, ascB c = true
theorem ascL_flat {α : Type} {f : α → Oc} {l : List α} (h : ∀ a ∈ l, ascL (f a)) : ascL (l.flatMap f) := fun c hc => by
 obtain ⟨a, ha, hc⟩ := List.mem_flatMap.1 hc
 exact h a ha c hc
theorem ascL_of {t : Oc} (h : t.all ascB = true) : ascL t := fun c hc => List.all_eq_true.1 h c hc
theorem rp_asc {t : Oc} (h : ascL t) : rpP t = t := by
 rw [← repB_rp]
 unfold repB
 refine repF_ascii t t.length (Nat.le_refl _) (fun c hc => ?_)
 have := h c hc
 unfold ascB at this
 simp only [Bool.and_eq_true, decide_eq_true_eq] at this
 exact this.1
end Go.Mu
namespace Go.Mu
open Go Go.Proofs
def canA (v : VaD) : VaD := { v with ln := (vals v.list).length, lr := fun i => encVa ((vals v.list).getD i va0) }
theorem canA_sub {d : Nat} {v : VaD} (h : WlD d v.list) : Sub (.agg (encVa v)) (.agg (encVa (canA v))) := by
 have hq : Sub v.list (encL (fullOf v.list) encVa va0 (vals v.list)) := sub_encL h.1 (fun r hr => by
  have h3 : r = encVa (decVa r) := of_tst hr
  have : SubL r r := .refl _
  rw [h3] at this
  rw [h3]
  rw [decVa_enc]
  exact .refl _)
 exact .agg (.cons (.refl _) (.cons (.refl _) (.cons (.refl _) (.cons hq (.refl _)))))
theorem canA_vals (v : VaD) : vals (canA v).list = vals v.list := decL_encL (f := encVa) (d := va0) (full := v.lf) decVa_enc (vals v.list)
end Go.Mu
namespace Go.Mu
open Go Go.Proofs
noncomputable def layY8 : Lay := b0_lay (Lay.nil.addF 48 onePTold)
theorem layY8_ok : layY8.OK Tryz.prog := b0_ok (Lay.nil_ok.addF onePTold_ok)
noncomputable def decX : Nat → Oc → Bld → Bld
 | 0, _, x => x
 | m + 1, s, x => bif s == [] then x else bif decide (0 < (oneP s).2) then decX m (s.drop (oneP s).2) (x.add 0 2 (oneP s).1) else decX m (s.drop 1) (x.add 0 2 [s.getD 0 0])
noncomputable def decR : Nat → Oc → Oc
 | 0, _ => []
 | m + 1, s => bif s == [] then [] else bif decide (0 < (oneP s).2) then (oneP s).1 ++ decR m (s.drop (oneP s).2) else s.getD 0 0 :: decR m (s.drop 1)
noncomputable def dcSp (R : Oc → Bld → Bld) : LSp := mkL (fun vs _ H => (bld H 0 2, aS vs 0)) (fun x => x.1.can 0 2 ∧ x.1.t.length + 4 * x.2.length ≤ 1073741824) (fun x => [.str x.2, .ptr (.hp 0) 0]) (fun _ => []) (fun x => (b0H.mk x.1).heap)
 (fun x k => k (.exit 0) [.ptr (.hp 0) 0] [] (b0H.mk (R x.2 x.1)).heap)
noncomputable def dcFH (R : Oc → Bld → Bld) : FH := { FH.of [(2, loopSpec 26 [0,3] [] [3] [] (dcSp R))] with heap := [3], typed := [(3, [(0, bT)])], exact := true }
theorem dc_step (R : Oc → Bld → Bld) (x : Bld) (s : Oc) (D : Dfs) (k : Kont) (n0 : Int) (e_n0 : n0 = ((↑(oneP s).snd : Int)))
 (l1 : Oc) (e_l1 : l1 = ((Bld.mk x.ad x.b x.rows x.v).t))
 (m2 : Nat) (e_m2 : m2 = (l1.length))
 (l3 : Oc) (e_l3 : l3 = ((oneP s).fst))
 (n4 : Int) (e_n4 : n4 = ((↑s.length : Int)))
 (c5 : Bool) (e_c5 : c5 = (decide (n4 ≤ n4)))
 (l6 : Oc) (e_l6 : l6 = (List.take n4.toNat s))
 (m7 : Nat) (e_m7 : m7 = (wsV l1 l3 x.v))
 (n8 : Int) (e_n8 : n8 = ((↑(s.getD 0 0).toNat : Int)))
 (v9 : UInt8) (e_v9 : v9 = (UInt8.ofNat n8.toNat))
 (l10 : Oc) (e_l10 : l10 = ([v9]))
 (m11 : Nat) (e_m11 : m11 = (wsV l1 l10 x.v)) : lturn Tryz.prog layY8 (dcFH R) 20 2 [0,3] [] [3] [] (stL 26 [0,3] [.str s, .ptr (.hp 0) 0] [] [] (b0H.mk x).heap D) k = (
 let z0 := Bld.mk x.ad x.b x.rows x.v;
  bif !s == [] then bif decide (s.length ≤ 1099511627776) then bif decide (n0 > 0) then bif tst ((Bld.can 0 2 z0 ∧ m2 + l3.length ≤ 1099511627776) ∧ SubL [AVal.ptr (Oid.hp 0) 0, AVal.str l3] [AVal.ptr (Oid.hp 0) 0, AVal.str l3] ∧ (b0H.mk x).heap = (b0H.mk z0).heap) then bif decide (n0 ≤ n4) && c5 then k AExit.normal (stL 26 [0, 3] [AVal.str (List.drop n0.toNat l6), AVal.ptr (Oid.hp 0) 0] [] [] (b0H.mk (Bld.mk (AVal.ptr (Oid.hp 0) 0) (bfB 2 (l1.append l3) m7) (x.rows.append (List.map (fun (c : UInt8) => [AVal.int .u8 (↑c.toNat : Int)]) l3)) m7)).heap D) else none else none else bif decide (0 < n4) then bif tst ((Bld.can 0 2 z0 ∧ m2 ≤ 1073741824) ∧ SubL [AVal.ptr (Oid.hp 0) 0, AVal.int .u8 n8] [AVal.ptr (Oid.hp 0) 0, AVal.int .u8 (↑v9.toNat : Int)] ∧ (b0H.mk x).heap = (b0H.mk z0).heap) then bif decide (1 ≤ n4) && c5 then k AExit.normal (stL 26 [0, 3] [AVal.str (List.drop (Int.toNat 1) l6), AVal.ptr (Oid.hp 0) 0] [] [] (b0H.mk (Bld.mk (AVal.ptr (Oid.hp 0) 0) (bfB 2 (l1.append l10) m11) (x.rows.append [[AVal.int .u8 (↑v9.toNat : Int)]]) m11)).heap D) else none else none else none else none else k (AExit.exit 0) (stL 26 [3] [AVal.ptr (Oid.hp 0) 0] [] [] (b0H.mk x).heap D)) := by
  subst e_n0 e_l1 e_m2 e_l3 e_n4 e_c5 e_l6 e_m7 e_n8 e_v9 e_l10 e_m11
  kernel_rfl
noncomputable def layY9 (R : Oc → Bld → Bld) : Lay := layY8.addL 20 (dcFH R)
theorem dc_fun (R : Oc → Bld → Bld) (s : Oc) (k : Out → Ans) (m0 : Nat) (e_m0 : m0 = ((R s (Bld.mk AVal.nilptr AVal.nilX [] 0)).v))
 (l1 : Oc) (e_l1 : l1 = ((Bld.mk (R s (Bld.mk AVal.nilptr AVal.nilX [] 0)).ad (R s (Bld.mk AVal.nilptr AVal.nilX [] 0)).b
  (R s (Bld.mk AVal.nilptr AVal.nilX [] 0)).rows m0).t)) : iFun Tryz.prog ((layY9 R).hd Tryz.prog) (layY9 R).fhs 0 20 [.str s] [] k = (
 let z0 := Bld.mk AVal.nilptr AVal.nilX [] 0;
 let z1 := Bld.mk (R s z0).ad (R s z0).b (R s z0).rows m0;
 bif tst ((Bld.can 0 2 z0 ∧ 0 + 4 * s.length ≤ 1073741824) ∧ SubTL [AVal.str s, AVal.ptr (Oid.hp 0) 0] [AVal.str s, AVal.ptr (Oid.hp 0) 0] ∧ ([] : List (List AVal)) = [] ∧ [Obj.var [AVal.nilptr, AVal.nilX], Obj.note 55 2, Obj.arr 1 [] 0, Obj.note 5 0] = (b0H.mk z0).heap) then bif tst ((Bld.can 0 2 z1 ∧ l1.length ≤ 1099511627776) ∧ SubL [AVal.ptr (Oid.hp 0) 0] [AVal.ptr (Oid.hp 0) 0] ∧ (b0H.mk (R s z0)).heap = (b0H.mk z1).heap) then k (Out.ret (AVal.str l1) (b0H.mk (Bld.mk (R s z0).ad (R s z0).b [] (bif l1 == [] then m0 else m0 + 1))).heap) else none else none) := by
  subst e_m0 e_l1
  kernel_rfl
noncomputable abbrev dcTurn (R : Oc → Bld → Bld) := lturn Tryz.prog layY8 (dcFH R) 20 2 [0,3] [] [3] []
theorem dc_runs (R : Oc → Bld → Bld) : ∀ (m : Nat) (s : Oc) (x : Bld), s.length ≤ m → x.can 0 2 → x.t.length + 4 * s.length ≤ 1073741824 →
 LoopRuns (dcTurn R) 26 [0,3] [] [3] [] [.str s, .ptr (.hp 0) 0] [] (b0H.mk x).heap (.exit 0) [.ptr (.hp 0) 0] [] (b0H.mk (decX m s x)).heap := by
 intro m
 induction m with
 | zero =>
  intro s x hm hx ht
  obtain rfl : s = [] := List.eq_nil_of_length_eq_zero (by omega)
  exact .stop (by simp) (fun D k => dc_step R x [] D k _ rfl _ rfl _ rfl _ rfl _ rfl _ rfl _ rfl _ rfl _ rfl _ rfl _ rfl _ rfl)
 | succ m ih =>
  intro s x hm hx ht
  cases h0 : s == [] with
  | true =>
   obtain rfl : s = [] := by simpa using h0
   exact .stop (by simp) (fun D k => dc_step R x [] D k _ rfl _ rfl _ rfl _ rfl _ rfl _ rfl _ rfl _ rfl _ rfl _ rfl _ rfl _ rfl)
  | false =>
   have hne : s ≠ [] := by simpa using h0
   have hl : 0 < s.length := List.length_pos_iff.2 hne
   obtain ⟨o1, o2, o3, _⟩ := oneP_is s (by omega)
   rw [decX, h0, cond_false]
   have key := fun D k => dc_step R x s D k ((oneP s).2 : Nat) rfl x.t rfl _ rfl (oneP s).1 rfl (s.length : Nat) rfl _ rfl s (by rw [Int.toNat_natCast, List.take_length]) _ rfl ((s.getD 0 0).toNat : Int) rfl (s.getD 0 0) (by simp) _ rfl _ rfl
   simp (disch := omega) only [h0, dT, Bool.not_false, cond_true, Bool.and_self, Int.toNat_natCast] at key
   by_cases hn : 0 < (oneP s).2
   · simp only [dT (show (((oneP s).2 : Nat) : Int) > 0 by omega), dT (show (((oneP s).2 : Nat) : Int) ≤ (s.length : Int) by omega), cond_true, Bool.and_true] at key
     replace key := fun D k => (key D k).trans ((congrArg (fun c => cond c _ none) (tst_true ⟨⟨hx, by omega⟩, .refl _, by trivial⟩)).trans rfl)
     rw [dT hn, cond_true]
     have hd : (s.drop (oneP s).2).length = s.length - (oneP s).2 := List.length_drop
     exact .step key (ih (s.drop (oneP s).2) (x.add 0 2 (oneP s).1) (by omega) (Bld.add_can hx _) (by rw [Bld.add_t, List.length_append]; omega))
   · simp only [dF (show ¬ (((oneP s).2 : Nat) : Int) > 0 by omega), cond_false] at key
     replace key := fun D k => (key D k).trans ((congrArg (fun c => cond c _ none) (tst_true ⟨⟨hx, by omega⟩, .refl _, by trivial⟩)).trans rfl)
     rw [dF hn, cond_false]
     have hd : (s.drop 1).length = s.length - 1 := List.length_drop
     exact .step key (ih (s.drop 1) (x.add 0 2 [s.getD 0 0]) (by omega) (Bld.add_can hx _) (by rw [Bld.add_t, List.length_append, List.length_singleton]; omega))
theorem dcSp_ok : SpOK (dcTurn (fun s x => decX s.length s x)) 26 [0,3] [] [3] [] (dcSp (fun s x => decX s.length s x)) := mkL_ok fun a h => ⟨_, _, _, _, fun k => rfl, dc_runs _ a.2.length a.2 a.1 (Nat.le_refl _) h.1 h.2⟩
theorem layY9_ok : (layY9 (fun s x => decX s.length s x)).OK Tryz.prog := layY8_ok.loop1 (id := 2) (by kernel_rfl) (by kernel_rfl) (by kernel_rfl) dcSp_ok
theorem decX_is : ∀ (m : Nat) (s : Oc) (x : Bld), x.can 0 2 → (decX m s x).can 0 2 ∧ (decX m s x).t = x.t ++ decR m s
 | 0, s, x, h => ⟨h, by rw [decX, decR, List.append_nil]⟩
 | m + 1, s, x, h => by
  rw [decX, decR]
  cases s == [] with
  | true => exact ⟨h, by simp⟩
  | false =>
   simp only [cond_false]
   cases decide (0 < (oneP s).2) with
   | true =>
    obtain ⟨h1, h2⟩ := decX_is m (s.drop (oneP s).2) _ (Bld.add_can h (oneP s).1)
    exact ⟨h1, by simp only [cond_true]; rw [h2, Bld.add_t, List.append_assoc]⟩
   | false =>
    obtain ⟨h1, h2⟩ := decX_is m (s.drop 1) _ (Bld.add_can h [s.getD 0 0])
    exact ⟨h1, by simp only [cond_false]; rw [h2, Bld.add_t, List.append_assoc]; rfl⟩
theorem decR_len : ∀ (m : Nat) (s : Oc), s.length ≤ 1099511627776 → (decR m s).length ≤ 4 * s.length
 | 0, s, _ => Nat.zero_le _
 | m + 1, s, hs => by
  rw [decR]
  cases h0 : s == [] with
  | true => exact Nat.zero_le _
  | false =>
   have hne : s ≠ [] := by simpa using h0
   have hl : 0 < s.length := List.length_pos_iff.2 hne
   obtain ⟨o1, o2, o3, _⟩ := oneP_is s hs
   simp only [cond_false]
   by_cases hn : 0 < (oneP s).2
   · rw [dT hn, cond_true, List.length_append]
     have hd : (s.drop (oneP s).2).length = s.length - (oneP s).2 := List.length_drop
     have := decR_len m (s.drop (oneP s).2) (by omega)
     omega
   · rw [dF hn, cond_false, List.length_cons]
     have hd : (s.drop 1).length = s.length - 1 := List.length_drop
     have := decR_len m (s.drop 1) (by omega)
     omega
noncomputable def decP (s : Oc) : Oc := decR s.length s
theorem decP_ok (s : Oc) (hs : s.length ≤ 268435456) : CallOK Tryz.prog 20 [.str s] [] (.ret (.str (decP s)) []) := by
 obtain ⟨c1, t1⟩ := decX_is s.length s Bld.new (Bld.new_can 0 2)
 have hl := decR_len s.length s (by omega)
 have t2 : (decX s.length s Bld.new).t = decP s := by rw [t1]; rfl
 have key := fun k => (dc_fun (fun s x => decX s.length s x) s k _ rfl (decX s.length s Bld.new).t rfl).trans
  ((congrArg (fun c => cond c _ none) (tst_true ⟨⟨Bld.new_can 0 2, by omega⟩, .refl _, by trivial⟩)).trans ((cond_true _ _).trans
  ((congrArg (fun c => cond c _ none) (tst_true ⟨⟨c1, by rw [t2]; unfold decP; omega⟩, .refl _, by trivial⟩)).trans (cond_true _ _))))
 rw [← t2]
 exact layY9_ok.callF rfl key
noncomputable def decTold : FSp := mkFS [.s] (fun xs => decide ((aS xs 0).length ≤ 268435456)) (fun xs k => k (.ret (.str (decP (aS xs 0))) []))
theorem decTold_ok : ∀ xs H k out, decTold xs H k = some out → ∃ o, CallOK Tryz.prog 20 xs H o ∧ k o = some out := mkFS_ok fun ys xs e h => by
 obtain ⟨s, rfl⟩ : ∃ s, xs = [.str s] := ⟨_, e⟩
 exact ⟨_, fun k => rfl, decP_ok s (of_decide_eq_true h)⟩
structure ClA where
 s : Oc
 f : Bool
 l : Oc
 n : Int
 i : Nat
 H : Heap
end Go.Mu
namespace Go.Proofs
open Go.RowKit Go.Shelf
attribute [local go_sem] Oper.semAt_some
def Tryz.cRen : Ren := {
 f := fun x => match x with
  | 137 => 67
  | 217 => 96
  | 266 => 112
  | n => n,
 t := fun x => match x with
  | 3 => 3
  | 5 => 5
  | 9 => 9
  | n => n,
 g := fun x => match x with
  | n => n }
theorem Tryz.cRen_137 : Lays.n137 Tryz.prog Tryz.cRen := {
 mixed := by kernel_rfl
 f137 := Tryz.func67.trans (congrArg some (by kernel_rfl))
 f217 := Tryz.func96.trans (congrArg some (by kernel_rfl))
 f266 := Tryz.func112.trans (congrArg some (by kernel_rfl))
 t3 := Tryz.underlying3
 a3 := Tryz.isAgg3
 z3 := Tryz.sizeOf3
 v3 := Tryz.zeroValue3
 t5 := Tryz.underlying5
 a5 := Tryz.isAgg5
 z5 := Tryz.sizeOf5
 v5 := Tryz.zeroValue5
 t9 := Tryz.underlying9
 a9 := Tryz.isAgg9
 z9 := Tryz.sizeOf9
 v9 := Tryz.zeroValue9
}
def cleanC (l : Oc) (c : UInt8) : Bool := decide (Lib.indexByte l c ≥ 0)
def cleanM (l : Oc) : Bool := !(cleanC l 60 || cleanC l 62 || cleanC l 34 || cleanC l 39)
abbrev blkC : Obj := .cells #[.int .u8 60, .int .u8 62, .int .u8 34, .int .u8 39] 5 (4, 5)
set_option maxHeartbeats 2000000 in
theorem uClean (s : ByteArray) (w : World) : Calls Tryz.prog 35 #[.string s] w fun e w' => e = .returned (.bool (cleanM s.data.toList)) ∧ Below w.heap.size w w' := by
 refine (callsIn_wide (n := 3)).1 ?_
 have kc := fun (w : World) (C : Array Value) (n c : Nat) => Lib.run_convert_bytes_const (P := Tryz.prog) w 43 5 C n c Tryz.underlying43 Tryz.underlying5
 have hcell : ∀ i c, (#[Value.int .u8 60, Value.int .u8 62, Value.int .u8 34, Value.int .u8 39] : Array Value)[i]? = some c → (w.alloc blkC).cell? ⟨w.heap.size, i, none⟩ = some c := fun i c h => by
  have := World.alloc_heap_new w blkC
  simp only [World.cell?, this]
  simpa using h
 have hc0 := hcell 0 _ rfl
 have hc1 := hcell 1 _ rfl
 have hc2 := hcell 2 _ rfl
 have hc3 := hcell 3 _ rfl
 unfold blkC at hc0 hc1 hc2 hc3
 refine callsIn_of_wp Tryz.func35 rfl trivial ?_ rfl
 simp only [Tryz.ntmps35, List.size_toArray, List.length_cons, List.length_nil, Nat.reduceAdd, Nat.reduceSub, Array.replicate_succ, Array.replicate_zero, List.push_toArray, List.append_toArray, List.nil_append, List.cons_append]
 have hbw : Below w.heap.size w (w.alloc blkC) := (Below.refl _ w).alloc (Nat.le_refl _) _
 unfold blkC at hbw
 gi_wp2
 gi_loopw [8] (fun p wr => ∃ i : Nat, p = .int .i64 i ∧ i ≤ 4 ∧ wr = w.alloc blkC ∧ ∀ k, k < i → cleanC s.data.toList (([60, 62, 34, 39] : Oc).getD k 0) = false) (fun p wr => 4 - (intOf p).toNat)
 case atStart =>
  exact ⟨0, rfl, by omega, rfl, fun k hk => by omega⟩
 case round =>
  obtain ⟨i, rfl, hi, rfl, hk⟩ := hrel
  unfold blkC
  rcases (show i = 0 ∨ i = 1 ∨ i = 2 ∨ i = 3 ∨ i = 4 by omega) with rfl | rfl | rfl | rfl | rfl
  · have cB : ∀ w', Calls Tryz.prog 67 #[.string s, .int .u8 60] w' fun e w'' => e = .returned (.int .i64 (Lib.indexByte s.data.toList 60)) ∧ w'' = w' := fun w' => Any.strings_IndexByte Tryz.cRen_137 s 60 w'
    have hd : cleanC s.data.toList 60 = decide (Lib.indexByte s.data.toList 60 ≥ 0) := rfl
    generalize Lib.indexByte s.data.toList 60 = x at cB hd
    by_cases hb : x ≥ 0
    · rw [decide_eq_true hb] at hd
      have hM : cleanM s.data.toList = false := by unfold cleanM; rw [hd]; simp
      gi_wp2_with (refine ⟨trivial, ?_⟩; gi_at_call 67; refine (callsIn_wide.2 (cB _)).mono ?_; rintro e w' ⟨rfl, rfl⟩)
      go_ret
      exact ⟨congrArg (fun b => Ending.returned (Value.bool b)) hM.symm, hbw⟩
    · rw [decide_eq_false hb] at hd
      gi_wp2_with (refine ⟨trivial, ?_⟩; gi_at_call 67; refine (callsIn_wide.2 (cB _)).mono ?_; rintro e w' ⟨rfl, rfl⟩)
      refine ⟨⟨1, by first | rfl | trivial, by omega, by first | rfl | trivial, fun k hk' => ?_⟩, by simp [intOf]⟩
      by_cases he : k = 0
      · subst he; exact hd
      · exact hk k (by omega)
  · have cB : ∀ w', Calls Tryz.prog 67 #[.string s, .int .u8 62] w' fun e w'' => e = .returned (.int .i64 (Lib.indexByte s.data.toList 62)) ∧ w'' = w' := fun w' => Any.strings_IndexByte Tryz.cRen_137 s 62 w'
    have hd : cleanC s.data.toList 62 = decide (Lib.indexByte s.data.toList 62 ≥ 0) := rfl
    generalize Lib.indexByte s.data.toList 62 = x at cB hd
    by_cases hb : x ≥ 0
    · rw [decide_eq_true hb] at hd
      have hM : cleanM s.data.toList = false := by unfold cleanM; rw [hd]; simp
      gi_wp2_with (refine ⟨trivial, ?_⟩; gi_at_call 67; refine (callsIn_wide.2 (cB _)).mono ?_; rintro e w' ⟨rfl, rfl⟩)
      go_ret
      exact ⟨congrArg (fun b => Ending.returned (Value.bool b)) hM.symm, hbw⟩
    · rw [decide_eq_false hb] at hd
      gi_wp2_with (refine ⟨trivial, ?_⟩; gi_at_call 67; refine (callsIn_wide.2 (cB _)).mono ?_; rintro e w' ⟨rfl, rfl⟩)
      refine ⟨⟨2, by first | rfl | trivial, by omega, by first | rfl | trivial, fun k hk' => ?_⟩, by simp [intOf]⟩
      by_cases he : k = 1
      · subst he; exact hd
      · exact hk k (by omega)
  · have cB : ∀ w', Calls Tryz.prog 67 #[.string s, .int .u8 34] w' fun e w'' => e = .returned (.int .i64 (Lib.indexByte s.data.toList 34)) ∧ w'' = w' := fun w' => Any.strings_IndexByte Tryz.cRen_137 s 34 w'
    have hd : cleanC s.data.toList 34 = decide (Lib.indexByte s.data.toList 34 ≥ 0) := rfl
    generalize Lib.indexByte s.data.toList 34 = x at cB hd
    by_cases hb : x ≥ 0
    · rw [decide_eq_true hb] at hd
      have hM : cleanM s.data.toList = false := by unfold cleanM; rw [hd]; simp
      gi_wp2_with (refine ⟨trivial, ?_⟩; gi_at_call 67; refine (callsIn_wide.2 (cB _)).mono ?_; rintro e w' ⟨rfl, rfl⟩)
      go_ret
      exact ⟨congrArg (fun b => Ending.returned (Value.bool b)) hM.symm, hbw⟩
    · rw [decide_eq_false hb] at hd
      gi_wp2_with (refine ⟨trivial, ?_⟩; gi_at_call 67; refine (callsIn_wide.2 (cB _)).mono ?_; rintro e w' ⟨rfl, rfl⟩)
      refine ⟨⟨3, by first | rfl | trivial, by omega, by first | rfl | trivial, fun k hk' => ?_⟩, by simp [intOf]⟩
      by_cases he : k = 2
      · subst he; exact hd
      · exact hk k (by omega)
  · have cB : ∀ w', Calls Tryz.prog 67 #[.string s, .int .u8 39] w' fun e w'' => e = .returned (.int .i64 (Lib.indexByte s.data.toList 39)) ∧ w'' = w' := fun w' => Any.strings_IndexByte Tryz.cRen_137 s 39 w'
    have hd : cleanC s.data.toList 39 = decide (Lib.indexByte s.data.toList 39 ≥ 0) := rfl
    generalize Lib.indexByte s.data.toList 39 = x at cB hd
    by_cases hb : x ≥ 0
    · rw [decide_eq_true hb] at hd
      have hM : cleanM s.data.toList = false := by unfold cleanM; rw [hd]; simp
      gi_wp2_with (refine ⟨trivial, ?_⟩; gi_at_call 67; refine (callsIn_wide.2 (cB _)).mono ?_; rintro e w' ⟨rfl, rfl⟩)
      go_ret
      exact ⟨congrArg (fun b => Ending.returned (Value.bool b)) hM.symm, hbw⟩
    · rw [decide_eq_false hb] at hd
      gi_wp2_with (refine ⟨trivial, ?_⟩; gi_at_call 67; refine (callsIn_wide.2 (cB _)).mono ?_; rintro e w' ⟨rfl, rfl⟩)
      refine ⟨⟨4, by first | rfl | trivial, by omega, by first | rfl | trivial, fun k hk' => ?_⟩, by simp [intOf]⟩
      by_cases he : k = 3
      · subst he; exact hd
      · exact hk k (by omega)
  · have hM : cleanM s.data.toList = true := by
     have h0 := hk 0 (by omega)
     have h1 := hk 1 (by omega)
     have h2 := hk 2 (by omega)
     have h3 := hk 3 (by omega)
     simp only [List.getD_cons_zero, List.getD_cons_succ] at h0 h1 h2 h3
     unfold cleanM
     rw [h0, h1, h2, h3]; rfl
    gi_wp2
    go_ret
    exact ⟨congrArg (fun b => Ending.returned (Value.bool b)) hM.symm, hbw⟩
end Go.Proofs
namespace Go.Mu
open Go Go.Proofs
theorem clean_ok (s : Oc) : CallOK Tryz.prog 35 [.str s] [] (.ret (.bool (cleanM s)) []) := by
 refine CallOK.below (fun w E cs sim hl hr => ?_)
 obtain ⟨x, rfl⟩ : ∃ x, cs = [x] := by
  match cs, hl with
  | [x], _ => exact ⟨x, rfl⟩
 obtain ⟨b, e1, e2⟩ := rep_str (hr 0 (by simp))
 replace e1 : x = .string b := e1
 subst e1
 refine ⟨.bool (cleanM s), ?_, .pure _ _ (.bool _)⟩
 rw [← e2]
 exact uClean b w
def cleanTold : FSp := mkFS [.s] (fun _ => true) (fun xs k => k (.ret (.bool (cleanM (aS xs 0))) []))
theorem cleanTold_ok : ∀ xs H k out, cleanTold xs H k = some out → ∃ o, CallOK Tryz.prog 35 xs H o ∧ k o = some out := mkFS_ok fun ys xs e h => by
 obtain ⟨s, rfl⟩ : ∃ s, xs = [.str s] := ⟨_, e⟩
 exact ⟨_, fun k => rfl, clean_ok s⟩
end Go.Mu
namespace Go.Mu
open Go Go.Proofs
theorem repA_ok (s : Oc) (h : ∀ c ∈ s, 1 ≤ c.toNat ∧ c.toNat < 128) (hs : s.length ≤ 17592186044416) : CallOK Tryz.prog 30 [.str s] [] (.ret (.str s) []) := by
 refine CallOK.below (fun w E cs sim hl hr => ?_)
 obtain ⟨x, rfl⟩ : ∃ x, cs = [x] := by
  match cs, hl with
  | [x], _ => exact ⟨x, rfl⟩
 obtain ⟨b, e1, e2⟩ := rep_str (hr 0 (by simp))
 replace e1 : x = .string b := e1
 subst e1
 rw [ba_eq e2]
 exact ⟨.string (ba s), uRepairA s w h hs, .pure _ _ (.str (ba s))⟩
def repATold : FSp := mkFS [.s] (fun xs => (aS xs 0).all (fun c => decide (1 ≤ c.toNat) && decide (c.toNat < 128)) && decide ((aS xs 0).length ≤ 17592186044416)) (fun xs k => k (.ret (.str (aS xs 0)) []))
theorem repATold_ok : ∀ xs H k out, repATold xs H k = some out → ∃ o, CallOK Tryz.prog 30 xs H o ∧ k o = some out := mkFS_ok fun ys xs e h => by
 obtain ⟨s, rfl⟩ : ∃ s, xs = [.str s] := ⟨_, e⟩
 rw [Bool.and_eq_true, decide_eq_true_eq, List.all_eq_true] at h
 refine ⟨_, fun k => rfl, repA_ok s (fun c hc => ?_) h.2⟩
 have := h.1 c hc
 rw [Bool.and_eq_true, decide_eq_true_eq, decide_eq_true_eq] at this
 exact this
end Go.Mu
namespace Go.Mu
open Go Go.Proofs
noncomputable def layFa : Lay := (((((Lay.nil.addF 35 cleanTold).addF 20 decTold).addF 36 schTold).addF 40 safTold).addF 41 plaTold).addF 30 repATold
theorem layFa_ok : layFa.OK Tryz.prog := (((((Lay.nil_ok.addF cleanTold_ok).addF decTold_ok).addF schTold_ok).addF safTold_ok).addF plaTold_ok).addF repATold_ok
theorem alive35_fun (k : Out → Ans) : iFun Tryz.prog (layFa.hd Tryz.prog) layFa.fhs 0 6 [] [] k = (
 k (Out.ret (AVal.bool (bif bif decP [38, 108, 116, 59] == [60] then true else false then true else false)) [])) := by kernel_rfl
theorem decP_lt : decP [38, 108, 116, 59] = [60] := by
 unfold decP
 show decR 4 [38, 108, 116, 59] = [60]
 rw [decR, oneP_lt]
 show [60] ++ decR 3 [] = [60]
 rw [decR]; rfl
theorem alive35_ok : CallOK Tryz.prog 6 [] [] (.ret (.bool true) []) := layFa_ok.callF (G := []) rfl (fun k => (alive35_fun k).trans (by rw [decP_lt]; rfl))
def alive35Told : FSp := mkFS [] (fun _ => true) (fun _ k => k (.ret (.bool true) []))
theorem alive35Told_ok : ∀ xs H k out, alive35Told xs H k = some out → ∃ o, CallOK Tryz.prog 6 xs H o ∧ k o = some out := mkFS_ok fun ys xs e h => by
 obtain rfl : xs = [] := e
 exact ⟨_, fun k => rfl, alive35_ok⟩
theorem ib_any : ∀ (l : Oc) (c : UInt8), decide (Lib.indexByte l c ≥ 0) = l.any (fun d => d == c)
 | [], c => rfl
 | b :: l, c => by
  have ih := ib_any l c
  have hge := Lib.indexByte_ge l c
  rw [List.any_cons, ← ih, Lib.indexByte]
  cases hb : b == c with
  | true => rfl
  | false =>
   simp only [Bool.false_or, if_neg (show ¬ (false = true) by decide)]
   by_cases h1 : Lib.indexByte l c = -1
   · rw [h1]; rfl
   · have h2 : (Lib.indexByte l c == -1) = false := by simpa using h1
     rw [h2, if_neg (by decide)]
     exact decide_eq_decide.2 (by omega)
theorem cleanC_any (l : Oc) (c : UInt8) : cleanC l c = l.any (fun d => d == c) := ib_any l c
end Go.Mu
namespace Go.Mu
open Go Go.Proofs
theorem by_all (l : Oc) : ((l.map byteRow).all fun (r : List AVal) => match r with | [v] => isInt IntKind.u8 v | x => false) = true := by
 refine List.all_eq_true.2 (fun r hr => ?_)
 obtain ⟨c, _, rfl⟩ := List.mem_map.1 hr
 rfl
theorem by_back (l : Oc) : (l.map byteRow).map (fun (r : List AVal) => UInt8.ofNat (intOf (r.getD 0 AVal.undef)).toNat) = l := by
 rw [List.map_map]
 conv => rhs; rw [← List.map_id l]
 refine List.map_congr_left (fun c _ => ?_)
 show UInt8.ofNat ((c.toNat : Int)).toNat = c
 rw [Int.toNat_natCast, UInt8.ofNat_toNat]
end Go.Mu
namespace Go.Mu
open Go Go.Proofs
structure IxA where
 f : Bool
 l : List Oc
 s : Oc
 H : Heap
end Go.Mu
namespace Go.Mu
open Go Go.Proofs
end Go.Mu
namespace Go.Mu
open Go Go.Proofs
structure IwA where
 x : AVal
 H : Heap
structure CaA where
 x : AVal
 ah : Bool
structure PaA where
 x : AVal
 at_ : Int
end Go.Mu
namespace Go.Mu
open Go Go.Proofs
structure PiA where
 c : Nat
 H : Heap
 pf : Bool
 pn : Nat
 pr : Nat → List AVal
 n : Int
 i : Int
 x : AVal
 j : Nat
end Go.Mu
namespace Go.Mu
open Go Go.Proofs
def valD (n : Nat) (t : Oc) : Nat := t.foldl (fun n c => n * 10 + (c.toNat - 48)) n
theorem valD_cons (n : Nat) (c : UInt8) (t : Oc) : valD n (c :: t) = valD (n * 10 + (c.toNat - 48)) t := by unfold valD; rw [List.foldl_cons]
theorem valD_ge (t : Oc) : ∀ n : Nat, n ≤ valD n t := by
 induction t with
 | nil => intro n; exact Nat.le_refl n
 | cons c t ih =>
  intro n
  rw [valD_cons]
  have h1 := ih (n * 10 + (c.toNat - 48))
  have h2 : n ≤ n * 10 + (c.toNat - 48) := by omega
  exact Nat.le_trans h2 h1
theorem numL_val : ∀ (t : Oc) (n : Nat), valD n t ≤ 9223372036854775808 → numL n t = (false, valD n t)
 | [], n, h => rfl
 | c :: t, n, h => by
  rw [valD_cons] at h
  have := valD_ge t (n * 10 + (c.toNat - 48))
  rw [numL, dF (by omega), cond_false, valD_cons]
  exact numL_val t _ h
theorem dg_nat (u : Nat) : (UInt8.ofNat (48 + u % 10)).toNat = 48 + u % 10 := by
 have : u % 10 < 10 := Nat.mod_lt _ (by decide)
 rw [UInt8.toNat_ofNat', Nat.mod_eq_of_lt (show 48 + u % 10 < 2 ^ 8 by omega)]
theorem dg_dig (u : Nat) : dig (UInt8.ofNat (48 + u % 10)) = true := by
 have : u % 10 < 10 := Nat.mod_lt _ (by decide)
 unfold dig
 rw [dg_nat, dT (by omega), dT (by omega)]; rfl
theorem digs_val : ∀ (f u : Nat) (t : Oc), 0 < f → u < 10 ^ f → valD 0 (digsF f u t) = valD u t
 | 0, u, t, h, _ => absurd h (by decide)
 | f + 1, u, t, _, hu => by
  rw [digsF]
  cases hq : u / 10 == 0 with
  | true =>
   have : u / 10 = 0 := by simpa using hq
   rw [cond_true, valD_cons, dg_nat]
   congr 1; omega
  | false =>
   have h0 : u / 10 ≠ 0 := by simpa using hq
   rw [cond_false]
   have hf : 0 < f := by
    cases f with
    | zero => simp at hu; omega
    | succ f => omega
   rw [digs_val f (u / 10) _ hf (by rw [Nat.pow_succ] at hu; omega), valD_cons, dg_nat]
   congr 1; omega
theorem digs_all : ∀ (f u : Nat) (t : Oc), (∀ c ∈ t, dig c = true) → ∀ c ∈ digsF f u t, dig c = true
 | 0, u, t, h => h
 | f + 1, u, t, h => by
  have h2 : ∀ c ∈ UInt8.ofNat (48 + u % 10) :: t, dig c = true := fun c hc => by
   rcases List.mem_cons.1 hc with rfl | hc
   · exact dg_dig u
   · exact h c hc
  rw [digsF]
  cases u / 10 == 0 with
  | true => exact h2
  | false => exact digs_all f (u / 10) _ h2
theorem digs_head : ∀ (f u : Nat) (t : Oc), 0 < f → 0 < u → u < 10 ^ f → digsF f u t ≠ [] ∧ (digsF f u t).getD 0 0 ≠ 48
 | 0, u, t, h, _, _ => absurd h (by decide)
 | f + 1, u, t, _, h0, hu => by
  rw [digsF]
  cases hq : u / 10 == 0 with
  | true =>
   have : u / 10 = 0 := by simpa using hq
   refine ⟨by simp, fun h => ?_⟩
   have h2 := congrArg UInt8.toNat h
   rw [cond_true, List.getD_cons_zero, dg_nat] at h2
   have : (48 : UInt8).toNat = 48 := rfl
   omega
  | false =>
   have h1 : u / 10 ≠ 0 := by simpa using hq
   have hf : 0 < f := by
    cases f with
    | zero => simp at hu; omega
    | succ f => omega
   exact digs_head f (u / 10) _ hf (by omega) (by rw [Nat.pow_succ] at hu; omega)
theorem digs_fact (u : Nat) (h : u ≤ 9223372036854775808) : digsF 19 u [] ≠ [] ∧ (∀ c ∈ digsF 19 u [], dig c = true) ∧ numL 0 (digsF 19 u []) = (false, u) ∧ ((digsF 19 u []).getD 0 0 = 48 → u = 0 ∧ digsF 19 u [] = [48]) := by
 have hv := digs_val 19 u [] (by decide) (by omega)
 have e : valD u [] = u := rfl
 rw [e] at hv
 refine ⟨?_, digs_all 19 u [] (fun c hc => by cases hc), ?_, fun h48 => ?_⟩
 · by_cases h0 : u = 0
   · subst h0; decide
   · exact (digs_head 19 u [] (by decide) (by omega) (by omega)).1
 · rw [numL_val _ _ (by rw [hv]; exact h), hv]
 · by_cases h0 : u = 0
   · subst h0; exact ⟨rfl, rfl⟩
   · exact absurd h48 (digs_head 19 u [] (by decide) (by omega) (by omega)).2
theorem nd_all {l : Oc} (h : ∀ c ∈ l, dig c = true) : l.any ndC = false := by
 rw [List.any_eq_false]
 intro c hc
 rw [nd_dig, h c hc]; simp
theorem numM_print (n : Int) (h1 : -9223372036854775808 ≤ n) (h2 : n ≤ 9223372036854775807) : numM (printM n) = (n, 0) := by
 obtain ⟨d1, d2, d3, d4⟩ := digs_fact n.natAbs (by omega)
 unfold printM
 by_cases h0 : n < 0
 · rw [dT h0, cond_true]
   unfold numM
   have e1 : [45].isPrefixOf (45 :: digsF 19 n.natAbs []) = true := rfl
   have e2 : (45 :: digsF 19 n.natAbs []).drop 1 = digsF 19 n.natAbs [] := rfl
   have e3 : (digsF 19 n.natAbs [] == []) = false := by simpa using d1
   have e4 : ((digsF 19 n.natAbs []).getD 0 0 == 48) = false := by
    simp only [beq_eq_false_iff_ne, ne_eq]
    intro h
    have := (d4 h).1
    omega
   rw [e1, e2, e3, nd_all d2, e4, d3]
   simp only [cond_true, cond_false, Bool.or_self]
   rw [show (-(n.natAbs : Int)) = n by omega]
 · rw [dF h0, cond_false]
   unfold numM
   have e1 : [45].isPrefixOf (digsF 19 n.natAbs []) = false := by
    cases hd : digsF 19 n.natAbs [] with
    | nil => rfl
    | cons c t =>
     have := d2 c (by rw [hd]; simp)
     have hc : c ≠ 45 := fun e => by subst e; exact absurd this (by decide)
     simp [List.isPrefixOf, hc.symm]
   have e3 : (digsF 19 n.natAbs [] == []) = false := by simpa using d1
   have e4 : ((digsF 19 n.natAbs []).getD 0 0 == 48 && decide (1 < (digsF 19 n.natAbs []).length)) = false := by
    cases hb : (digsF 19 n.natAbs []).getD 0 0 == 48 with
    | false => rfl
    | true =>
     have := (d4 (by simpa using hb)).2
     rw [this]; rfl
   rw [e1, e3, nd_all d2, e4, d3]
   simp only [cond_false, Bool.or_self]
   rw [dF (by omega), cond_false]
   rw [show ((n.natAbs : Nat) : Int) = n by omega]
end Go.Mu
namespace Go.Mu
open Go
theorem CallOK.meltR {P : Program} {f : FuncId} {xs : List AVal} {v : AVal} {H H' : Heap} {sz u : Nat} {rows : List (List AVal)} (hc : CallOK P f xs H (.ret v (H' ++ [.arr sz rows u]))) (hl : H.length ≤ H'.length) (hall : rows.all (fun r => r.all isPure) = true) :
 CallOK P f xs H (.ret (fzV H'.length rows u 6 v) (H'.map (fzO H'.length rows u))) := by
 intro w E cs sim hlen hr
 refine Calls.mono (hc w E cs sim hlen hr) (fun e w' hp => ?_)
 cases e with
 | returned c =>
  obtain ⟨E', ev, sim', hrep⟩ := hp
  exact ⟨fzE H'.length E', ev.melt hl, sim'.melt (hown_melt sim' hall), (fz_rep (hown_melt sim' hall) 6 v c hrep).mono fz_sees⟩
 | panicked _ => exact hp.elim
 | outgrown => exact hp.elim
end Go.Mu
namespace Go.Mu
open Go Go.Proofs
abbrev vz0 : List AVal := [.int .i64 0, .int .i64 0, .str [], nilList, nilList]
abbrev heap4 (s : Oc) (a : Int) : Heap := [.var vz0, .var [.int .i64 0], .var [.int .i64 0], .var [.str s, .int .i64 a]]
def rS (H : Heap) : Oc := strOf ((cellsO (H.getD 3 (.var []))).getD 0 .undef)
def rA (H : Heap) : Int := intOf ((cellsO (H.getD 3 (.var []))).getD 1 .undef)
def hpP (p t : Oc) : Bool := bif decide ((t.length : Int) ≥ (p.length : Int)) then t.take p.length == p else false
structure TkA where
 s : Oc
 a : Int
 p : Oc
 G : Heap
def noteless (G : Heap) : Prop := ∀ t n, G[0]? ≠ some (.note t n)
noncomputable def tkTold : FSp := mkF (fun xs H => TkA.mk (rS H) (rA H) (aS xs 1) (H.drop 4)) (fun x => 0 ≤ x.a ∧ x.a ≤ x.s.length ∧ x.s.length ≤ 1099511627776 ∧ x.p.length ≤ 100 ∧ noteless x.G) (fun x => [.ptr (.hp 3) 0, .str x.p]) (fun x => heap4 x.s x.a ++ x.G)
 (fun x k => cond (hpP x.p (x.s.drop x.a.toNat)) (k (.ret (.bool true) (heap4 x.s (x.a + x.p.length) ++ x.G))) (k (.ret (.bool false) (heap4 x.s x.a ++ x.G))))
theorem took_fun (s p : Oc) (a : Int) (k : Out → Ans) : iFun Tryz.prog (Lay.nil.hd Tryz.prog) Lay.nil.fhs 0 120 [.ptr (.hp 3) 0, .str p] (heap4 s a) k = (
 let n0 : Int := (↑s.length : Int);
 let n1 : Int := (↑p.length : Int);
 let l2 : Oc := List.drop a.toNat (List.take n0.toNat s);
 let n3 : Int := (↑l2.length : Int);
 let c4 : Bool := decide (n3 ≥ n1);
  bif decide (0 ≤ a) && decide (a ≤ n0) && decide (n0 ≤ n0) then bif decide (n1 ≤ n3) || !c4 then bif bif c4 then List.drop (Int.toNat 0) (List.take n1.toNat l2) == p else false then k (Out.ret (AVal.bool true) [Obj.var vz0, Obj.var [AVal.int .i64 0], Obj.var [AVal.int .i64 0], Obj.var [AVal.str s, AVal.int .i64 (IntKind.i64.wrap (a + n1))]]) else k (Out.ret (AVal.bool false) (heap4 s a)) else none else none) := by kernel_rfl
noncomputable def layHf : Lay := (Lay.nil.addF 53 unhexTold).addF 70 lowTold
theorem half_fun (s : Oc) (a : Int) (k : Out → Ans) : iFun Tryz.prog (layHf.hd Tryz.prog) layHf.fhs 0 133 [.ptr (.hp 3) 0] (heap4 s a) k = (
 let n0 : Int := (↑s.length : Int);
 let n1 : Int := IntKind.i64.wrap (a + 4);
 let l2 : Oc := List.drop a.toNat (List.take n1.toNat s);
 let z0 := Out.panic (AVal.iface 39 (AVal.int .i64 33)) (heap4 s a);
  bif !decide (IntKind.i64.wrap (n0 - a) ≥ 4) then k z0 else bif decide (0 ≤ a) && decide (a ≤ n1) && decide (n1 ≤ n0) then bif decide (l2.length ≤ 1099511627776) then bif !bif (unhexM l2).snd == 0 then lowM l2 == l2 else false then k z0 else k (Out.ret (AVal.int .i64 (unhexM l2).fst) [Obj.var vz0, Obj.var [AVal.int .i64 0], Obj.var [AVal.int .i64 0], Obj.var [AVal.str s, AVal.int .i64 n1]]) else none else none) := by kernel_rfl
structure HfA where
 s : Oc
 a : Int
 G : Heap
def t4 (x : HfA) : Oc := (x.s.drop x.a.toNat).take 4
noncomputable def hfTold : FSp := mkF (fun xs H => HfA.mk (rS H) (rA H) (H.drop 4)) (fun x => 0 ≤ x.a ∧ x.a + 4 ≤ x.s.length ∧ x.s.length ≤ 1099511627776 ∧ (unhexM (t4 x)).2 = 0 ∧ lowM (t4 x) = t4 x ∧ noteless x.G) (fun x => [.ptr (.hp 3) 0]) (fun x => heap4 x.s x.a ++ x.G)
 (fun x k => k (.ret (.int .i64 (unhexM (t4 x)).1) (heap4 x.s (x.a + 4) ++ x.G)))
def dgN (c : UInt8) : Bool := decide (ibM [45, 48, 49, 50, 51, 52, 53, 54, 55, 56, 57] (c.toNat : Int) ≥ 0)
structure DgA where
 s : Oc
 a : Int
 b : Bool
 f : Int
noncomputable def dgSp (E : Oc → Int → Int) : LSp := mkL (fun vs bs H => DgA.mk (rS H) (rA H) (aB vs 2) (aI vs 3)) (fun x => 0 ≤ x.a ∧ x.a ≤ x.s.length ∧ x.s.length ≤ 1099511627776) (fun x => [.ptr (.hp 3) 0, .ptr (.tmp 2) 0, .bool x.b, .int .i64 x.f]) (fun x => [vz0]) (fun x => heap4 x.s x.a)
 (fun x k => k (.exit 0) [.ptr (.hp 3) 0, .ptr (.tmp 2) 0, .bool x.b, .int .i64 x.f] [vz0] (heap4 x.s (E x.s x.a)))
noncomputable def dgFH (E : Oc → Int → Int) : FH := .of [(3, loopSpec 68 [0,2,3,4] [2] [0,2,3,4] [2] (dgSp E))]
noncomputable def layDg0 : Lay := ((Lay.nil.addF 67 ibTold).addF 135 numTold).addF 120 tkTold
theorem dg_step (E : Oc → Int → Int) (s : Oc) (a f : Int) (b : Bool) (D : Dfs) (k : Kont) : lturn Tryz.prog layDg0 (dgFH E) 124 3 [0,2,3,4] [2] [0,2,3,4] [2] (stL 68 [0,2,3,4] [.ptr (.hp 3) 0, .ptr (.tmp 2) 0, .bool b, .int .i64 f] [2] [vz0] (heap4 s a) D) k = (
 let c0 : Bool := decide (a < (↑s.length : Int));
 let z0 := [AVal.ptr (Oid.hp 3) 0, AVal.ptr (Oid.tmp 2) 0, AVal.bool b, AVal.int .i64 f];
  bif decide (0 ≤ a) && c0 || !c0 then bif bif c0 then decide (ibM [45, 48, 49, 50, 51, 52, 53, 54, 55, 56, 57] (↑(s.getD a.toNat 0).toNat : Int) ≥ 0) else false then k AExit.normal (stL 68 [0, 2, 3, 4] z0 [2] [[AVal.int .i64 0, AVal.int .i64 0, AVal.str [], AVal.list true 0 fun (x : Nat) => [], AVal.list true 0 fun (x : Nat) => []]] [Obj.var vz0, Obj.var [AVal.int .i64 0], Obj.var [AVal.int .i64 0], Obj.var [AVal.str s, AVal.int .i64 (IntKind.i64.wrap (a + 1))]] D) else k (AExit.exit 0) (stL 68 [0, 2, 3, 4] z0 [2] [[AVal.int .i64 0, AVal.int .i64 0, AVal.str [], AVal.list true 0 fun (x : Nat) => [], AVal.list true 0 fun (x : Nat) => []]] (heap4 s a) D) else none) := by kernel_rfl
noncomputable def layDg (E : Oc → Int → Int) : Lay := layDg0.addL 124 (dgFH E)
theorem dg_fun (E : Oc → Int → Int) (s : Oc) (a : Int) (k : Out → Ans) : iFun Tryz.prog ((layDg E).hd Tryz.prog) (layDg E).fhs 0 124 [.ptr (.hp 3) 0] (heap4 s a) k = (
 let m0 : Nat := (rS (heap4 s a)).length;
 let m1 : Nat := (rA (heap4 s a)).toNat;
 let n2 : Int := rA (heap4 s a) + (↑1 : Int);
 let z1 := [Obj.var vz0, Obj.var [AVal.int .i64 0], Obj.var [AVal.int .i64 0], Obj.var [AVal.str (rS (heap4 s a)), AVal.int .i64 n2]];
 let n3 : Int := rA z1;
 let l4 : Oc := rS z1;
 let m5 : Nat := l4.length;
 let n6 : Int := (↑m5 : Int);
 let n7 : Int := E l4 n3;
 let l8 : Oc := List.drop n2.toNat (List.take n7.toNat l4);
 let n9 : Int := (numM l8).fst;
 let z0 := [Obj.var vz0, Obj.var [AVal.int .i64 0], Obj.var [AVal.int .i64 0], Obj.var [AVal.str (rS (heap4 s a)), AVal.int .i64 (rA (heap4 s a))]];
 let n10 : Int := rA z0;
 let l11 : Oc := rS z0;
 let m12 : Nat := l11.length;
 let n13 : Int := (↑m12 : Int);
 let n14 : Int := E l11 n10;
 let l15 : Oc := List.drop m1 (List.take n14.toNat l11);
 let n16 : Int := (numM l15).fst;
 let z2 := [AVal.ptr (Oid.hp 3) 0, AVal.ptr (Oid.tmp 2) 0, AVal.bool false, AVal.int .i64 (rA (heap4 s a))];
 let z3 := [AVal.ptr (Oid.hp 3) 0, AVal.ptr (Oid.tmp 2) 0, AVal.bool true, AVal.int .i64 n2];
  bif tst ((0 ≤ rA (heap4 s a) ∧ rA (heap4 s a) ≤ (↑m0 : Int) ∧ m0 ≤ 1099511627776 ∧ 1 ≤ 100 ∧ noteless (List.drop 4 (heap4 s a))) ∧ SubL [AVal.ptr (Oid.hp 3) 0, AVal.str [32]] [AVal.ptr (Oid.hp 3) 0, AVal.str [32]] ∧ heap4 s a = z0) then bif hpP [32] (List.drop m1 (rS (heap4 s a))) then bif tst ((0 ≤ n3 ∧ n3 ≤ n6 ∧ m5 ≤ 1099511627776) ∧ SubTL z3 z3 ∧ [[AVal.int .i64 0, AVal.int .i64 0, AVal.str [], AVal.list true 0 fun (x : Nat) => [], AVal.list true 0 fun (x : Nat) => []]] = [vz0] ∧ z1 = heap4 l4 n3) then bif decide (0 ≤ n2) && decide (n2 ≤ n7) && decide (n7 ≤ n6) then bif decide (l8.length ≤ 1099511627776) then bif !bif (numM l8).snd == 0 then true == decide (n9 < 0) else false then k (Out.panic (AVal.iface 39 (AVal.int .i64 33)) (heap4 l4 n7)) else k (Out.ret (AVal.agg [AVal.int .i64 3, AVal.int .i64 n9, AVal.str [], AVal.list true 0 fun (x : Nat) => [], AVal.list true 0 fun (x : Nat) => []]) (heap4 l4 n7)) else none else none else none else bif tst ((0 ≤ n10 ∧ n10 ≤ n13 ∧ m12 ≤ 1099511627776) ∧ SubTL z2 z2 ∧ [[AVal.int .i64 0, AVal.int .i64 0, AVal.str [], AVal.list true 0 fun (x : Nat) => [], AVal.list true 0 fun (x : Nat) => []]] = [vz0] ∧ z0 = heap4 l11 n10) then bif decide (0 ≤ rA (heap4 s a)) && decide (rA (heap4 s a) ≤ n14) && decide (n14 ≤ n13) then bif decide (l15.length ≤ 1099511627776) then bif !bif (numM l15).snd == 0 then false == decide (n16 < 0) else false then k (Out.panic (AVal.iface 39 (AVal.int .i64 33)) (heap4 l11 n14)) else k (Out.ret (AVal.agg [AVal.int .i64 3, AVal.int .i64 n16, AVal.str [], AVal.list true 0 fun (x : Nat) => [], AVal.list true 0 fun (x : Nat) => []]) (heap4 l11 n14)) else none else none else none else none) := by kernel_rfl
end Go.Mu
namespace Go.Mu
open Go Go.Proofs
theorem frame4 {f : FuncId} {xs : List AVal} {v : AVal} {s : Oc} {a a' : Int} (hc : CallOK Tryz.prog f xs (heap4 s a) (.ret v (heap4 s a'))) (hx : ∀ x ∈ xs, refsD 6 4 x = true) (G : Heap) (hG : noteless G) : CallOK Tryz.prog f xs (heap4 s a ++ G) (.ret v (heap4 s a' ++ G)) :=
 hc.frame rfl hx (fun x hx => by
  simp only [List.mem_cons, List.not_mem_nil, or_false] at hx
  rcases hx with rfl | rfl | rfl | rfl <;> rfl) G hG
theorem refs_p (p : Oc) : ∀ x ∈ [AVal.ptr (.hp 3) 0, .str p], refsD 6 4 x = true := by
 intro x hx
 simp only [List.mem_cons, List.not_mem_nil, or_false] at hx
 rcases hx with rfl | rfl <;> rfl
theorem refs_1 : ∀ x ∈ [AVal.ptr (.hp 3) 0], refsD 6 4 x = true := by
 intro x hx
 simp only [List.mem_cons, List.not_mem_nil, or_false] at hx
 subst hx; rfl
theorem refs_i (n : Int) : ∀ x ∈ [AVal.ptr (.hp 3) 0, .int .i64 n], refsD 6 4 x = true := by
 intro x hx
 simp only [List.mem_cons, List.not_mem_nil, or_false] at hx
 rcases hx with rfl | rfl <;> rfl
theorem take_all (s : Oc) : List.take (s.length : Int).toNat s = s := by rw [Int.toNat_natCast, List.take_length]
theorem took_call (s p : Oc) (a : Int) (h0 : 0 ≤ a) (h1 : a ≤ s.length) (hl : s.length ≤ 1099511627776) (hp : p.length ≤ 100) (k : Out → Ans) : iFun Tryz.prog (Lay.nil.hd Tryz.prog) Lay.nil.fhs 0 120 [.ptr (.hp 3) 0, .str p] (heap4 s a) k =
 cond (hpP p (s.drop a.toNat)) (k (.ret (.bool true) (heap4 s (a + p.length)))) (k (.ret (.bool false) (heap4 s a))) := by
 refine (took_fun s p a k).trans ?_
 have w : IntKind.i64.wrap (a + (p.length : Int)) = a + p.length := wrap_of (by omega) (by omega)
 have z : ∀ t : Oc, List.drop (Int.toNat 0) t = t := fun t => rfl
 simp only [take_all, List.take_length, w, z, Int.toNat_natCast, dT h0, dT h1, dT (Int.le_refl (s.length : Int)), Bool.and_self, cond_true]
 unfold hpP
 by_cases hc : ((s.drop a.toNat).length : Int) ≥ (p.length : Int)
 · rw [dT hc]
   rfl
 · rw [dF hc]
   simp only [Bool.not_false, Bool.or_true, cond_true, cond_false]
theorem took_ok (s p : Oc) (a : Int) (h0 : 0 ≤ a) (h1 : a ≤ s.length) (hl : s.length ≤ 1099511627776) (hp : p.length ≤ 100) :
 CallOK Tryz.prog 120 [.ptr (.hp 3) 0, .str p] (heap4 s a) (bif hpP p (s.drop a.toNat) then .ret (.bool true) (heap4 s (a + p.length)) else .ret (.bool false) (heap4 s a)) :=
 Lay.nil_ok.call (fun k => (took_call s p a h0 h1 hl hp k).trans (by cases hpP p (s.drop a.toNat) <;> rfl))
theorem tkTold_ok : ∀ xs H k out, tkTold xs H k = some out → ∃ o, CallOK Tryz.prog 120 xs H o ∧ k o = some out := mkF_ok fun x h => by
 obtain ⟨s, a, p, G⟩ := x
 obtain ⟨h0, h1, h2, h3, h4⟩ := h
 simp only at h0 h1 h2 h3 h4
 have hc := took_ok s p a h0 h1 h2 h3
 simp only
 cases hb : hpP p (s.drop a.toNat) with
 | true =>
  rw [hb] at hc
  exact ⟨_, fun k => rfl, frame4 hc (refs_p p) G h4⟩
 | false =>
  rw [hb] at hc
  exact ⟨_, fun k => rfl, frame4 hc (refs_p p) G h4⟩
theorem layHf_ok : layHf.OK Tryz.prog := (Lay.nil_ok.addF unhexTold_ok).addF lowTold_ok
theorem drop_take4 (s : Oc) (a : Nat) : List.drop a (List.take (a + 4) s) = (s.drop a).take 4 := by
 rw [List.drop_take]; congr 1; omega
theorem half_ok (x : HfA) (h0 : 0 ≤ x.a) (h1 : x.a + 4 ≤ x.s.length) (hl : x.s.length ≤ 1099511627776) (hu : (unhexM (t4 x)).2 = 0) (hw : lowM (t4 x) = t4 x) :
 CallOK Tryz.prog 133 [.ptr (.hp 3) 0] (heap4 x.s x.a) (.ret (.int .i64 (unhexM (t4 x)).1) (heap4 x.s (x.a + 4))) := by
 refine layHf_ok.call (fun k => (half_fun x.s x.a k).trans ?_)
 have w : IntKind.i64.wrap (x.a + 4) = x.a + 4 := wrap_of (by omega) (by omega)
 have w2 : IntKind.i64.wrap ((x.s.length : Int) - x.a) = x.s.length - x.a := wrap_of (by omega) (by omega)
 have e : List.drop x.a.toNat (List.take (x.a + 4).toNat x.s) = t4 x := by
  have : (x.a + 4).toNat = x.a.toNat + 4 := by omega
  rw [this, drop_take4]; rfl
 have hlen : (t4 x).length ≤ 1099511627776 := by unfold t4; simp; omega
 simp only [w, w2, e, hu, hw, dT hlen, dT h0, dT h1, dT (show x.a ≤ x.a + 4 by omega), dT (show (x.s.length : Int) - x.a ≥ 4 by omega), beq_self_eq_true, Bool.and_self, Bool.not_true, cond_true, cond_false]
theorem hfTold_ok : ∀ xs H k out, hfTold xs H k = some out → ∃ o, CallOK Tryz.prog 133 xs H o ∧ k o = some out := mkF_ok fun x h => by
 obtain ⟨h0, h1, h2, h3, h4, h5⟩ := h
 exact ⟨_, fun k => rfl, frame4 (half_ok x h0 h1 h2 h3 h4) refs_1 x.G h5⟩
def spanN (t : Oc) : Nat := (t.takeWhile dgN).length
def dgE (s : Oc) (a : Int) : Int := a + spanN (s.drop a.toNat)
noncomputable abbrev dgTurn := lturn Tryz.prog layDg0 (dgFH dgE) 124 3 [0,2,3,4] [2] [0,2,3,4] [2]
theorem span_at (s : Oc) (i : Nat) (h : i < s.length) : spanN (s.drop i) = bif dgN (s.getD i 0) then spanN (s.drop (i + 1)) + 1 else 0 := by
 unfold spanN
 rw [List.drop_eq_getElem_cons h, List.takeWhile_cons, List.getD_eq_getElem?_getD, List.getElem?_eq_getElem h, Option.getD_some]
 cases dgN s[i] <;> rfl
theorem dgSp_ok : SpOK dgTurn 68 [0,2,3,4] [2] [0,2,3,4] [2] (dgSp dgE) := mkL_ok fun x h => by
 obtain ⟨s, a, b, f⟩ := x
 obtain ⟨h0, h1, h2⟩ := h
 simp only at h0 h1 h2
 obtain ⟨i, rfl⟩ : ∃ i : Nat, a = i := ⟨a.toNat, by omega⟩
 refine ⟨_, _, _, _, fun k => rfl, ?_⟩
 simp only [Int.toNat_natCast]
 -- as many rounds as there are digits
 have go : ∀ (n i : Nat), i ≤ s.length → spanN (s.drop i) = n → ∃ D0 : Nat, D0 = n := fun n i _ _ => ⟨n, rfl⟩
 have hle : ∀ j, j < spanN (s.drop i) → i + j < s.length ∧ dgN (s.getD (i + j) 0) = true := by
  intro j
  induction j with
  | zero =>
   intro hj
   by_cases hi : i < s.length
   · rw [span_at s i hi] at hj
     cases hd : dgN (s.getD i 0) with
     | true => exact ⟨hi, rfl⟩
     | false => rw [hd] at hj; exact absurd hj (Nat.lt_irrefl 0)
   · rw [List.drop_eq_nil_of_le (by omega)] at hj; exact absurd hj (Nat.lt_irrefl 0)
  | succ j _ =>
   intro hj
   have key : ∀ (j i : Nat), j < spanN (s.drop i) → i + j < s.length ∧ dgN (s.getD (i + j) 0) = true := by
    intro j
    induction j with
    | zero =>
     intro i hj
     by_cases hi : i < s.length
     · rw [span_at s i hi] at hj
       cases hd : dgN (s.getD i 0) with
       | true => exact ⟨hi, rfl⟩
       | false => rw [hd] at hj; exact absurd hj (Nat.lt_irrefl 0)
     · rw [List.drop_eq_nil_of_le (by omega)] at hj; exact absurd hj (Nat.lt_irrefl 0)
    | succ j ih =>
     intro i hj
     by_cases hi : i < s.length
     · rw [span_at s i hi] at hj
       cases hd : dgN (s.getD i 0) with
       | true =>
        rw [hd, cond_true] at hj
        have := ih (i + 1) (by omega)
        rw [show i + (j + 1) = i + 1 + j by omega]
        exact this
       | false => rw [hd] at hj; exact absurd hj (Nat.not_lt_zero _)
     · rw [List.drop_eq_nil_of_le (by omega)] at hj; exact absurd hj (Nat.not_lt_zero _)
   exact key (j + 1) i hj
 have hend : i + spanN (s.drop i) ≤ s.length := by
  have : spanN (s.drop i) ≤ (s.drop i).length := by unfold spanN; exact (List.takeWhile_prefix dgN).length_le
  rw [List.length_drop] at this
  omega
 have hstop : i + spanN (s.drop i) < s.length → dgN (s.getD (i + spanN (s.drop i)) 0) = false := by
  have key : ∀ (n i : Nat), spanN (s.drop i) = n → i + n < s.length → dgN (s.getD (i + n) 0) = false := by
   intro n
   induction n with
   | zero =>
    intro i hs hi
    rw [span_at s i (by omega)] at hs
    cases hd : dgN (s.getD i 0) with
    | true => rw [hd] at hs; cases hs
    | false => rfl
   | succ n ih =>
    intro i hs hi
    rw [span_at s i (by omega)] at hs
    cases hd : dgN (s.getD i 0) with
    | true =>
     rw [hd, cond_true] at hs
     have := ih (i + 1) (by omega) (by omega)
     rw [show i + (n + 1) = i + 1 + n by omega]
     exact this
    | false => rw [hd] at hs; cases hs
  exact key _ i rfl
 have key := seq_runs (turn := dgTurn) (n := 68) (l := [0,2,3,4]) (m := [2]) (lx := [0,2,3,4]) (mx := [2]) (fun j => [.ptr (.hp 3) 0, .ptr (.tmp 2) 0, .bool b, .int .i64 f]) (fun _ => [vz0]) (fun j => heap4 s ((i + j : Nat) : Int)) (spanN (s.drop i)) (e := .exit 0) (by simp)
  (fun j hj D k => by
   obtain ⟨g1, g2⟩ := hle j hj
   refine (dg_step dgE s ((i + j : Nat) : Int) f b D k).trans ?_
   have e1 : IntKind.i64.wrap (((i + j : Nat) : Int) + 1) = ((i + (j + 1) : Nat) : Int) := wrap_add1 (by omega)
   have g3 : decide (ibM [45, 48, 49, 50, 51, 52, 53, 54, 55, 56, 57] ((s.getD (i + j) 0).toNat : Int) ≥ 0) = true := g2
   simp only [e1, Int.toNat_natCast, g3, dT (show ((i + j : Nat) : Int) < (s.length : Int) by omega), dT (show (0 : Int) ≤ ((i + j : Nat) : Int) by omega), Bool.and_self, Bool.true_or, cond_true]
   rfl)
  (fun D k => by
   refine (dg_step dgE s ((i + spanN (s.drop i) : Nat) : Int) f b D k).trans ?_
   simp only [Int.toNat_natCast]
   by_cases hlt : i + spanN (s.drop i) < s.length
   · have g3 : decide (ibM [45, 48, 49, 50, 51, 52, 53, 54, 55, 56, 57] ((s.getD (i + spanN (s.drop i)) 0).toNat : Int) ≥ 0) = false := hstop hlt
     simp only [g3, dT (show ((i + spanN (s.drop i) : Nat) : Int) < (s.length : Int) by omega), dT (show (0 : Int) ≤ ((i + spanN (s.drop i) : Nat) : Int) by omega), Bool.and_self, Bool.true_or, cond_true, cond_false]
     rfl
   · simp only [dF (show ¬ ((i + spanN (s.drop i) : Nat) : Int) < (s.length : Int) by omega), Bool.and_false, Bool.not_false, Bool.false_or, cond_true, cond_false])
 exact key
theorem layDg0_ok : layDg0.OK Tryz.prog := ((Lay.nil_ok.addF ibTold_ok).addF numTold_ok).addF tkTold_ok
theorem layDg_ok : (layDg dgE).OK Tryz.prog := layDg0_ok.loop1 (id := 3) (by kernel_rfl) (by kernel_rfl) (by kernel_rfl) dgSp_ok
def numS (t : Oc) : Oc := bif hpP [32] t then (t.drop 1).takeWhile dgN else t.takeWhile dgN
def lenN (t : Oc) : Nat := bif hpP [32] t then spanN (t.drop 1) + 1 else spanN t
theorem span_take (t : Oc) : t.take (spanN t) = t.takeWhile dgN := by
 unfold spanN
 exact (List.prefix_iff_eq_take.1 (List.takeWhile_prefix dgN)).symm
def leafC (kd n : Int) (t : Oc) : List AVal := [.int .i64 kd, .int .i64 n, .str t, nilList, nilList]
def leafW (kd n : Int) (t : Oc) : VaD := ⟨kd, n, t, true, 0, fun _ => [], true, []⟩
theorem leafC_sub (kd n : Int) (t : Oc) : Sub (.agg (leafC kd n t)) (.agg (encVa (leafW kd n t))) := .agg (.cons (.refl _) (.cons (.refl _) (.cons (.refl _) (.cons (Sub.list (fun h => h) (fun i hi => by omega)) (.cons (Sub.list (fun h => h) (fun i hi => by omega)) .nil)))))
theorem digits_raw (s : Oc) (a : Int) (h0 : 0 ≤ a) (h1 : a ≤ s.length) (hl : s.length ≤ 1099511627776) (hn : (numM (numS (s.drop a.toNat))).2 = 0) (hb : hpP [32] (s.drop a.toNat) = decide ((numM (numS (s.drop a.toNat))).1 < 0)) :
 CallOK Tryz.prog 124 [.ptr (.hp 3) 0] (heap4 s a) (.ret (.agg (leafC 3 (numM (numS (s.drop a.toNat))).1 [])) (heap4 s (a + lenN (s.drop a.toNat)))) := by
 obtain ⟨i, rfl⟩ : ∃ i : Nat, a = i := ⟨a.toNat, by omega⟩
 simp only [Int.toNat_natCast] at hn hb ⊢
 refine layDg_ok.call (fun k => (dg_fun dgE s (i : Nat) k).trans ?_)
 have r1 : rS (heap4 s ((i : Nat) : Int)) = s := rfl
 have r2 : rA (heap4 s ((i : Nat) : Int)) = ((i : Nat) : Int) := rfl
 have r3 : ∀ b : Int, rA [Obj.var vz0, Obj.var [AVal.int .i64 0], Obj.var [AVal.int .i64 0], Obj.var [AVal.str s, AVal.int .i64 b]] = b := fun b => rfl
 have r4 : ∀ b : Int, rS [Obj.var vz0, Obj.var [AVal.int .i64 0], Obj.var [AVal.int .i64 0], Obj.var [AVal.str s, AVal.int .i64 b]] = s := fun b => rfl
 have nl : noteless (List.drop 4 (heap4 s ((i : Nat) : Int))) := fun t n h => by cases h
 simp only [r1, r2, r3, r4, Int.toNat_natCast]
 refine cT (tst_true ⟨⟨h0, h1, hl, by decide, nl⟩, .refl _, by trivial⟩) ?_
 have spl : ∀ j : Nat, j ≤ s.length → j + spanN (s.drop j) ≤ s.length := fun j hj => by
  have : spanN (s.drop j) ≤ (s.drop j).length := by unfold spanN; exact (List.takeWhile_prefix dgN).length_le
  rw [List.length_drop] at this
  omega
 have cut : ∀ j : Nat, List.drop j (List.take (j + spanN (s.drop j)) s) = (s.drop j).takeWhile dgN := fun j => by
  rw [List.drop_take, ← span_take]; congr 1; omega
 cases hb2 : hpP [32] (s.drop i) with
 | true =>
  have hlt : i + 1 ≤ s.length := by
   unfold hpP at hb2
   by_cases hc : ((s.drop i).length : Int) ≥ (([32] : Oc).length : Int)
   · rw [List.length_drop] at hc; simp only [List.length_singleton] at hc; omega
   · rw [dF hc] at hb2; cases hb2
  have e1 : ((i : Nat) : Int) + 1 = ((i + 1 : Nat) : Int) := by omega
  have e2 : dgE s ((i + 1 : Nat) : Int) = ((i + 1 + spanN (s.drop (i + 1)) : Nat) : Int) := by unfold dgE; rw [Int.toNat_natCast]; omega
  have e3 : numS (s.drop i) = (s.drop (i + 1)).takeWhile dgN := by unfold numS; rw [hb2, cond_true, List.drop_drop]
  have e4 : lenN (s.drop i) = spanN (s.drop (i + 1)) + 1 := by unfold lenN; rw [hb2, cond_true, List.drop_drop]
  have hsp := spl (i + 1) hlt
  have hk : ((s.drop (i + 1)).takeWhile dgN).length ≤ 1099511627776 := by
   have := (List.takeWhile_prefix dgN (l := s.drop (i + 1))).length_le
   rw [List.length_drop] at this; omega
  simp only [e3] at hn hb
  rw [hb2] at hb
  simp only [e1, e2, Int.toNat_natCast, cut, cond_true]
  refine cT (tst_true ⟨⟨by omega, by omega, hl⟩, .refl _, by trivial, by trivial⟩) ?_
  simp only [hn, ← hb, dT hk, dT (show (0 : Int) ≤ ((i + 1 : Nat) : Int) by omega), dT (show ((i + 1 : Nat) : Int) ≤ ((i + 1 + spanN (s.drop (i + 1)) : Nat) : Int) by omega), dT (show ((i + 1 + spanN (s.drop (i + 1)) : Nat) : Int) ≤ (s.length : Int) by omega), Bool.and_self, beq_self_eq_true, Bool.not_true, cond_true, cond_false]
  have e5 : ((i : Nat) : Int) + ((lenN (s.drop i) : Nat) : Int) = ((i + 1 + spanN (s.drop (i + 1)) : Nat) : Int) := by rw [e4]; omega
  rw [e5]
  simp only [e3]
  rfl
 | false =>
  have e2 : dgE s ((i : Nat) : Int) = ((i + spanN (s.drop i) : Nat) : Int) := by unfold dgE; rw [Int.toNat_natCast]; omega
  have e3 : numS (s.drop i) = (s.drop i).takeWhile dgN := by unfold numS; rw [hb2, cond_false]
  have e4 : lenN (s.drop i) = spanN (s.drop i) := by unfold lenN; rw [hb2, cond_false]
  have hsp := spl i (by omega)
  have hk : ((s.drop i).takeWhile dgN).length ≤ 1099511627776 := by
   have := (List.takeWhile_prefix dgN (l := s.drop i)).length_le
   rw [List.length_drop] at this; omega
  simp only [e3] at hn hb
  rw [hb2] at hb
  simp only [e2, Int.toNat_natCast, cut, cond_false]
  refine cT (tst_true ⟨⟨by omega, by omega, hl⟩, .refl _, by trivial, by trivial⟩) ?_
  simp only [hn, ← hb, dT hk, dT (show (0 : Int) ≤ ((i : Nat) : Int) by omega), dT (show ((i : Nat) : Int) ≤ ((i + spanN (s.drop i) : Nat) : Int) by omega), dT (show ((i + spanN (s.drop i) : Nat) : Int) ≤ (s.length : Int) by omega), Bool.and_self, beq_self_eq_true, Bool.not_true, cond_true, cond_false]
  have e5 : ((i : Nat) : Int) + ((lenN (s.drop i) : Nat) : Int) = ((i + spanN (s.drop i) : Nat) : Int) := by rw [e4]; omega
  rw [e5]
  simp only [e3]
  rfl
def numV (t : Oc) : VaD := leafW 3 (numM (numS t)).1 []
theorem digits_ok (s : Oc) (a : Int) (h0 : 0 ≤ a) (h1 : a ≤ s.length) (hl : s.length ≤ 1099511627776) (hn : (numM (numS (s.drop a.toNat))).2 = 0) (hb : hpP [32] (s.drop a.toNat) = decide ((numM (numS (s.drop a.toNat))).1 < 0)) :
 CallOK Tryz.prog 124 [.ptr (.hp 3) 0] (heap4 s a) (.ret (.agg (encVa (numV (s.drop a.toNat)))) (heap4 s (a + lenN (s.drop a.toNat)))) :=
 (digits_raw s a h0 h1 hl hn hb).sub (.refl _) ⟨leafC_sub _ _ _, rfl⟩
end Go.Mu
namespace Go.Mu
open Go Go.Proofs
abbrev b4P (P0 P1 P2 P3 : Obj) (ad b : AVal) (O : Obj) : Heap := [P0, P1, P2, P3, .var [ad, b], .note bdT 2, O, .note bT 0]
structure b4H where
 P0 : Obj
 P1 : Obj
 P2 : Obj
 P3 : Obj
 x : Bld
abbrev b4H.heap (x : b4H) : Heap := b4P x.P0 x.P1 x.P2 x.P3 x.x.ad x.x.b (.arr 1 x.x.rows x.x.v)
def b4H.dec (H : Heap) : b4H := ⟨H.getD 0 (.var []), H.getD 1 (.var []), H.getD 2 (.var []), H.getD 3 (.var []), bld H 4 6⟩
theorem b4_ws0 (P0 P1 P2 P3 : Obj) (O : Obj) (k : Out → Ans) : iFun Tryz.prog (layW0.hd Tryz.prog) layW0.fhs 0 49 [.ptr (.hp 4) 0, .str []] (b4P P0 P1 P2 P3 .nilptr .nilX O) k = (
 k
 (Out.ret (AVal.tuple [AVal.int .i64 0, AVal.nilIface])
  [P0, P1, P2, P3, Obj.var [AVal.ptr (Oid.hp 4) 0, AVal.nilX], Obj.note 55 2, O, Obj.note 5 0])) := by kernel_rfl
theorem b4_ws1 (P0 P1 P2 P3 : Obj) (O : Obj) (k : Out → Ans) : iFun Tryz.prog (layW0.hd Tryz.prog) layW0.fhs 0 49 [.ptr (.hp 4) 0, .str []] (b4P P0 P1 P2 P3 (.ptr (.hp 4) 0) .nilX O) k = (
 k
 (Out.ret (AVal.tuple [AVal.int .i64 0, AVal.nilIface])
  [P0, P1, P2, P3, Obj.var [AVal.ptr (Oid.hp 4) 0, AVal.nilX], Obj.note 55 2, O, Obj.note 5 0])) := by kernel_rfl
theorem b4_ws2 (P0 P1 P2 P3 : Obj) (l : Oc) (n v : Nat) (rows : List (List AVal)) (k : Out → Ans) : iFun Tryz.prog (Lay.nil.hd Tryz.prog) Lay.nil.fhs 0 49 [.ptr (.hp 4) 0, .str l] (b4P P0 P1 P2 P3 .nilptr (.own 6 0 n v false) (.arr 1 rows v)) k = (
 let m0 : Nat := n + (List.map (fun (c : UInt8) => [AVal.int .u8 (↑c.toNat : Int)]) l).length;
 let m1 : Nat := v + 1;
  bif v == v && n == rows.length && decide ((2 * m0 + 1000) * 1 ≤ 281474976710656) && true then
  k
  (Out.ret (AVal.tuple [AVal.int .i64 (↑l.length : Int), AVal.nilIface])
  [P0, P1, P2, P3, Obj.var [AVal.ptr (Oid.hp 4) 0, AVal.own 6 0 m0 m1 false], Obj.note 55 2,
  Obj.arr 1 (rows.append (List.map (fun (c : UInt8) => [AVal.int .u8 (↑c.toNat : Int)]) l)) m1,
  Obj.note 5 0])
  else none) := by kernel_rfl
theorem b4_ws3 (P0 P1 P2 P3 : Obj) (l : Oc) (n v : Nat) (rows : List (List AVal)) (k : Out → Ans) : iFun Tryz.prog (Lay.nil.hd Tryz.prog) Lay.nil.fhs 0 49 [.ptr (.hp 4) 0, .str l] (b4P P0 P1 P2 P3 (.ptr (.hp 4) 0) (.own 6 0 n v false) (.arr 1 rows v)) k = (
 let m0 : Nat := n + (List.map (fun (c : UInt8) => [AVal.int .u8 (↑c.toNat : Int)]) l).length;
 let m1 : Nat := v + 1;
  bif v == v && n == rows.length && decide ((2 * m0 + 1000) * 1 ≤ 281474976710656) && true then
  k
  (Out.ret (AVal.tuple [AVal.int .i64 (↑l.length : Int), AVal.nilIface])
  [P0, P1, P2, P3, Obj.var [AVal.ptr (Oid.hp 4) 0, AVal.own 6 0 m0 m1 false], Obj.note 55 2,
  Obj.arr 1 (rows.append (List.map (fun (c : UInt8) => [AVal.int .u8 (↑c.toNat : Int)]) l)) m1,
  Obj.note 5 0])
  else none) := by kernel_rfl
theorem b4_wb2 (P0 P1 P2 P3 : Obj) (c : UInt8) (n v : Nat) (rows : List (List AVal)) (k : Out → Ans) : iFun Tryz.prog (Lay.nil.hd Tryz.prog) Lay.nil.fhs 0 50 [.ptr (.hp 4) 0, .int .u8 c.toNat] (b4P P0 P1 P2 P3 .nilptr (.own 6 0 n v false) (.arr 1 rows v)) k = (
 let m0 : Nat := n + 1;
 let m1 : Nat := v + 1;
  bif v == v && n == rows.length && decide ((2 * m0 + 1000) * 1 ≤ 281474976710656) && true then
  k
  (Out.ret AVal.nilIface
  [P0, P1, P2, P3, Obj.var [AVal.ptr (Oid.hp 4) 0, AVal.own 6 0 m0 m1 false], Obj.note 55 2,
  Obj.arr 1 (rows.append [[AVal.int .u8 (↑c.toNat : Int)]]) m1, Obj.note 5 0])
  else none) := by kernel_rfl
theorem b4_wb3 (P0 P1 P2 P3 : Obj) (c : UInt8) (n v : Nat) (rows : List (List AVal)) (k : Out → Ans) : iFun Tryz.prog (Lay.nil.hd Tryz.prog) Lay.nil.fhs 0 50 [.ptr (.hp 4) 0, .int .u8 c.toNat] (b4P P0 P1 P2 P3 (.ptr (.hp 4) 0) (.own 6 0 n v false) (.arr 1 rows v)) k = (
 let m0 : Nat := n + 1;
 let m1 : Nat := v + 1;
  bif v == v && n == rows.length && decide ((2 * m0 + 1000) * 1 ≤ 281474976710656) && true then
  k
  (Out.ret AVal.nilIface
  [P0, P1, P2, P3, Obj.var [AVal.ptr (Oid.hp 4) 0, AVal.own 6 0 m0 m1 false], Obj.note 55 2,
  Obj.arr 1 (rows.append [[AVal.int .u8 (↑c.toNat : Int)]]) m1, Obj.note 5 0])
  else none) := by kernel_rfl
theorem b4_ws (x : b4H) (l : Oc) (hx : x.x.can 4 6) (h : x.x.t.length + l.length ≤ 1099511627776) : CallOK Tryz.prog 49 [.ptr (.hp 4) 0, .str l] x.heap (.ret (.tuple [.int .i64 l.length, .nilIface]) ({ x with x := x.x.add 4 6 l } : b4H).heap) := by
 obtain ⟨P0, P1, P2, P3, ⟨ad, b, rows, v⟩⟩ := x
 obtain ⟨h1, h2, h3⟩ := hx
 unfold Bld.add Bld.t
 simp only [Bld.t] at h h1 h2 h3 ⊢
 generalize bytesOf rows = text at *
 subst h2 h3
 cases text with
 | nil =>
  cases l with
  | nil =>
   refine layW0_ok.call (fun k => ?_)
   rcases h1 with rfl | rfl
   · exact b4_ws0 P0 P1 P2 P3 (.arr 1 [] v) k
   · exact b4_ws1 P0 P1 P2 P3 (.arr 1 [] v) k
  | cons c t =>
   refine relAt_ok (i := 4) (c := 1) (j := 6) ?_
   simp only [List.length_nil] at h
   refine Lay.nil_ok.call (fun k => ?_)
   have e3 : wsV [] (c :: t) v = v + 1 + 1 := rfl
   rw [e3]
   generalize hl : c :: t = l at *
   have e4 : bfB 6 ([] ++ l) (v + 1 + 1) = .own 6 0 l.length (v + 1 + 1) false := by rw [← hl]; rfl
   rw [e4]
   rcases h1 with rfl | rfl
   · rw [show relAt 4 1 6 (b4P P0 P1 P2 P3 .nilptr (bfB 6 [] v) (.arr 1 (([] : Oc).map byteRow) v)) = b4P P0 P1 P2 P3 .nilptr (.own 6 0 0 (v + 1) false) (.arr 1 [] (v + 1)) from rfl, b4_ws2]
     simp (disch := omega) only [e_map, List.length_map, dT, beq_self_eq_true, Bool.and_true, cond_true, List.append_eq, List.nil_append, Nat.zero_add, List.length_nil, Nat.mul_one, List.map_nil]
   · rw [show relAt 4 1 6 (b4P P0 P1 P2 P3 (.ptr (.hp 4) 0) (bfB 6 [] v) (.arr 1 (([] : Oc).map byteRow) v)) = b4P P0 P1 P2 P3 (.ptr (.hp 4) 0) (.own 6 0 0 (v + 1) false) (.arr 1 [] (v + 1)) from rfl, b4_ws3]
     simp (disch := omega) only [e_map, List.length_map, dT, beq_self_eq_true, Bool.and_true, cond_true, List.append_eq, List.nil_append, Nat.zero_add, List.length_nil, Nat.mul_one, List.map_nil]
 | cons c t =>
  refine Lay.nil_ok.call (fun k => ?_)
  have e3 : wsV (c :: t) l v = v + 1 := rfl
  have e4 : bfB 6 ((c :: t) ++ l) (v + 1) = .own 6 0 ((c :: t) ++ l).length (v + 1) false := rfl
  have e5 : bfB 6 (c :: t) v = .own 6 0 (c :: t).length v false := rfl
  rw [e3, e4, e5]
  generalize c :: t = m at *
  rcases h1 with rfl | rfl
  · rw [b4_ws2]
    simp (disch := omega) only [e_map, List.length_map, dT, beq_self_eq_true, Bool.and_true, cond_true, List.append_eq, List.length_append, Nat.mul_one]
  · rw [b4_ws3]
    simp (disch := omega) only [e_map, List.length_map, dT, beq_self_eq_true, Bool.and_true, cond_true, List.append_eq, List.length_append, Nat.mul_one]
theorem b4_wb (x : b4H) (c : UInt8) (hx : x.x.can 4 6) (h : x.x.t.length ≤ 1073741824) : CallOK Tryz.prog 50 [.ptr (.hp 4) 0, .int .u8 c.toNat] x.heap (.ret .nilIface ({ x with x := x.x.add 4 6 [c] } : b4H).heap) := by
 obtain ⟨P0, P1, P2, P3, ⟨ad, b, rows, v⟩⟩ := x
 obtain ⟨h1, h2, h3⟩ := hx
 unfold Bld.add Bld.t
 simp only [Bld.t] at h h1 h2 h3 ⊢
 generalize bytesOf rows = text at *
 subst h2 h3
 have e6 : [c].map byteRow = [[.int .u8 c.toNat]] := rfl
 rw [e6]
 cases text with
 | nil =>
  refine relAt_ok (i := 4) (c := 1) (j := 6) ?_
  refine Lay.nil_ok.call (fun k => ?_)
  have e3 : wsV [] [c] v = v + 1 + 1 := rfl
  have e4 : bfB 6 ([] ++ [c]) (v + 1 + 1) = .own 6 0 1 (v + 1 + 1) false := rfl
  rw [e3, e4]
  rcases h1 with rfl | rfl
  · rw [show relAt 4 1 6 (b4P P0 P1 P2 P3 .nilptr (bfB 6 [] v) (.arr 1 (([] : Oc).map byteRow) v)) = b4P P0 P1 P2 P3 .nilptr (.own 6 0 0 (v + 1) false) (.arr 1 [] (v + 1)) from rfl, b4_wb2]
    simp only [beq_self_eq_true]
    rfl
  · rw [show relAt 4 1 6 (b4P P0 P1 P2 P3 (.ptr (.hp 4) 0) (bfB 6 [] v) (.arr 1 (([] : Oc).map byteRow) v)) = b4P P0 P1 P2 P3 (.ptr (.hp 4) 0) (.own 6 0 0 (v + 1) false) (.arr 1 [] (v + 1)) from rfl, b4_wb3]
    simp only [beq_self_eq_true]
    rfl
 | cons d t =>
  refine Lay.nil_ok.call (fun k => ?_)
  have e3 : wsV (d :: t) [c] v = v + 1 := rfl
  have e4 : bfB 6 ((d :: t) ++ [c]) (v + 1) = .own 6 0 ((d :: t) ++ [c]).length (v + 1) false := rfl
  have e5 : bfB 6 (d :: t) v = .own 6 0 (d :: t).length v false := rfl
  rw [e3, e4, e5]
  generalize d :: t = m at *
  rcases h1 with rfl | rfl
  · rw [b4_wb2]
    simp (disch := omega) only [e_map, List.length_map, dT, beq_self_eq_true, Bool.and_true, cond_true, List.append_eq, List.length_append, Nat.mul_one, List.length_cons, List.length_nil]
  · rw [b4_wb3]
    simp (disch := omega) only [e_map, List.length_map, dT, beq_self_eq_true, Bool.and_true, cond_true, List.append_eq, List.length_append, Nat.mul_one, List.length_cons, List.length_nil]
theorem b4_str (x : b4H) (hx : x.x.can 4 6) (h : x.x.t.length ≤ 1099511627776) : CallOK Tryz.prog 51 [.ptr (.hp 4) 0] x.heap (.ret (.str x.x.t) ({ x with x := x.x.dead } : b4H).heap) := by
 obtain ⟨P0, P1, P2, P3, ⟨ad, b, rows, v⟩⟩ := x
 obtain ⟨h1, h2, h3⟩ := hx
 unfold Bld.dead Bld.t
 simp only [Bld.t] at h h1 h2 h3 ⊢
 generalize bytesOf rows = text at *
 subst h2 h3
 cases text with
 | nil => exact str_ok0 (cs := [ad, .nilX]) rfl rfl
 | cons c t => exact str_ok (i := 4) (off := 0) (j := 6) (u := v) (cs := [ad, .own 6 0 (c :: t).length v false]) (l := c :: t) rfl rfl rfl rfl (by simp) h
noncomputable def b4_wsTold : FSp := mkF (fun xs H => (b4H.dec H, aS xs 1)) (fun x => x.1.x.can 4 6 ∧ x.1.x.t.length + x.2.length ≤ 1099511627776) (fun x => [.ptr (.hp 4) 0, .str x.2]) (fun x => x.1.heap) (fun x k => k (.ret (.tuple [.int .i64 x.2.length, .nilIface]) ({ x.1 with x := x.1.x.add 4 6 x.2 } : b4H).heap))
noncomputable def b4_wbTold : FSp := mkF (fun xs H => (b4H.dec H, UInt8.ofNat (aI xs 1).toNat)) (fun x => x.1.x.can 4 6 ∧ x.1.x.t.length ≤ 1073741824) (fun x => [.ptr (.hp 4) 0, .int .u8 x.2.toNat]) (fun x => x.1.heap) (fun x k => k (.ret .nilIface ({ x.1 with x := x.1.x.add 4 6 [x.2] } : b4H).heap))
noncomputable def b4_strTold : FSp := mkF (fun xs H => b4H.dec H) (fun x => x.x.can 4 6 ∧ x.x.t.length ≤ 1099511627776) (fun x => [.ptr (.hp 4) 0]) (fun x => x.heap) (fun x k => k (.ret (.str x.x.t) ({ x with x := x.x.dead } : b4H).heap))
noncomputable def b4_lay (L : Lay) : Lay := ((L.addF 49 b4_wsTold).addF 50 b4_wbTold).addF 51 b4_strTold
theorem b4_ok {L : Lay} (h : L.OK Tryz.prog) : (b4_lay L).OK Tryz.prog :=
 ((h.addF (mkF_ok fun x h => ⟨_, fun k => rfl, b4_ws x.1 x.2 h.1 h.2⟩)).addF (mkF_ok fun x h => ⟨_, fun k => rfl, b4_wb x.1 x.2 h.1 h.2⟩)).addF (mkF_ok fun x h => ⟨_, fun k => rfl, b4_str x h.1 h.2⟩)
end Go.Mu
namespace Go.Mu
open Go Go.Proofs
def enxTold : FSp := mkFS [.i .i64] (fun xs => decide (0 ≤ aI xs 0 ∧ aI xs 0 ≤ 2147483647)) (fun xs k => k (.ret (.tuple [.str (encX (aI xs 0)), .int .i64 (encXE (aI xs 0))]) []))
abbrev hB4 (s : Oc) (a : Int) (x : Bld) : Heap := (b4H.mk (.var vz0) (.var [.int .i64 0]) (.var [.int .i64 0]) (.var [.str s, .int .i64 a]) x).heap
structure StkA where
 s : Oc
 a : Int
 x : Bld
noncomputable def stkSp (K : Oc → Int → Prop) (E : Oc → Int → Int) (X : Oc → Int → Bld → Bld) : LSp := mkL (fun vs bs H => StkA.mk (rS H) (rA H) (bld H 4 6)) (fun y => K y.s y.a ∧ y.x.can 4 6 ∧ y.x.t.length = 0) (fun y => [.ptr (.hp 3) 0, .ptr (.hp 4) 0]) (fun _ => []) (fun y => hB4 y.s y.a y.x)
 (fun y k => k (.exit 0) [.ptr (.hp 4) 0] [] (hB4 y.s (E y.s y.a) (X y.s y.a y.x)))
noncomputable def stkFH (K : Oc → Int → Prop) (E : Oc → Int → Int) (X : Oc → Int → Bld → Bld) : FH := { FH.of [(2, loopSpec 105 [0,3] [] [3] [] (stkSp K E X))] with heap := [3], typed := [(3, [(0, bT)])], exact := true }
noncomputable def layStk0 (Q : Int → Bool) : Lay := b4_lay ((((Lay.nil.addF 120 tkTold).addF 133 hfTold).addF 132 (plnTold Q)).addF 86 enxTold)
theorem stk_step (Q : Int → Bool) (K : Oc → Int → Prop) (E : Oc → Int → Int) (X : Oc → Int → Bld → Bld) (s : Oc) (a : Int) (x : Bld) (D : Dfs) (k : Kont) (n0 : Int) (e_n0 : n0 = (rA (hB4 s a x)))
 (l1 : Oc) (e_l1 : l1 = (rS (hB4 s a x)))
 (m2 : Nat) (e_m2 : m2 = (l1.length))
 (n3 : Int) (e_n3 : n3 = ((↑m2 : Int)))
 (n4 : Int) (e_n4 : n4 = (rA
  [Obj.var vz0, Obj.var [AVal.int .i64 0], Obj.var [AVal.int .i64 0],
   Obj.var [AVal.str l1, AVal.int .i64 n0], Obj.var [x.ad, x.b], Obj.note 55 2, Obj.arr 1 x.rows x.v,
   Obj.note 5 0]))
 (l5 : Oc) (e_l5 : l5 = (rS
  [Obj.var vz0, Obj.var [AVal.int .i64 0], Obj.var [AVal.int .i64 0],
   Obj.var [AVal.str l1, AVal.int .i64 n0], Obj.var [x.ad, x.b], Obj.note 55 2, Obj.arr 1 x.rows x.v,
   Obj.note 5 0]))
 (m6 : Nat) (e_m6 : m6 = (l5.length))
 (n7 : Int) (e_n7 : n7 = ((↑m6 : Int)))
 (m8 : Nat) (e_m8 : m8 = (n4.toNat))
 (n9 : Int) (e_n9 : n9 = (rA
  [Obj.var vz0, Obj.var [AVal.int .i64 0], Obj.var [AVal.int .i64 0],
   Obj.var [AVal.str l5, AVal.int .i64 (n4 + (↑2 : Int))], Obj.var [x.ad, x.b], Obj.note 55 2,
   Obj.arr 1 x.rows x.v, Obj.note 5 0]))
 (n10 : Int) (e_n10 : n10 = (n9 + 4))
 (l11 : Oc) (e_l11 : l11 = (rS
  [Obj.var vz0, Obj.var [AVal.int .i64 0], Obj.var [AVal.int .i64 0],
   Obj.var [AVal.str l5, AVal.int .i64 (n4 + (↑2 : Int))], Obj.var [x.ad, x.b], Obj.note 55 2,
   Obj.arr 1 x.rows x.v, Obj.note 5 0]))
 (m12 : Nat) (e_m12 : m12 = (l11.length))
 (l13 : Oc) (e_l13 : l13 = (t4
  (HfA.mk l11 n9
   (List.drop 4
    [Obj.var vz0, Obj.var [AVal.int .i64 0], Obj.var [AVal.int .i64 0],
     Obj.var [AVal.str l5, AVal.int .i64 (n4 + (↑2 : Int))], Obj.var [x.ad, x.b], Obj.note 55 2,
     Obj.arr 1 x.rows x.v, Obj.note 5 0]))))
 (n14 : Int) (e_n14 : n14 = ((unhexM l13).fst))
 (c15 : Bool) (e_c15 : c15 = (decide (n14 < 56320)))
 (n16 : Int) (e_n16 : n16 = (rA
  [Obj.var vz0, Obj.var [AVal.int .i64 0], Obj.var [AVal.int .i64 0],
   Obj.var [AVal.str l11, AVal.int .i64 n10], Obj.var [x.ad, x.b], Obj.note 55 2, Obj.arr 1 x.rows x.v,
   Obj.note 5 0]))
 (l17 : Oc) (e_l17 : l17 = (rS
  [Obj.var vz0, Obj.var [AVal.int .i64 0], Obj.var [AVal.int .i64 0],
   Obj.var [AVal.str l11, AVal.int .i64 n10], Obj.var [x.ad, x.b], Obj.note 55 2, Obj.arr 1 x.rows x.v,
   Obj.note 5 0]))
 (m18 : Nat) (e_m18 : m18 = (l17.length))
 (n19 : Int) (e_n19 : n19 = (rA
  [Obj.var vz0, Obj.var [AVal.int .i64 0], Obj.var [AVal.int .i64 0],
   Obj.var [AVal.str l17, AVal.int .i64 (n16 + (↑2 : Int))], Obj.var [x.ad, x.b], Obj.note 55 2,
   Obj.arr 1 x.rows x.v, Obj.note 5 0]))
 (n20 : Int) (e_n20 : n20 = (n19 + 4))
 (l21 : Oc) (e_l21 : l21 = (rS
  [Obj.var vz0, Obj.var [AVal.int .i64 0], Obj.var [AVal.int .i64 0],
   Obj.var [AVal.str l17, AVal.int .i64 (n16 + (↑2 : Int))], Obj.var [x.ad, x.b], Obj.note 55 2,
   Obj.arr 1 x.rows x.v, Obj.note 5 0]))
 (m22 : Nat) (e_m22 : m22 = (l21.length))
 (l23 : Oc) (e_l23 : l23 = (t4
  (HfA.mk l21 n19
   (List.drop 4
    [Obj.var vz0, Obj.var [AVal.int .i64 0], Obj.var [AVal.int .i64 0],
     Obj.var [AVal.str l17, AVal.int .i64 (n16 + (↑2 : Int))], Obj.var [x.ad, x.b], Obj.note 55 2,
     Obj.arr 1 x.rows x.v, Obj.note 5 0]))))
 (n24 : Int) (e_n24 : n24 = ((unhexM l23).fst))
 (n25 : Int) (e_n25 : n25 = (IntKind.i64.wrap
  (IntKind.i64.wrap (IntKind.i64.wrap (65536 + IntKind.i64.wrap (IntKind.i64.wrap (n14 - 55296) * 1024)) + n24) -
   56320)))
 (l26 : Oc) (e_l26 : l26 = ((Bld.mk x.ad x.b x.rows x.v).t))
 (m27 : Nat) (e_m27 : m27 = (l26.length))
 (l28 : Oc) (e_l28 : l28 = (encX n25))
 (m29 : Nat) (e_m29 : m29 = (wsV l26 l28 x.v))
 (l30 : Oc) (e_l30 : l30 = (encX n14))
 (m31 : Nat) (e_m31 : m31 = (wsV l26 l30 x.v))
 (c32 : Bool) (e_c32 : c32 = (decide (0 ≤ n4) && decide (n4 < n7)))
 (n33 : Int) (e_n33 : n33 = ((↑(l5.getD m8 0).toNat : Int)))
 (v34 : UInt8) (e_v34 : v34 = (UInt8.ofNat n33.toNat))
 (l35 : Oc) (e_l35 : l35 = ([v34]))
 (m36 : Nat) (e_m36 : m36 = (wsV l26 l35 x.v)) : lturn Tryz.prog (layStk0 Q) (stkFH K E X) 121 2 [0,3] [] [3] [] (stL 105 [0,3] [.ptr (.hp 3) 0, .ptr (.hp 4) 0] [] [] (hB4 s a x) D) k = (
 let z12 := [AVal.str l11, AVal.int .i64 n10];
 let z0 := [Obj.var vz0, Obj.var [AVal.int .i64 0], Obj.var [AVal.int .i64 0], Obj.var z12, Obj.var [x.ad, x.b], Obj.note 55 2, Obj.arr 1 x.rows x.v, Obj.note 5 0];
 let z1 := [Obj.var vz0, Obj.var [AVal.int .i64 0], Obj.var [AVal.int .i64 0], Obj.var [AVal.str l1, AVal.int .i64 n0], Obj.var [x.ad, x.b], Obj.note 55 2, Obj.arr 1 x.rows x.v, Obj.note 5 0];
 let z2 := [Obj.var vz0, Obj.var [AVal.int .i64 0], Obj.var [AVal.int .i64 0], Obj.var [AVal.str l5, AVal.int .i64 n4], Obj.var [x.ad, x.b], Obj.note 55 2, Obj.arr 1 x.rows x.v, Obj.note 5 0];
 let z3 := Obj.var [AVal.int .i64 0];
 let z4 := [Obj.var vz0, Obj.var [AVal.int .i64 0], Obj.var [AVal.int .i64 0], Obj.var [AVal.str l17, AVal.int .i64 (n16 + (↑2 : Int))], Obj.var [x.ad, x.b], Obj.note 55 2, Obj.arr 1 x.rows x.v, Obj.note 5 0];
 let z5 := [Obj.var vz0, Obj.var [AVal.int .i64 0], Obj.var [AVal.int .i64 0], Obj.var [AVal.str l5, AVal.int .i64 (n4 + (↑2 : Int))], Obj.var [x.ad, x.b], Obj.note 55 2, Obj.arr 1 x.rows x.v, Obj.note 5 0];
 let z6 := AExit.panic (AVal.iface 39 (AVal.int .i64 33));
 let z7 := [Obj.var vz0, Obj.var [AVal.int .i64 0], Obj.var [AVal.int .i64 0], Obj.var [AVal.str l17, AVal.int .i64 n16], Obj.var [x.ad, x.b], Obj.note 55 2, Obj.arr 1 x.rows x.v, Obj.note 5 0];
 let z13 := [AVal.str l21, AVal.int .i64 n20];
 let z8 := [Obj.var vz0, Obj.var [AVal.int .i64 0], Obj.var [AVal.int .i64 0], Obj.var z13, Obj.var [x.ad, x.b], Obj.note 55 2, Obj.arr 1 x.rows x.v, Obj.note 5 0];
 let z9 := Bld.mk x.ad x.b x.rows x.v;
 let z10 := [AVal.ptr (Oid.hp 3) 0, AVal.str [92, 117]];
 let z11 := [AVal.ptr (Oid.hp 3) 0, AVal.ptr (Oid.hp 4) 0];
  bif tst ((0 ≤ n0 ∧ n0 ≤ n3 ∧ m2 ≤ 1099511627776 ∧ 1 ≤ 100 ∧ noteless (List.drop 4 (hB4 s a x))) ∧ SubL [AVal.ptr (Oid.hp 3) 0, AVal.str [34]] [AVal.ptr (Oid.hp 3) 0, AVal.str [34]] ∧ hB4 s a x = z1) then bif hpP [34] (List.drop n0.toNat l1) then k (AExit.exit 0) (stL 105 [3] [AVal.ptr (Oid.hp 4) 0] [] [] [Obj.var vz0, Obj.var [AVal.int .i64 0], Obj.var [AVal.int .i64 0], Obj.var [AVal.str l1, AVal.int .i64 (n0 + (↑1 : Int))], Obj.var [x.ad, x.b], Obj.note 55 2, Obj.arr 1 x.rows x.v, Obj.note 5 0] D) else bif !decide (n0 < n3) then k z6 (stL 105 [3] [AVal.ptr (Oid.hp 4) 0] [] [] z1 D) else bif tst ((0 ≤ n4 ∧ n4 ≤ n7 ∧ m6 ≤ 1099511627776 ∧ 2 ≤ 100 ∧ noteless (List.drop 4 z1)) ∧ SubL z10 z10 ∧ z1 = z2) then bif hpP [92, 117] (List.drop m8 l5) then bif tst ((0 ≤ n9 ∧ n10 ≤ (↑m12 : Int) ∧ m12 ≤ 1099511627776 ∧ (unhexM l13).snd = 0 ∧ lowM l13 = l13 ∧ noteless (List.drop 4 z5)) ∧ SubL [AVal.ptr (Oid.hp 3) 0] [AVal.ptr (Oid.hp 3) 0] ∧ z5 = [Obj.var vz0, Obj.var [AVal.int .i64 0], Obj.var [AVal.int .i64 0], Obj.var [AVal.str l11, AVal.int .i64 n9], Obj.var [x.ad, x.b], Obj.note 55 2, Obj.arr 1 x.rows x.v, Obj.note 5 0]) then bif !bif bif !Q n14 then decide (n14 > 0) else false then bif c15 then true else decide (n14 > 57343) else false then k z6 (stL 105 [3] [AVal.ptr (Oid.hp 4) 0] [] [] z0 D) else bif bif decide (n14 ≥ 55296) then c15 else false then bif tst ((0 ≤ n16 ∧ n16 ≤ (↑m18 : Int) ∧ m18 ≤ 1099511627776 ∧ 2 ≤ 100 ∧ noteless (List.drop 4 z0)) ∧ SubL z10 z10 ∧ z0 = z7) then bif hpP [92, 117] (List.drop n16.toNat l17) then bif tst ((0 ≤ n19 ∧ n20 ≤ (↑m22 : Int) ∧ m22 ≤ 1099511627776 ∧ (unhexM l23).snd = 0 ∧ lowM l23 = l23 ∧ noteless (List.drop 4 z4)) ∧ SubL [AVal.ptr (Oid.hp 3) 0] [AVal.ptr (Oid.hp 3) 0] ∧ z4 = [Obj.var vz0, Obj.var [AVal.int .i64 0], Obj.var [AVal.int .i64 0], Obj.var [AVal.str l21, AVal.int .i64 n19], Obj.var [x.ad, x.b], Obj.note 55 2, Obj.arr 1 x.rows x.v, Obj.note 5 0]) then bif !bif decide (n24 ≥ 56320) then decide (n24 ≤ 57343) else false then k z6 (stL 105 [3] [AVal.ptr (Oid.hp 4) 0] [] [] z8 D) else bif decide (0 ≤ n25 ∧ n25 ≤ 2147483647) then bif tst ((Bld.can 4 6 z9 ∧ m27 + l28.length ≤ 1099511627776) ∧ SubL [AVal.ptr (Oid.hp 4) 0, AVal.str l28] [AVal.ptr (Oid.hp 4) 0, AVal.str l28] ∧ z8 = (b4H.mk (Obj.var vz0) z3 z3 (Obj.var z13) z9).heap) then k AExit.normal (stL 105 [0, 3] z11 [] [] (b4H.mk (Obj.var vz0) z3 z3 (Obj.var z13) (Bld.mk (AVal.ptr (Oid.hp 4) 0) (bfB 6 (l26.append l28) m29) (x.rows.append (List.map (fun (c : UInt8) => [AVal.int .u8 (↑c.toNat : Int)]) l28)) m29)).heap D) else none else none else none else k z6 (stL 105 [3] [AVal.ptr (Oid.hp 4) 0] [] [] z7 D) else none else bif decide (0 ≤ n14 ∧ n14 ≤ 2147483647) then bif tst ((Bld.can 4 6 z9 ∧ m27 + l30.length ≤ 1099511627776) ∧ SubL [AVal.ptr (Oid.hp 4) 0, AVal.str l30] [AVal.ptr (Oid.hp 4) 0, AVal.str l30] ∧ z0 = (b4H.mk (Obj.var vz0) z3 z3 (Obj.var z12) z9).heap) then k AExit.normal (stL 105 [0, 3] z11 [] [] (b4H.mk (Obj.var vz0) z3 z3 (Obj.var z12) (Bld.mk (AVal.ptr (Oid.hp 4) 0) (bfB 6 (l26.append l30) m31) (x.rows.append (List.map (fun (c : UInt8) => [AVal.int .u8 (↑c.toNat : Int)]) l30)) m31)).heap D) else none else none else none else bif c32 then bif !Q (IntKind.i64.wrap n33) then k z6 (stL 105 [3] [AVal.ptr (Oid.hp 4) 0] [] [] z2 D) else bif c32 then bif tst ((Bld.can 4 6 z9 ∧ m27 ≤ 1073741824) ∧ SubL [AVal.ptr (Oid.hp 4) 0, AVal.int .u8 n33] [AVal.ptr (Oid.hp 4) 0, AVal.int .u8 (↑v34.toNat : Int)] ∧ z2 = (b4H.mk (Obj.var vz0) z3 z3 (Obj.var [AVal.str l5, AVal.int .i64 n4]) z9).heap) then k AExit.normal (stL 105 [0, 3] z11 [] [] [Obj.var vz0, Obj.var [AVal.int .i64 0], Obj.var [AVal.int .i64 0], Obj.var [AVal.str l5, AVal.int .i64 (IntKind.i64.wrap (n4 + 1))], Obj.var [AVal.ptr (Oid.hp 4) 0, bfB 6 (l26.append l35) m36], Obj.note 55 2, Obj.arr 1 (x.rows.append [[AVal.int .u8 (↑v34.toNat : Int)]]) m36, Obj.note 5 0] D) else none else none else none else none else none) := by
  subst e_n0 e_l1 e_m2 e_n3 e_n4 e_l5 e_m6 e_n7 e_m8 e_n9 e_n10 e_l11 e_m12 e_l13 e_n14 e_c15 e_n16 e_l17 e_m18 e_n19 e_n20 e_l21 e_m22 e_l23 e_n24 e_n25 e_l26 e_m27 e_l28 e_m29 e_l30 e_m31 e_c32 e_n33 e_v34 e_l35 e_m36
  kernel_rfl
noncomputable def layStk (Q : Int → Bool) (K : Oc → Int → Prop) (E : Oc → Int → Int) (X : Oc → Int → Bld → Bld) : Lay := (layStk0 Q).addL 121 (stkFH K E X)
theorem rstr_fun (Q : Int → Bool) (K : Oc → Int → Prop) (E : Oc → Int → Int) (X : Oc → Int → Bld → Bld) (s : Oc) (a : Int) (k : Out → Ans) (l0 : Oc) (e_l0 : l0 = (rS
 [Obj.var vz0, Obj.var [AVal.int .i64 0], Obj.var [AVal.int .i64 0],
  Obj.var [AVal.str s, AVal.int .i64 a], Obj.var [AVal.nilptr, AVal.nilX], Obj.note 55 2, Obj.arr 1 [] 0,
  Obj.note 5 0]))
 (n1 : Int) (e_n1 : n1 = (rA
  [Obj.var vz0, Obj.var [AVal.int .i64 0], Obj.var [AVal.int .i64 0],
   Obj.var [AVal.str s, AVal.int .i64 a], Obj.var [AVal.nilptr, AVal.nilX], Obj.note 55 2, Obj.arr 1 [] 0,
   Obj.note 5 0]))
 (m2 : Nat) (e_m2 : m2 = ((X l0 n1 (Bld.mk AVal.nilptr AVal.nilX [] 0)).v))
 (l3 : Oc) (e_l3 : l3 = ((Bld.mk (X l0 n1 (Bld.mk AVal.nilptr AVal.nilX [] 0)).ad (X l0 n1 (Bld.mk AVal.nilptr AVal.nilX [] 0)).b
  (X l0 n1 (Bld.mk AVal.nilptr AVal.nilX [] 0)).rows m2).t))
 (n4 : Int) (e_n4 : n4 = (E l0 n1)) : iFun Tryz.prog ((layStk Q K E X).hd Tryz.prog) (layStk Q K E X).fhs 0 121 [.ptr (.hp 3) 0] (heap4 s a) k = (
 let z2 := Bld.mk AVal.nilptr AVal.nilX [] 0;
 let z0 := X l0 n1 z2;
 let z1 := Obj.var [AVal.int .i64 0];
 let z3 := Obj.var [AVal.str l0, AVal.int .i64 n4];
 let z4 := [AVal.ptr (Oid.hp 3) 0, AVal.ptr (Oid.hp 4) 0];
  bif tst ((K l0 n1 ∧ Bld.can 4 6 z2 ∧ 0 = 0) ∧ SubTL z4 z4 ∧ ([] : List (List AVal)) = [] ∧ [Obj.var vz0, Obj.var [AVal.int .i64 0], Obj.var [AVal.int .i64 0], Obj.var [AVal.str s, AVal.int .i64 a], Obj.var [AVal.nilptr, AVal.nilX], Obj.note 55 2, Obj.arr 1 [] 0, Obj.note 5 0] = hB4 l0 n1 z2) then bif tst ((Bld.can 4 6 (Bld.mk z0.ad z0.b z0.rows m2) ∧ l3.length ≤ 1099511627776) ∧ SubL [AVal.ptr (Oid.hp 4) 0] [AVal.ptr (Oid.hp 4) 0] ∧ hB4 l0 n4 z0 = (b4H.mk (Obj.var vz0) z1 z1 z3 (Bld.mk z0.ad z0.b z0.rows m2)).heap) then k (Out.ret (AVal.str l3) (b4H.mk (Obj.var vz0) z1 z1 z3 (Bld.mk z0.ad z0.b [] (bif l3 == [] then m2 else m2 + 1))).heap) else none else none) := by
  subst e_l0 e_n1 e_m2 e_l3 e_n4
  kernel_rfl
end Go.Mu
namespace Go.Mu
open Go Go.Proofs
noncomputable def layQ1 (R : Oc → Int → Bool) : Lay := ((Lay.nil.addF 45 (octTold rLtr)).addF 46 (octTold rDgt)).addF 43 (hasTold R)
theorem layQ1_ok : (layQ1 anyI).OK Tryz.prog := ((Lay.nil_ok.addF (octTold_ok rLetter_fun)).addF (octTold_ok rDigit_fun)).addF hasTold_ok
structure RuA where
 s : Oc
 at_ : Nat
 hex : Bool
 n : Nat
 H : Heap
noncomputable def ruSp (R : Bool → Oc → Nat) : LSp := mkL (fun vs _ H => RuA.mk (aS vs 0) (aI vs 1).toNat (aB vs 2) (aI vs 3).toNat H) (fun a => a.at_ + a.n ≤ a.s.length ∧ a.s.length ≤ 1099511627776) (fun a => [.str a.s, .int .i64 (a.at_ : Nat), .bool a.hex, .int .i64 (a.n : Nat)]) (fun _ => []) (fun a => a.H)
 (fun a k => k (.exit 0) [.int .i64 ((a.n + R a.hex (a.s.drop (a.at_ + a.n)) : Nat) : Int)] [] a.H)
noncomputable def ruFH (R : Bool → Oc → Nat) : FH := .of [(2, loopSpec 36 [0,1,2,7] [] [7] [] (ruSp R))]
theorem ru_step (R : Bool → Oc → Nat) (A : Oc → Int → Bool) (s : Oc) (at_ n : Int) (hex : Bool) (H : Heap) (D : Dfs) (k : Kont) : lturn Tryz.prog (layQ1 A) (ruFH R) 80 2 [0,1,2,7] [] [7] [] (stL 36 [0,1,2,7] [.str s, .int .i64 at_, .bool hex, .int .i64 n] [] [] H D) k = (
 let n0 : Int := IntKind.i64.wrap (at_ + n);
 let c1 : Bool := decide (n0 < (↑s.length : Int));
 let c2 : Bool := decide (0 ≤ n0) && c1;
 let n3 : Int := (↑(s.getD n0.toNat 0).toNat : Int);
 let c4 : Bool := rDgt n3;
  bif c2 || !c1 then bif c2 || !(c1 && !c4 && hex) then bif bif c1 then bif c4 then true else bif hex then A [97, 98, 99, 100, 101, 102, 65, 66, 67, 68, 69, 70] n3 else false else false then k AExit.normal (stL 36 [0, 1, 2, 7] [AVal.str s, AVal.int .i64 at_, AVal.bool hex, AVal.int .i64 (IntKind.i64.wrap (n + 1))] [] [] H D) else k (AExit.exit 0) (stL 36 [7] [AVal.int .i64 n] [] [] H D) else none else none) := by kernel_rfl
noncomputable def layQ2 (R : Bool → Oc → Nat) : Lay := (layQ1 anyI).addL 80 (ruFH R)
theorem ru_fun (R : Bool → Oc → Nat) (s : Oc) (at_ : Int) (hex : Bool) (k : Out → Ans) : iFun Tryz.prog ((layQ2 R).hd Tryz.prog) (layQ2 R).fhs 0 80 [.str s, .int .i64 at_, .bool hex] [] k = (
 let m0 : Nat := at_.toNat + Int.toNat 0;
  bif tst ((m0 ≤ s.length ∧ s.length ≤ 1099511627776) ∧ SubTL [AVal.str s, AVal.int .i64 at_, AVal.bool hex, AVal.int .i64 0] [AVal.str s, AVal.int .i64 (↑at_.toNat : Int), AVal.bool hex, AVal.int .i64 (↑(Int.toNat 0) : Int)] ∧ ([] : List (List AVal)) = [] ∧ ([] : Heap) = []) then k (Out.ret (AVal.int .i64 (↑(Int.toNat 0 + R hex (List.drop m0 s)) : Int)) []) else none) := by kernel_rfl
structure UqA where
 s : Oc
 n : Int
 i : Nat
 H : Heap
structure NqA where
 s : Oc
 b : Int
 n : Int
 i : Nat
 H : Heap
def runTold' (R : Bool → Oc → Nat) : FSp := mkFS [.s, .i .i64, .b] (fun xs => decide ((aS xs 0).length ≤ 1099511627776 ∧ 0 ≤ aI xs 1 ∧ aI xs 1 ≤ (aS xs 0).length)) (fun xs k => k (.ret (.int .i64 (R (aB xs 2) ((aS xs 0).drop (aI xs 1).toNat) : Nat)) []))
structure OqA where
 s : Oc
 i : Nat
 H : Heap
end Go.Mu
namespace Go.Mu
open Go Go.Proofs
theorem runQ_cons (hex : Bool) (c : UInt8) (t : Oc) : runQ hex (c :: t) = bif dgt hex c then runQ hex t + 1 else 0 := by
 unfold runQ
 rw [List.takeWhile_cons]
 cases dgt hex c <;> rfl
theorem ru_runs (s : Oc) (hs : s.length ≤ 1099511627776) (at_ : Nat) (hex : Bool) (H : Heap) (R : Bool → Oc → Nat) : ∀ (m n : Nat), s.length - (at_ + n) ≤ m → at_ + n ≤ s.length →
 LoopRuns (lturn Tryz.prog (layQ1 anyI) (ruFH R) 80 2 [0,1,2,7] [] [7] []) 36 [0,1,2,7] [] [7] [] [.str s, .int .i64 (at_ : Nat), .bool hex, .int .i64 (n : Nat)] [] H (.exit 0) [.int .i64 ((n + runQ hex (s.drop (at_ + n)) : Nat) : Int)] [] H := by
 intro m
 induction m with
 | zero =>
  intro n hm hi
  have e : s.drop (at_ + n) = [] := List.drop_eq_nil_of_le (by omega)
  have e1 : IntKind.i64.wrap ((at_ : Int) + (n : Int)) = ((at_ + n : Nat) : Int) := by rw [wrap_of (by omega) (by omega)]; omega
  rw [e]
  refine .stop (by simp) (fun D k => (ru_step R anyI s at_ n hex H D k).trans ?_)
  simp only [e1, dF (show ¬ ((at_ + n : Nat) : Int) < s.length by omega), Bool.and_false, Bool.false_and, Bool.not_false, Bool.or_true, cond_true, cond_false]
  rfl
 | succ m ih =>
  intro n hm hi
  have e1 : IntKind.i64.wrap ((at_ : Int) + (n : Int)) = ((at_ + n : Nat) : Int) := by rw [wrap_of (by omega) (by omega)]; omega
  have e2 : IntKind.i64.wrap ((n : Int) + 1) = ((n + 1 : Nat) : Int) := wrap_add1 (by omega)
  have key := fun D k => ru_step R anyI s at_ n hex H D k
  by_cases hlt : at_ + n < s.length
  · have ed := drop_cons_of s (at_ + n) 0 hlt
    simp only [e1, e2, dT (show ((at_ + n : Nat) : Int) < s.length by omega), dT (show (0 : Int) ≤ ((at_ + n : Nat) : Int) by omega), Int.toNat_natCast, rDgt_eq, Bool.and_self, Bool.true_or, cond_true] at key
    have hg : (bif dig (s.getD (at_ + n) 0) then true else bif hex then anyI [97, 98, 99, 100, 101, 102, 65, 66, 67, 68, 69, 70] ((s.getD (at_ + n) 0).toNat : Int) else false) = dgt hex (s.getD (at_ + n) 0) := by
     unfold dgt hexc
     rw [bif_or, bif_and]
    simp only [hg] at key
    rw [ed, runQ_cons]
    cases hc : dgt hex (s.getD (at_ + n) 0) with
    | true =>
     simp only [hc, cond_true] at key ⊢
     have := ih (n + 1) (by omega) (by omega)
     rw [show n + (runQ hex (s.drop (at_ + n + 1)) + 1) = n + 1 + runQ hex (s.drop (at_ + (n + 1))) by rw [Nat.add_assoc at_]; omega]
     exact .step key this
    | false =>
     simp only [hc, cond_false] at key ⊢
     exact .stop (by simp) key
  · have e : s.drop (at_ + n) = [] := List.drop_eq_nil_of_le (by omega)
    rw [e]
    refine .stop (by simp) (fun D k => (ru_step R anyI s at_ n hex H D k).trans ?_)
    simp only [e1, dF (show ¬ ((at_ + n : Nat) : Int) < s.length by omega), Bool.and_false, Bool.false_and, Bool.not_false, Bool.or_true, cond_true, cond_false]
    rfl
theorem ruSp_ok : SpOK (lturn Tryz.prog (layQ1 anyI) (ruFH runQ) 80 2 [0,1,2,7] [] [7] []) 36 [0,1,2,7] [] [7] [] (ruSp runQ) := mkL_ok fun a h => ⟨_, _, _, _, fun k => rfl, ru_runs a.s h.2 a.at_ a.hex a.H runQ _ a.n (Nat.le_refl _) h.1⟩
theorem layQ2_ok : (layQ2 runQ).OK Tryz.prog := layQ1_ok.loop1 (id := 2) (by kernel_rfl) (by kernel_rfl) (by kernel_rfl) ruSp_ok
theorem runTold_ok' : ∀ xs H k out, runTold' runQ xs H k = some out → ∃ o, CallOK Tryz.prog 80 xs H o ∧ k o = some out := mkFS_ok fun ys xs e h => by
 obtain ⟨s, n, b, rfl⟩ : ∃ s n b, xs = [.str s, .int .i64 n, .bool b] := ⟨_, _, _, e⟩
 have h2 : s.length ≤ 1099511627776 ∧ 0 ≤ n ∧ n ≤ s.length := of_decide_eq_true h
 obtain ⟨i, rfl⟩ : ∃ i : Nat, n = i := ⟨n.toNat, by omega⟩
 refine ⟨_, fun k => rfl, layQ2_ok.callF (G := []) rfl (fun k => (ru_fun runQ s i b k).trans ?_)⟩
 refine cT (tst_true ⟨⟨by show i + 0 ≤ s.length; omega, h2.1⟩, .refl _, rfl, rfl⟩) ?_
 show k (.ret (.int .i64 ((0 + runQ b (s.drop (i + 0)) : Nat) : Int)) []) = _
 rw [Nat.zero_add]; rfl
end Go.Mu
namespace Go.Mu
open Go Go.Proofs
end Go.Mu
namespace Go.Mu
open Go Go.Proofs
structure QsA where
 s : Oc
 i : Nat
 H : Heap
abbrev LoQ := Oc → List (List AVal)
noncomputable def loqSp (R : LoQ) : LSp := mkL (fun vs _ H => (aS vs 0, (aI vs 2).toNat)) (fun x => x.2 = 0 ∧ x.1.length ≤ 1099511627776) (fun x => [.str x.1, nilList, .int .i64 (x.2 : Nat)]) (fun _ => []) (fun _ => [])
 (fun x k => cond (x.1 == []) (k (.exit 0) [nilList] [] []) (k (.exit 0) [.own 0 0 x.1.length (x.1.length - 1) false] [] [.arr 1 (R x.1) (x.1.length - 1)]))
noncomputable def loqFH (R : LoQ) : FH := .of [(3, loopSpec 30 [0,3,4] [] [3] [] (loqSp R))]
theorem loq_s0 (R : LoQ) (s : Oc) (i : Int) (D : Dfs) (k : Kont) : lturn Tryz.prog Lay.nil (loqFH R) 44 3 [0,3,4] [] [3] [] (stL 30 [0,3,4] [.str s, nilList, .int .i64 i] [] [] [] D) k = (
 let c0 : Bool := decide (i < (↑s.length : Int));
 let n1 : Int := (↑(s.getD i.toNat 0).toNat : Int);
 let z0 := [AVal.str s, AVal.own 0 0 (0 + 1) 0 false, AVal.int .i64 (IntKind.i64.wrap (i + 1))];
  bif c0 then bif decide (0 ≤ i) && c0 then bif bif decide (n1 ≥ 65) then decide (n1 ≤ 90) else false then k AExit.normal (stL 30 [0, 3, 4] z0 [] [] [Obj.arr 1 [[AVal.int .u8 (IntKind.u8.wrap (IntKind.u8.wrap (n1 - 65) + 97))]] 0] D) else k AExit.normal (stL 30 [0, 3, 4] z0 [] [] [Obj.arr 1 [[AVal.int .u8 n1]] 0] D) else none else k (AExit.exit 0) (stL 30 [3] [AVal.list true 0 fun (x : Nat) => []] [] [] [] D)) := by kernel_rfl
theorem loq_s1 (R : LoQ) (s : Oc) (i : Int) (q v : Nat) (rows : List (List AVal)) (D : Dfs) (k : Kont) : lturn Tryz.prog Lay.nil (loqFH R) 44 3 [0,3,4] [] [3] [] (stL 30 [0,3,4] [.str s, .own 0 0 q v false, .int .i64 i] [] [] [.arr 1 rows v] D) k = (
 let c0 : Bool := decide (i < (↑s.length : Int));
 let n1 : Int := (↑(s.getD i.toNat 0).toNat : Int);
 let m2 : Nat := q + 1;
 let c3 : Bool := v == v && q == rows.length && decide ((2 * m2 + 1000) * 1 ≤ 281474976710656) && true;
 let m4 : Nat := v + 1;
 let z0 := [AVal.str s, AVal.own 0 0 m2 m4 false, AVal.int .i64 (IntKind.i64.wrap (i + 1))];
  bif c0 then bif decide (0 ≤ i) && c0 then bif bif decide (n1 ≥ 65) then decide (n1 ≤ 90) else false then bif c3 then k AExit.normal (stL 30 [0, 3, 4] z0 [] [] [Obj.arr 1 (rows.append [[AVal.int .u8 (IntKind.u8.wrap (IntKind.u8.wrap (n1 - 65) + 97))]]) m4] D) else none else bif c3 then k AExit.normal (stL 30 [0, 3, 4] z0 [] [] [Obj.arr 1 (rows.append [[AVal.int .u8 n1]]) m4] D) else none else none else k (AExit.exit 0) (stL 30 [3] [AVal.own 0 0 q v false] [] [] [Obj.arr 1 rows v] D)) := by kernel_rfl
noncomputable def layLo (R : LoQ) : Lay := Lay.nil.addL 44 (loqFH R)
theorem loq_fun (R : LoQ) (s : Oc) (k : Out → Ans) : iFun Tryz.prog ((layLo R).hd Tryz.prog) (layLo R).fhs 0 44 [.str s] [] k = (
 let m0 : Nat := s.length - 1;
  bif tst ((Int.toNat 0 = 0 ∧ s.length ≤ 1099511627776) ∧ SubTL [AVal.str s, AVal.list true 0 fun (x : Nat) => [], AVal.int .i64 0] [AVal.str s, AVal.list true 0 fun (x : Nat) => [], AVal.int .i64 (↑(Int.toNat 0) : Int)] ∧ ([] : List (List AVal)) = [] ∧ ([] : Heap) = []) then bif s == [] then k (Out.ret (AVal.str []) []) else bif m0 == m0 && true && decide (0 + s.length ≤ (R s).length) && (List.take s.length (List.drop 0 (R s))).all fun (r : List AVal) => match r with | [v] => isInt IntKind.u8 v | x => false then k (Out.ret (AVal.str (List.map (fun (r : List AVal) => UInt8.ofNat (intOf (r.getD 0 AVal.undef)).toNat) (List.take s.length (List.drop 0 (R s))))) [Obj.arr 1 (R s) m0]) else none else none) := by kernel_rfl
noncomputable def layQ9 (L : Oc → Oc) : Lay := Lay.nil.addF 44 (mkFS [.s] (fun xs => decide ((aS xs 0).length ≤ 1099511627776)) (fun xs k => k (.ret (.str (L (aS xs 0))) [])))
abbrev ScQ := Oc → Nat → Bool × Oc × Bool
noncomputable def scqSp (R : ScQ) : LSp := mkL (fun vs _ H => QsA.mk (aS vs 0) (aI vs 1).toNat H) (fun a => a.i ≤ a.s.length ∧ a.s.length ≤ 1099511627776) (fun a => [.str a.s, .int .i64 (a.i : Nat)]) (fun _ => []) (fun a => a.H)
 (fun a k => cond (R a.s a.i).1 (k .ret [.str (R a.s a.i).2.1, .bool (R a.s a.i).2.2] [] a.H) (k (.exit 0) [.undef, .undef] [] a.H))
noncomputable def scqFH (R : ScQ) : FH := .of [(2, loopSpec 24 [0,4] [] [2,3] [] (scqSp R))]
theorem scq_step (R : ScQ) (L : Oc → Oc) (s : Oc) (i : Int) (H : Heap) (D : Dfs) (k : Kont) : lturn Tryz.prog (layQ9 L) (scqFH R) 16 2 [0,4] [] [2,3] [] (stL 24 [0,4] [.str s, .int .i64 i] [] [] H D) k = (
 let n0 : Int := (↑s.length : Int);
 let c1 : Bool := decide (i < n0);
 let c2 : Bool := decide (0 ≤ i);
 let n3 : Int := (↑(s.getD i.toNat 0).toNat : Int);
 let l4 : Oc := List.drop (Int.toNat 0) (List.take i.toNat s);
 let c5 : Bool := n3 == 47;
 let c6 : Bool := n3 == 63;
 let z0 := stL 24 [0, 4] [AVal.str s, AVal.int .i64 (IntKind.i64.wrap (i + 1))] [] [] H D;
 let z1 := stL 24 [2, 3] [AVal.str [], AVal.bool false] [] [] H D;
  bif c1 then bif c2 && c1 then bif n3 == 58 then bif c2 && decide (i ≤ n0) then bif decide (l4.length ≤ 1099511627776) then k AExit.ret (stL 24 [2, 3] [AVal.str (L l4), AVal.bool true] [] [] H D) else none else none else bif c5 then bif c5 then k AExit.ret z1 else k AExit.normal z0 else bif c6 then bif c6 then k AExit.ret z1 else k AExit.normal z0 else bif n3 == 35 then k AExit.ret z1 else k AExit.normal z0 else none else k (AExit.exit 0) (stL 24 [2, 3] [AVal.undef, AVal.undef] [] [] H D)) := by kernel_rfl
noncomputable def layQa (L : Oc → Oc) (R : ScQ) : Lay := (layQ9 L).addL 16 (scqFH R)
theorem scq_fun (L : Oc → Oc) (R : ScQ) (s : Oc) (k : Out → Ans) : iFun Tryz.prog ((layQa L R).hd Tryz.prog) (layQa L R).fhs 0 16 [.str s] [] k = (
 bif
 tst
 ((Int.toNat 0 ≤ s.length ∧ s.length ≤ 1099511627776) ∧
 SubTL [AVal.str s, AVal.int .i64 0] [AVal.str s, AVal.int .i64 (↑(Int.toNat 0) : Int)] ∧
 ([] : List (List AVal)) = [] ∧ ([] : Heap) = []) then
 bif (R s (Int.toNat 0)).fst then
 k (Out.ret (AVal.tuple [AVal.str (R s (Int.toNat 0)).snd.fst, AVal.bool (R s (Int.toNat 0)).snd.snd]) [])
 else k (Out.ret (AVal.tuple [AVal.str [], AVal.bool false]) [])
 else none) := by kernel_rfl
structure FiA where
 s : Oc
 p : Oc
 i : Nat
 H : Heap
noncomputable def finSp (R : Oc → Oc → Nat → Option Nat) : LSp := mkL (fun vs _ H => FiA.mk (aS vs 0) (aS vs 1) (aI vs 2).toNat H) (fun a => a.i ≤ a.s.length ∧ a.s.length ≤ 1099511627776 ∧ 1 ≤ a.p.length ∧ a.p.length ≤ 1099511627776) (fun a => [.str a.s, .str a.p, .int .i64 (a.i : Nat)]) (fun _ => []) (fun a => a.H)
 (fun a k => cond (R a.s a.p a.i).isSome (k .ret [.int .i64 ((R a.s a.p a.i).getD 0 : Nat)] [] a.H) (k (.exit 0) [.undef] [] a.H))
noncomputable def finFH (R : Oc → Oc → Nat → Option Nat) : FH := .of [(2, loopSpec 25 [0,1,5] [] [4] [] (finSp R))]
theorem fin_step (R : Oc → Oc → Nat → Option Nat) (s p : Oc) (i : Int) (H : Heap) (D : Dfs) (k : Kont) : lturn Tryz.prog Lay.nil (finFH R) 47 2 [0,1,5] [] [4] [] (stL 25 [0,1,5] [.str s, .str p, .int .i64 i] [] [] H D) k = (
 let n0 : Int := IntKind.i64.wrap (i + (↑p.length : Int));
 let c1 : Bool := decide (n0 ≤ (↑s.length : Int));
  bif c1 then
  bif decide (0 ≤ i) && decide (i ≤ n0) && c1 then
  bif List.drop i.toNat (List.take n0.toNat s) == p then k AExit.ret (stL 25 [4] [AVal.int .i64 i] [] [] H D)
  else
  k AExit.normal
  (stL 25 [0, 1, 5] [AVal.str s, AVal.str p, AVal.int .i64 (IntKind.i64.wrap (i + 1))] [] [] H D)
  else none
  else k (AExit.exit 0) (stL 25 [4] [AVal.undef] [] [] H D)) := by kernel_rfl
noncomputable def layQf (R : Oc → Oc → Nat → Option Nat) : Lay := Lay.nil.addL 47 (finFH R)
theorem fin_fun (R : Oc → Oc → Nat → Option Nat) (s p : Oc) (k : Out → Ans) : iFun Tryz.prog ((layQf R).hd Tryz.prog) (layQf R).fhs 0 47 [.str s, .str p] [] k = (
 bif tst ((Int.toNat 0 ≤ s.length ∧ s.length ≤ 1099511627776 ∧ 1 ≤ p.length ∧ p.length ≤ 1099511627776) ∧ SubTL [AVal.str s, AVal.str p, AVal.int .i64 0] [AVal.str s, AVal.str p, AVal.int .i64 (↑(Int.toNat 0) : Int)] ∧ ([] : List (List AVal)) = [] ∧ ([] : Heap) = []) then bif (R s p (Int.toNat 0)).isSome then k (Out.ret (AVal.int .i64 (↑((R s p (Int.toNat 0)).getD 0) : Int)) []) else k (Out.ret (AVal.int .i64 (-1)) []) else none) := by kernel_rfl
def findTold (F : Oc → Oc → Int) : FSp := mkFS [.s, .s] (fun xs => decide ((aS xs 0).length ≤ 1099511627776 ∧ 1 ≤ (aS xs 1).length ∧ (aS xs 1).length ≤ 1099511627776)) (fun xs k => k (.ret (.int .i64 (F (aS xs 0) (aS xs 1))) []))
noncomputable def layQs (A : Oc → Int → Bool) (L : Oc → Oc) (F : Oc → Oc → Int) : Lay := ((layQ1 A).addF 44 (mkFS [.s] (fun xs => decide ((aS xs 0).length ≤ 1099511627776)) (fun xs k => k (.ret (.str (L (aS xs 0))) [])))).addF 47 (findTold F)
structure StyA where
 s : Oc
 t : Oc
 i : Nat
 H : Heap
noncomputable def stySp (R : Oc → Bool) : LSp := mkL (fun vs _ H => StyA.mk (aS vs 0) (aS vs 1) (aI vs 2).toNat H) (fun a => a.i ≤ a.t.length ∧ a.t.length ≤ 1099511627776) (fun a => [.str a.s, .str a.t, .int .i64 (a.i : Nat)]) (fun _ => []) (fun a => a.H)
 (fun a k => cond (R (a.t.drop a.i)) (k .ret [.str a.s, .bool false, .str a.t] [] a.H) (k (.exit 0) [.str a.s, .undef, .str a.t] [] a.H))
noncomputable def styFH (R : Oc → Bool) : FH := .of [(3, loopSpec 45 [0,3,4] [] [0,2,3] [] (stySp R))]
theorem sty_step (R : Oc → Bool) (A : Oc → Int → Bool) (L : Oc → Oc) (F : Oc → Oc → Int) (s t : Oc) (i : Int) (H : Heap) (D : Dfs) (k : Kont) : lturn Tryz.prog (layQs A L F) (styFH R) 19 3 [0,3,4] [] [0,2,3] [] (stL 45 [0,3,4] [.str s, .str t, .int .i64 i] [] [] H D) k = (
 let c0 : Bool := decide (i < (↑t.length : Int));
 let c1 : Bool := decide (0 ≤ i) && c0;
 let n2 : Int := (↑(t.getD i.toNat 0).toNat : Int);
 let c3 : Bool := !rLtr n2;
 let c4 : Bool := bif c3 then !rDgt n2 else false;
  bif c0 then bif c1 then bif c1 || !c3 then bif c1 || !c4 then bif bif c4 then !A [32, 46, 44, 37, 35, 43, 45] n2 else false then k AExit.ret (stL 45 [0, 2, 3] [AVal.str s, AVal.bool false, AVal.str t] [] [] H D) else k AExit.normal (stL 45 [0, 3, 4] [AVal.str s, AVal.str t, AVal.int .i64 (IntKind.i64.wrap (i + 1))] [] [] H D) else none else none else none else k (AExit.exit 0) (stL 45 [0, 2, 3] [AVal.str s, AVal.undef, AVal.str t] [] [] H D)) := by kernel_rfl
noncomputable def layQt (A : Oc → Int → Bool) (L : Oc → Oc) (F : Oc → Oc → Int) (R : Oc → Bool) : Lay := (layQs A L F).addL 19 (styFH R)
theorem sty_fun (A : Oc → Int → Bool) (L : Oc → Oc) (F : Oc → Oc → Int) (R : Oc → Bool) (s : Oc) (k : Out → Ans) : iFun Tryz.prog ((layQt A L F R).hd Tryz.prog) (layQt A L F R).fhs 0 19 [.str s] [] k = (
 bif decide (s.length ≤ 1099511627776) then bif tst ((Int.toNat 0 ≤ (L s).length ∧ (L s).length ≤ 1099511627776) ∧ SubTL [AVal.str s, AVal.str (L s), AVal.int .i64 0] [AVal.str s, AVal.str (L s), AVal.int .i64 (↑(Int.toNat 0) : Int)] ∧ ([] : List (List AVal)) = [] ∧ ([] : Heap) = []) then bif R (List.drop (Int.toNat 0) (L s)) then k (Out.ret (AVal.bool false) []) else bif decide ((L s).length ≤ 1099511627776 ∧ 1 ≤ 10 ∧ 10 ≤ 1099511627776) then bif decide ((L s).length ≤ 1099511627776 ∧ 1 ≤ 3 ∧ 3 ≤ 1099511627776) then k (Out.ret (AVal.bool (bif bif decide ((↑s.length : Int) ≤ 4096) then decide (F (L s) [101, 120, 112, 114, 101, 115, 115, 105, 111, 110] < 0) else false then decide (F (L s) [117, 114, 108] < 0) else false)) []) else none else none else none else none) := by kernel_rfl
end Go.Mu
namespace Go.Mu
open Go Go.Proofs
theorem any_runs {turn : St → Kont → Ans} {n : Nat} {L LX : List Nat} {vs : Nat → List AVal} {w0 w1 : List AVal} {H : Heap} {e : Nat} {l : Oc} {p : UInt8 → Bool}
 (h : ∀ (i : Nat) (D : Dfs) (k : Kont), i ≤ l.length → turn (stL n L (vs i) [] [] H D) k = bif decide (i < l.length) then (bif p (l.getD i 0) then k .ret (stL n LX w1 [] [] H D) else k .normal (stL n L (vs (i + 1)) [] [] H D)) else k (.exit e) (stL n LX w0 [] [] H D)) :
 ∀ (m i : Nat), l.length - i ≤ m → i ≤ l.length → ((l.drop i).any p = true → LoopRuns turn n L [] LX [] (vs i) [] H .ret w1 [] H) ∧ ((l.drop i).any p = false → LoopRuns turn n L [] LX [] (vs i) [] H (.exit e) w0 [] H)
 | 0, i, hm, hi => by
  have e0 : l.drop i = [] := List.drop_eq_nil_of_le (by omega)
  rw [e0]
  refine ⟨(fun h => by cases h), fun _ => .stop (by simp) (fun D k => ?_)⟩
  rw [h i D k hi, dF (by omega)]; rfl
 | m + 1, i, hm, hi => by
  by_cases hlt : i < l.length
  · have ed := drop_cons_of l i 0 hlt
    have ih := any_runs h m (i + 1) (by omega) (by omega)
    rw [ed, List.any_cons]
    cases hp : p (l.getD i 0) with
    | true => exact ⟨fun _ => .stop (by simp) (fun D k => by rw [h i D k hi, dT hlt, hp]; rfl), (fun h => by cases h)⟩
    | false =>
     rw [Bool.false_or]
     have st : ∀ D k, turn (stL n L (vs i) [] [] H D) k = k .normal (stL n L (vs (i + 1)) [] [] H D) := fun D k => by rw [h i D k hi, dT hlt, hp]; rfl
     exact ⟨fun g => .step st (ih.1 g), fun g => .step st (ih.2 g)⟩
  · have e0 : l.drop i = [] := List.drop_eq_nil_of_le (by omega)
    rw [e0]
    refine ⟨(fun h => by cases h), fun _ => .stop (by simp) (fun D k => ?_)⟩
    rw [h i D k hi, dF hlt]; rfl
theorem lowC_up (c : UInt8) : (65 ≤ c.toNat ∧ c.toNat ≤ 90 → IntKind.u8.wrap (IntKind.u8.wrap ((c.toNat : Int) - 65) + 97) = ((lowC c).toNat : Int)) ∧ (¬ (65 ≤ c.toNat ∧ c.toNat ≤ 90) → lowC c = c) :=
 oct256 (p := fun c => (65 ≤ c.toNat ∧ c.toNat ≤ 90 → IntKind.u8.wrap (IntKind.u8.wrap ((c.toNat : Int) - 65) + 97) = ((lowC c).toNat : Int)) ∧ (¬ (65 ≤ c.toNat ∧ c.toNat ≤ 90) → lowC c = c)) (by decide +kernel) c
theorem low_pick {α : Type} (c : UInt8) (F : Int → α) : (bif (bif decide ((c.toNat : Int) ≥ 65) then decide ((c.toNat : Int) ≤ 90) else false) then F (IntKind.u8.wrap (IntKind.u8.wrap ((c.toNat : Int) - 65) + 97)) else F (c.toNat : Int)) = F ((lowC c).toNat : Int) := by
 obtain ⟨h1, h2⟩ := lowC_up c
 by_cases h : 65 ≤ c.toNat ∧ c.toNat ≤ 90
 · rw [dT (show (c.toNat : Int) ≥ 65 by omega), dT (show (c.toNat : Int) ≤ 90 by omega), cond_true, cond_true, h1 h]
 · rw [h2 h]
   by_cases h3 : 65 ≤ c.toNat
   · rw [dT (show (c.toNat : Int) ≥ 65 by omega), dF (show ¬ (c.toNat : Int) ≤ 90 by omega)]; rfl
   · rw [dF (show ¬ (c.toNat : Int) ≥ 65 by omega)]; rfl
def lowR : LoQ := fun s => (lowM s).map byteRow
noncomputable abbrev loqTurn := lturn Tryz.prog Lay.nil (loqFH lowR) 44 3 [0,3,4] [] [3] []
theorem map_row (l : Oc) (c : UInt8) : (l.map byteRow).append [[AVal.int .u8 (c.toNat : Int)]] = (l ++ [c]).map byteRow := by
 show l.map byteRow ++ [byteRow c] = _
 rw [List.map_append]; rfl
theorem loq_own (s : Oc) (hs : s.length ≤ 1099511627776) : ∀ (m i : Nat) (l : Oc) (v : Nat), s.length - i ≤ m → i ≤ s.length → l.length ≤ i →
 LoopRuns loqTurn 30 [0,3,4] [] [3] [] [.str s, .own 0 0 l.length v false, .int .i64 (i : Nat)] [] [.arr 1 (l.map byteRow) v] (.exit 0) [.own 0 0 (l ++ lowM (s.drop i)).length (v + (s.length - i)) false] [] [.arr 1 ((l ++ lowM (s.drop i)).map byteRow) (v + (s.length - i))] := by
 intro m
 induction m with
 | zero =>
  intro i l v hm hi hl
  have e : s.drop i = [] := List.drop_eq_nil_of_le (by omega)
  rw [e, show s.length - i = 0 by omega]
  show LoopRuns _ _ _ _ _ _ _ _ _ _ [.own 0 0 (l ++ []).length v false] _ [.arr 1 ((l ++ []).map byteRow) v]
  rw [List.append_nil]
  refine .stop (by simp) (fun D k => (loq_s1 lowR s i l.length v (l.map byteRow) D k).trans ?_)
  simp only [dF (show ¬ (i : Int) < s.length by omega), cond_false]
 | succ m ih =>
  intro i l v hm hi hl
  by_cases hlt : i < s.length
  · have ed := drop_cons_of s i 0 hlt
    have key := fun D k => loq_s1 lowR s i l.length v (l.map byteRow) D k
    have e1 : IntKind.i64.wrap ((i : Int) + 1) = ((i + 1 : Nat) : Int) := wrap_add1 (by omega)
    have hq : (l.length == (l.map byteRow).length) = true := by simp
    simp only [dT (show (i : Int) < s.length by omega), dT (show (0 : Int) ≤ i by omega), e1, hq, beq_self_eq_true, dT (show (2 * (l.length + 1) + 1000) * 1 ≤ 281474976710656 by omega), Bool.and_self, cond_true, Int.toNat_natCast] at key
    have key2 : ∀ D k, loqTurn (stL 30 [0,3,4] [.str s, .own 0 0 l.length v false, .int .i64 (i : Nat)] [] [] [.arr 1 (l.map byteRow) v] D) k = k .normal (stL 30 [0,3,4] [.str s, .own 0 0 (l ++ [lowC (s.getD i 0)]).length (v + 1) false, .int .i64 ((i + 1 : Nat) : Int)] [] [] [.arr 1 ((l ++ [lowC (s.getD i 0)]).map byteRow) (v + 1)] D) := fun D k => by
     refine (key D k).trans ((low_pick (s.getD i 0) (fun x => k .normal (stL 30 [0,3,4] [.str s, .own 0 0 (l.length + 1) (v + 1) false, .int .i64 ((i + 1 : Nat) : Int)] [] [] [.arr 1 ((l.map byteRow).append [[AVal.int .u8 x]]) (v + 1)] D))).trans ?_)
     rw [map_row, List.length_append]; rfl
    have ih2 := ih (i + 1) (l ++ [lowC (s.getD i 0)]) (v + 1) (by omega) (by omega) (by rw [List.length_append]; show _ + 1 ≤ _; omega)
    have e3 : l ++ lowM (s.drop i) = l ++ [lowC (s.getD i 0)] ++ lowM (s.drop (i + 1)) := by
     rw [ed, List.append_assoc]; rfl
    rw [e3, show v + (s.length - i) = v + 1 + (s.length - (i + 1)) by omega]
    exact .step key2 ih2
  · have e : s.drop i = [] := List.drop_eq_nil_of_le (by omega)
    rw [e, show s.length - i = 0 by omega]
    show LoopRuns _ _ _ _ _ _ _ _ _ _ [.own 0 0 (l ++ []).length v false] _ [.arr 1 ((l ++ []).map byteRow) v]
    rw [List.append_nil]
    refine .stop (by simp) (fun D k => (loq_s1 lowR s i l.length v (l.map byteRow) D k).trans ?_)
    simp only [dF (show ¬ (i : Int) < s.length by omega), cond_false]
theorem loqSp_ok : SpOK loqTurn 30 [0,3,4] [] [3] [] (loqSp lowR) := mkL_ok fun a h => by
 obtain ⟨s, i⟩ := a
 obtain ⟨h1, h2⟩ := h
 simp only at h1 h2
 subst h1
 show ∃ e vs bs H', (∀ k : AExit → List AVal → List (List AVal) → Heap → Ans, cond (s == []) _ _ = k e vs bs H') ∧ _
 cases s with
 | nil => exact ⟨_, _, _, _, fun k => rfl, .stop (by simp) (fun D k => (loq_s0 lowR [] 0 D k).trans rfl)⟩
 | cons c t =>
  rw [List.length_cons] at h2
  refine ⟨_, _, _, _, fun k => rfl, ?_⟩
  have key2 : ∀ D k, loqTurn (stL 30 [0,3,4] [.str (c :: t), nilList, .int .i64 ((0 : Nat) : Int)] [] [] [] D) k = k .normal (stL 30 [0,3,4] [.str (c :: t), .own 0 0 [lowC c].length 0 false, .int .i64 ((1 : Nat) : Int)] [] [] [.arr 1 ([lowC c].map byteRow) 0] D) := fun D k => by
   refine (loq_s0 lowR (c :: t) 0 D k).trans ?_
   have e0 : decide ((0 : Int) < ((c :: t).length : Int)) = true := dT (by rw [List.length_cons]; omega)
   simp only [e0, dT (show (0 : Int) ≤ 0 by omega), Bool.and_self, cond_true]
   exact (low_pick c (fun x => k .normal (stL 30 [0,3,4] [.str (c :: t), .own 0 0 1 0 false, .int .i64 1] [] [] [.arr 1 [[AVal.int .u8 x]] 0] D))).trans rfl
  have ih := loq_own (c :: t) (by rw [List.length_cons]; omega) t.length 1 [lowC c] 0 (by simp) (by simp) (by simp)
  have e3 : [lowC c] ++ lowM ((c :: t).drop 1) = lowM (c :: t) := rfl
  have e4 : (lowM (c :: t)).length = (c :: t).length := List.length_map _
  have e5 : 0 + ((c :: t).length - 1) = (c :: t).length - 1 := Nat.zero_add _
  rw [e3, e4, e5] at ih
  exact .step key2 ih
theorem layLo_ok : (layLo lowR).OK Tryz.prog := Lay.nil_ok.loop1 (id := 3) (by kernel_rfl) (by kernel_rfl) (by kernel_rfl) loqSp_ok
theorem bytes_str (l : Oc) : ((List.take l.length (List.drop 0 (l.map byteRow))).all fun (r : List AVal) => match r with | [v] => isInt IntKind.u8 v | x => false) = true ∧ (List.take l.length (List.drop 0 (l.map byteRow))).map (fun (r : List AVal) => UInt8.ofNat (intOf (r.getD 0 AVal.undef)).toNat) = l := by
 have e : List.take l.length (List.drop 0 (l.map byteRow)) = l.map byteRow := by rw [List.drop_zero]; exact List.take_of_length_le (by simp)
 rw [e]
 exact ⟨by_all l, by_back l⟩
theorem rlowTold_ok : ∀ xs H k out, lowTold xs H k = some out → ∃ o, CallOK Tryz.prog 44 xs H o ∧ k o = some out := mkFS_ok fun ys xs e h => by
 obtain ⟨s, rfl⟩ : ∃ s, xs = [.str s] := ⟨_, e⟩
 have h2 : s.length ≤ 1099511627776 := of_decide_eq_true h
 by_cases h0 : s = []
 · subst h0
   refine ⟨_, fun k => rfl, layLo_ok.callF (G := []) rfl (fun k => (loq_fun lowR [] k).trans ?_)⟩
   exact (congrArg (fun c => cond c _ none) (tst_true ⟨⟨rfl, Nat.zero_le _⟩, .refl _, rfl, rfl⟩)).trans rfl
 · refine ⟨_, fun k => rfl, layLo_ok.callF (G := [.arr 1 (lowR s) (s.length - 1)]) rfl (fun k => (loq_fun lowR s k).trans ?_)⟩
   refine cT (tst_true ⟨⟨rfl, h2⟩, .refl _, rfl, rfl⟩) ?_
   have hb : (s == []) = false := by simpa using h0
   rw [hb, cond_false]
   obtain ⟨g1, g2⟩ := bytes_str (lowM s)
   have hl : (lowM s).length = s.length := List.length_map _
   rw [hl] at g1 g2
   have hc : ((s.length - 1 == s.length - 1) && true && decide (0 + s.length ≤ (lowR s).length) && (List.take s.length (List.drop 0 ((lowM s).map byteRow))).all fun (r : List AVal) => match r with | [v] => isInt IntKind.u8 v | x => false) = true := by
    rw [g1, beq_self_eq_true, dT (show 0 + s.length ≤ (lowR s).length by unfold lowR; rw [List.length_map, hl]; omega)]
    rfl
   refine cT hc ?_
   exact congrArg (fun t => k (Out.ret (AVal.str t) [.arr 1 (lowR s) (s.length - 1)])) g2
end Go.Mu
namespace Go.Mu
open Go Go.Proofs
def scF (s : Oc) : Nat → Oc → Bool × Oc × Bool
 | _, [] => (false, [], false)
 | i, c :: l => bif c == 58 then (true, lowM (s.take i), true) else bif c == 47 || c == 63 || c == 35 then (true, [], false) else scF s (i + 1) l
def scQ : ScQ := fun s i => scF s i (s.drop i)
noncomputable abbrev scqTurn := lturn Tryz.prog (layQ9 lowM) (scqFH scQ) 16 2 [0,4] [] [2,3] []
theorem scq_runs (s : Oc) (hs : s.length ≤ 1099511627776) (H : Heap) : ∀ (m i : Nat), s.length - i ≤ m → i ≤ s.length →
 ((scQ s i).1 = true → LoopRuns scqTurn 24 [0,4] [] [2,3] [] [.str s, .int .i64 (i : Nat)] [] H .ret [.str (scQ s i).2.1, .bool (scQ s i).2.2] [] H) ∧
 ((scQ s i).1 = false → LoopRuns scqTurn 24 [0,4] [] [2,3] [] [.str s, .int .i64 (i : Nat)] [] H (.exit 0) [.undef, .undef] [] H) := by
 intro m
 induction m with
 | zero =>
  intro i hm hi
  have e : scQ s i = (false, [], false) := by unfold scQ; rw [List.drop_eq_nil_of_le (by omega)]; rfl
  rw [e]
  refine ⟨(fun h => by cases h), fun _ => .stop (by simp) (fun D k => (scq_step scQ lowM s i H D k).trans ?_)⟩
  simp only [dF (show ¬ (i : Int) < s.length by omega), cond_false]
 | succ m ih =>
  intro i hm hi
  by_cases hlt : i < s.length
  · have ed := drop_cons_of s i 0 hlt
    have key := fun D k => scq_step scQ lowM s i H D k
    have e1 : IntKind.i64.wrap ((i : Int) + 1) = ((i + 1 : Nat) : Int) := wrap_add1 (by omega)
    have et : List.drop (Int.toNat 0) (List.take i s) = s.take i := rfl
    have hl : (s.take i).length ≤ 1099511627776 := by rw [List.length_take]; omega
    simp only [dT (show (i : Int) < s.length by omega), dT (show (0 : Int) ≤ i by omega), dT (show (i : Int) ≤ s.length by omega), e1, Int.toNat_natCast, et, dT hl, Bool.and_self, cond_true, eqc (show 58 < 256 by decide), eqc (show 47 < 256 by decide), eqc (show 63 < 256 by decide), eqc (show 35 < 256 by decide)] at key
    have eQ : scQ s i = bif s.getD i 0 == 58 then (true, lowM (s.take i), true) else bif s.getD i 0 == 47 || s.getD i 0 == 63 || s.getD i 0 == 35 then (true, [], false) else scQ s (i + 1) := by unfold scQ; rw [ed]; rfl
    rw [eQ]
    have ih2 := ih (i + 1) (by omega) (by omega)
    cases h58 : s.getD i 0 == 58 with
    | true =>
     simp only [h58, cond_true] at key ⊢
     exact ⟨fun _ => .stop (by simp) key, (fun h => by cases h)⟩
    | false =>
    cases h47 : s.getD i 0 == 47 with
    | true =>
     simp only [h58, h47, cond_true, cond_false, Bool.true_or] at key ⊢
     exact ⟨fun _ => .stop (by simp) key, (fun h => by cases h)⟩
    | false =>
    cases h63 : s.getD i 0 == 63 with
    | true =>
     simp only [h58, h47, h63, cond_true, cond_false, Bool.or_true, Bool.true_or] at key ⊢
     exact ⟨fun _ => .stop (by simp) key, (fun h => by cases h)⟩
    | false =>
    cases h35 : s.getD i 0 == 35 with
    | true =>
     simp only [h58, h47, h63, h35, cond_true, cond_false, Bool.or_true, Bool.true_or] at key ⊢
     exact ⟨fun _ => .stop (by simp) key, (fun h => by cases h)⟩
    | false =>
     simp only [h58, h47, h63, h35, cond_true, cond_false, Bool.or_self] at key ⊢
     exact ⟨fun h => .step key (ih2.1 h), fun h => .step key (ih2.2 h)⟩
  · have e : scQ s i = (false, [], false) := by unfold scQ; rw [List.drop_eq_nil_of_le (by omega)]; rfl
    rw [e]
    refine ⟨(fun h => by cases h), fun _ => .stop (by simp) (fun D k => (scq_step scQ lowM s i H D k).trans ?_)⟩
    simp only [dF (show ¬ (i : Int) < s.length by omega), cond_false]
theorem scqSp_ok : SpOK scqTurn 24 [0,4] [] [2,3] [] (scqSp scQ) := mkL_ok fun a h => by
 have key := scq_runs a.s h.2 a.H _ a.i (Nat.le_refl _) h.1
 show ∃ e vs bs H', (∀ k : AExit → List AVal → List (List AVal) → Heap → Ans, cond (scQ a.s a.i).1 _ _ = k e vs bs H') ∧ _
 cases hb : (scQ a.s a.i).1 with
 | true => exact ⟨_, _, _, _, fun k => rfl, key.1 hb⟩
 | false => exact ⟨_, _, _, _, fun k => rfl, key.2 hb⟩
theorem layQ9_ok : (layQ9 lowM).OK Tryz.prog := Lay.nil_ok.addF rlowTold_ok
theorem layQa_ok : (layQa lowM scQ).OK Tryz.prog := layQ9_ok.loop1 (id := 2) (by kernel_rfl) (by kernel_rfl) (by kernel_rfl) scqSp_ok
theorem scP_eq (c : UInt8) : scP c = (c == 47 || c == 63 || c == 35) := oct256 (p := fun c => scP c = (c == 47 || c == 63 || c == 35)) (by decide +kernel) c
theorem scF_eq (s : Oc) : ∀ (l p : Oc), s = p ++ l → p.any (fun c => c == 58 || scP c) = false → (bif (scF s p.length l).1 then ((scF s p.length l).2.1, (scF s p.length l).2.2) else ([], false)) = schemeM s
 | [], p, hs, hp => by
  have hn : ibM s 58 < 0 := by
   have h1 := ib_any s 58
   have h2 : s.any (fun d => d == 58) = false := by
    rw [hs, List.append_nil]
    rw [List.any_eq_false] at hp ⊢
    intro c hc
    have := hp c hc
    simp only [Bool.or_eq_true, not_or] at this
    exact this.1
   rw [h2] at h1
   have := of_decide_eq_false h1
   show Lib.indexByte s 58 < 0
   omega
  unfold schemeM
  rw [dT hn]; rfl
 | c :: l, p, hs, hp => by
  rw [scF]
  have hlen : s.take p.length = p := by rw [hs]; exact List.take_left
  cases h58 : c == 58 with
  | true =>
   have hc : c = 58 := by simpa using h58
   subst hc
   have hib : ibM s 58 = (p.length : Nat) := by
    show Lib.indexByte s 58 = _
    rcases ib_split s 58 with ⟨h1, h2⟩ | ⟨p', q, h1, h2, h3⟩
    · exact absurd (by rw [hs]; simp) h2
    · rw [h3]
      have hp58 : (58 : UInt8) ∉ p := fun hm => by
       rw [List.any_eq_false] at hp
       have := hp 58 hm
       simp at this
      have : p'.length = p.length := by
       rcases Nat.lt_trichotomy p'.length p.length with hh | hh | hh
       · exfalso
         apply hp58
         have e1 : s[p'.length]? = some 58 := by rw [h1]; simp
         rw [hs, List.getElem?_append_left hh] at e1
         exact List.mem_of_getElem? e1
       · exact hh
       · exfalso
         apply h2
         have e1 : s[p.length]? = some 58 := by rw [hs]; simp
         rw [h1, List.getElem?_append_left hh] at e1
         exact List.mem_of_getElem? e1
      omega
   unfold schemeM
   rw [hib, dF (show ¬ ((p.length : Nat) : Int) < 0 by omega), Int.toNat_natCast, hlen, Bool.false_or]
   have hsp : p.any scP = false := by
    rw [List.any_eq_false] at hp ⊢
    intro d hd
    have := hp d hd
    simp only [Bool.or_eq_true, not_or] at this
    exact this.2
   rw [hsp]; rfl
  | false =>
   rw [cond_false]
   cases h3 : c == 47 || c == 63 || c == 35 with
   | true =>
    have hsc : scP c = true := by rw [scP_eq, h3]
    show ([], false) = schemeM s
    unfold schemeM
    by_cases hn : ibM s 58 < 0
    · rw [dT hn]; rfl
    · rw [dF hn, Bool.false_or]
      have hmem : (s.take (ibM s 58).toNat).any scP = true := by
       rcases ib_split s 58 with ⟨h1, h2⟩ | ⟨p', q, h1, h2, h4⟩
       · exfalso
         have : ibM s 58 = -1 := h1
         omega
       · have hib : ibM s 58 = (p'.length : Nat) := h4
         rw [hib, Int.toNat_natCast]
         have hlt : p.length < p'.length := by
          rcases Nat.lt_or_ge p.length p'.length with hh | hh
          · exact hh
          · exfalso
            have e1 : s[p'.length]? = some 58 := by rw [h1]; simp
            rcases Nat.lt_or_ge p'.length p.length with hg | hg
            · rw [hs, List.getElem?_append_left hg] at e1
              rw [List.any_eq_false] at hp
              have := hp 58 (List.mem_of_getElem? e1)
              simp at this
            · have : p'.length = p.length := by omega
              rw [this, hs] at e1
              simp at e1
              rw [e1] at h58; cases h58
         have hm : c ∈ s.take p'.length := by
          have e1 : (s.take p'.length)[p.length]? = some c := by
           rw [List.getElem?_take_of_lt hlt, hs]; simp
          exact List.mem_of_getElem? e1
         exact List.any_eq_true.2 ⟨c, hm, hsc⟩
      rw [hmem]; rfl
   | false =>
    rw [cond_false]
    have := scF_eq s l (p ++ [c]) (by rw [hs]; simp) (by rw [List.any_append, hp]; simp [h58, scP_eq, h3])
    rw [List.length_append] at this
    exact this
theorem rschTold_ok : ∀ xs H k out, schTold xs H k = some out → ∃ o, CallOK Tryz.prog 16 xs H o ∧ k o = some out := mkFS_ok fun ys xs e h => by
 obtain ⟨s, rfl⟩ : ∃ s, xs = [.str s] := ⟨_, e⟩
 have h2 : s.length ≤ 1099511627776 := of_decide_eq_true h
 refine ⟨_, fun k => rfl, layQa_ok.callF (G := []) rfl (fun k => (scq_fun lowM scQ s k).trans ?_)⟩
 refine cT (tst_true ⟨⟨Nat.zero_le _, h2⟩, .refl _, rfl, rfl⟩) ?_
 have e2 : schemeM s = bif (scQ s 0).1 then ((scQ s 0).2.1, (scQ s 0).2.2) else ([], false) := (scF_eq s s [] rfl rfl).symm
 show (bif (scQ s 0).1 then k (Out.ret (AVal.tuple [AVal.str (scQ s 0).2.1, AVal.bool (scQ s 0).2.2]) []) else _) = k (.ret (.tuple [.str (schemeM s).1, .bool (schemeM s).2]) [])
 rw [e2]
 cases (scQ s 0).1 <;> rfl
def fiF (p : Oc) : Oc → Nat → Option Nat
 | [], i => bif p.isEmpty then some i else none
 | c :: l, i => bif p.isPrefixOf (c :: l) then some i else fiF p l (i + 1)
def fiQ : Oc → Oc → Nat → Option Nat := fun s p i => fiF p (s.drop i) i
theorem fiF_short (p : Oc) : ∀ (l : Oc) (i : Nat), l.length < p.length → fiF p l i = none
 | [], i, h => by
  cases p with
  | nil => simp at h
  | cons c p => rfl
 | c :: l, i, h => by
  have hp : p.isPrefixOf (c :: l) = false := by
   rw [begin_take, dF (by omega)]; rfl
  rw [fiF, hp, cond_false]
  exact fiF_short p l (i + 1) (by rw [List.length_cons] at h; omega)
noncomputable abbrev finTurn := lturn Tryz.prog Lay.nil (finFH fiQ) 47 2 [0,1,5] [] [4] []
theorem fin_runs (s p : Oc) (hs : s.length ≤ 1099511627776) (hp : 1 ≤ p.length) (hp2 : p.length ≤ 1099511627776) (H : Heap) : ∀ (m i : Nat), s.length - i ≤ m → i ≤ s.length →
 ((fiQ s p i).isSome = true → LoopRuns finTurn 25 [0,1,5] [] [4] [] [.str s, .str p, .int .i64 (i : Nat)] [] H .ret [.int .i64 ((fiQ s p i).getD 0 : Nat)] [] H) ∧
 ((fiQ s p i).isSome = false → LoopRuns finTurn 25 [0,1,5] [] [4] [] [.str s, .str p, .int .i64 (i : Nat)] [] H (.exit 0) [.undef] [] H) := by
 have out : ∀ i, i ≤ s.length → ¬ i + p.length ≤ s.length → ((fiQ s p i).isSome = true → LoopRuns finTurn 25 [0,1,5] [] [4] [] [.str s, .str p, .int .i64 (i : Nat)] [] H .ret [.int .i64 ((fiQ s p i).getD 0 : Nat)] [] H) ∧
  ((fiQ s p i).isSome = false → LoopRuns finTurn 25 [0,1,5] [] [4] [] [.str s, .str p, .int .i64 (i : Nat)] [] H (.exit 0) [.undef] [] H) := fun i hi hn => by
  have e : fiQ s p i = none := fiF_short p _ i (by rw [List.length_drop]; omega)
  have e1 : IntKind.i64.wrap ((i : Int) + (p.length : Int)) = ((i + p.length : Nat) : Int) := by rw [wrap_of (by omega) (by omega)]; omega
  rw [e]
  refine ⟨(fun h => by cases h), fun _ => .stop (by simp) (fun D k => (fin_step fiQ s p i H D k).trans ?_)⟩
  simp only [e1, dF (show ¬ ((i + p.length : Nat) : Int) ≤ s.length by omega), cond_false]
 intro m
 induction m with
 | zero => intro i hm hi; exact out i hi (by omega)
 | succ m ih =>
  intro i hm hi
  by_cases hn : i + p.length ≤ s.length
  case neg => exact out i hi hn
  have e1 : IntKind.i64.wrap ((i : Int) + (p.length : Int)) = ((i + p.length : Nat) : Int) := by rw [wrap_of (by omega) (by omega)]; omega
  have e2 : IntKind.i64.wrap ((i : Int) + 1) = ((i + 1 : Nat) : Int) := wrap_add1 (by omega)
  have ed := drop_cons_of s i 0 (by omega)
  have hl : (s.drop i).length = s.length - i := List.length_drop
  have ep : (List.drop i (List.take (i + p.length) s) == p) = p.isPrefixOf (s.drop i) := by
   rw [begin_take, dT (show (p.length : Int) ≤ ((s.drop i).length : Int) by omega), cond_true, List.drop_take, Nat.add_sub_cancel_left]
  have key := fun D k => fin_step fiQ s p i H D k
  simp only [e1, e2, Int.toNat_natCast, ep, dT (show ((i + p.length : Nat) : Int) ≤ s.length by omega), dT (show (0 : Int) ≤ i by omega), dT (show (i : Int) ≤ ((i + p.length : Nat) : Int) by omega), Bool.and_self, cond_true] at key
  have eQ : fiQ s p i = bif p.isPrefixOf (s.drop i) then some i else fiQ s p (i + 1) := by unfold fiQ; rw [ed]; rfl
  rw [eQ]
  have ih2 := ih (i + 1) (by omega) (by omega)
  cases hc : p.isPrefixOf (s.drop i) with
  | true =>
   simp only [hc, cond_true] at key ⊢
   exact ⟨fun _ => .stop (by simp) key, (fun h => by cases h)⟩
  | false =>
   simp only [hc, cond_false] at key ⊢
   exact ⟨fun h => .step key (ih2.1 h), fun h => .step key (ih2.2 h)⟩
theorem finSp_ok : SpOK finTurn 25 [0,1,5] [] [4] [] (finSp fiQ) := mkL_ok fun a h => by
 have key := fin_runs a.s a.p h.2.1 h.2.2.1 h.2.2.2 a.H _ a.i (Nat.le_refl _) h.1
 show ∃ e vs bs H', (∀ k : AExit → List AVal → List (List AVal) → Heap → Ans, cond (fiQ a.s a.p a.i).isSome _ _ = k e vs bs H') ∧ _
 cases hb : (fiQ a.s a.p a.i).isSome with
 | true => exact ⟨_, _, _, _, fun k => rfl, key.1 hb⟩
 | false => exact ⟨_, _, _, _, fun k => rfl, key.2 hb⟩
theorem layQf_ok : (layQf fiQ).OK Tryz.prog := Lay.nil_ok.loop1 (id := 2) (by kernel_rfl) (by kernel_rfl) (by kernel_rfl) finSp_ok
def findQ (s p : Oc) : Int := bif (fiQ s p 0).isSome then ((fiQ s p 0).getD 0 : Nat) else -1
theorem findTold_ok : ∀ xs H k out, findTold findQ xs H k = some out → ∃ o, CallOK Tryz.prog 47 xs H o ∧ k o = some out := mkFS_ok fun ys xs e h => by
 obtain ⟨s, p, rfl⟩ : ∃ s p, xs = [.str s, .str p] := ⟨_, _, e⟩
 have h2 : s.length ≤ 1099511627776 ∧ 1 ≤ p.length ∧ p.length ≤ 1099511627776 := of_decide_eq_true h
 refine ⟨_, fun k => rfl, layQf_ok.callF (G := []) rfl (fun k => (fin_fun fiQ s p k).trans ?_)⟩
 refine cT (tst_true ⟨⟨Nat.zero_le _, h2⟩, .refl _, rfl, rfl⟩) ?_
 show (bif (fiQ s p 0).isSome then k (Out.ret (AVal.int .i64 ((fiQ s p 0).getD 0 : Nat)) []) else _) = k (.ret (.int .i64 (findQ s p)) [])
 unfold findQ
 cases (fiQ s p 0).isSome <;> rfl
theorem fiF_index (p : Oc) : ∀ (l : Oc) (i : Nat), (fiF p l i).isSome = decide (Lib.index l p ≥ 0)
 | [], i => by
  rw [fiF, Lib.index]
  cases p.isEmpty <;> rfl
 | c :: l, i => by
  have ih := fiF_index p l (i + 1)
  have hge := Lib.index_ge l p
  rw [fiF, Lib.index]
  cases p.isPrefixOf (c :: l) with
  | true => rfl
  | false =>
   rw [cond_false, ih, if_neg (by decide)]
   by_cases h1 : Lib.index l p = -1
   · rw [h1]; rfl
   · have h2 : (Lib.index l p == -1) = false := by simpa using h1
     rw [h2, if_neg (by decide)]
     exact decide_eq_decide.2 (by omega)
theorem findQ_index (s p : Oc) : decide (findQ s p < 0) = !decide (Lib.index s p ≥ 0) := by
 have h : (fiQ s p 0).isSome = decide (Lib.index s p ≥ 0) := fiF_index p s 0
 unfold findQ
 rw [← h]
 cases hb : (fiQ s p 0).isSome with
 | true => rw [cond_true, dF (by omega)]; rfl
 | false => rfl
def stP (c : UInt8) : Bool := bif bif !ltr c then !dig c else false then !anyI [32, 46, 44, 37, 35, 43, 45] (c.toNat : Int) else false
noncomputable abbrev layQs' : Lay := layQs anyI lowM findQ
theorem layQs_ok : layQs'.OK Tryz.prog := (layQ1_ok.addF rlowTold_ok).addF findTold_ok
noncomputable abbrev styTurn := lturn Tryz.prog layQs' (styFH (fun l => l.any stP)) 19 3 [0,3,4] [] [0,2,3] []
theorem stySp_ok : SpOK styTurn 45 [0,3,4] [] [0,2,3] [] (stySp (fun l => l.any stP)) := mkL_ok fun a h => by
 have key := any_runs (l := a.t) (p := stP) (vs := fun i => [.str a.s, .str a.t, .int .i64 (i : Nat)]) (w0 := [.str a.s, .undef, .str a.t]) (w1 := [.str a.s, .bool false, .str a.t]) (H := a.H) (e := 0) (turn := styTurn) (n := 45) (L := [0,3,4]) (LX := [0,2,3])
  (fun i D k hi => by
   have h2 := h.2
   refine (sty_step _ anyI lowM findQ a.s a.t i a.H D k).trans ?_
   by_cases hlt : i < a.t.length
   · simp only [dT hlt, dT (show (i : Int) < a.t.length by omega), dT (show (0 : Int) ≤ i by omega), Int.toNat_natCast, Bool.and_self, Bool.true_or, cond_true, wrap_add1 (show i < 4611686018427387904 by omega), rLtr_eq, rDgt_eq]
     rfl
   · simp only [dF hlt, dF (show ¬ (i : Int) < a.t.length by omega), cond_false]) _ a.i (Nat.le_refl _) h.1
 show ∃ e vs bs H', (∀ k : AExit → List AVal → List (List AVal) → Heap → Ans, cond ((a.t.drop a.i).any stP) _ _ = k e vs bs H') ∧ _
 cases hb : (a.t.drop a.i).any stP with
 | true => exact ⟨_, _, _, _, fun k => rfl, key.1 hb⟩
 | false => exact ⟨_, _, _, _, fun k => rfl, key.2 hb⟩
theorem layQt_ok : (layQt anyI lowM findQ (fun l => l.any stP)).OK Tryz.prog := layQs_ok.loop1 (id := 3) (by kernel_rfl) (by kernel_rfl) (by kernel_rfl) stySp_ok
theorem stP_eq (c : UInt8) : cpP c = stP c := oct256 (p := fun c => cpP c = stP c) (by decide +kernel) c
theorem styTold_ok : ∀ xs H k out, plaTold xs H k = some out → ∃ o, CallOK Tryz.prog 19 xs H o ∧ k o = some out := mkFS_ok fun ys xs e h => by
 obtain ⟨s, rfl⟩ : ∃ s, xs = [.str s] := ⟨_, e⟩
 have h2 : s.length ≤ 1099511627776 := of_decide_eq_true h
 have hl : (lowM s).length = s.length := List.length_map _
 refine ⟨_, fun k => rfl, layQt_ok.callF (G := []) rfl (fun k => (sty_fun anyI lowM findQ (fun l => l.any stP) s k).trans ?_)⟩
 rw [dT h2, cond_true]
 refine cT (tst_true ⟨⟨Nat.zero_le _, by rw [hl]; exact h2⟩, .refl _, rfl, rfl⟩) ?_
 have e2 : plainM s = (decide (s.length ≤ 4096) && (!decide (Lib.index (lowM s) [101, 120, 112, 114, 101, 115, 115, 105, 111, 110] ≥ 0) && !decide (Lib.index (lowM s) [117, 114, 108] ≥ 0) && !(lowM s).any stP)) := by unfold plainM; rw [show cpP = stP from funext stP_eq]
 show _ = k (.ret (.bool (plainM s)) [])
 rw [e2]
 have e0 : List.drop (Int.toNat 0) (lowM s) = lowM s := rfl
 have e4 : decide ((s.length : Int) ≤ 4096) = decide (s.length ≤ 4096) := decide_eq_decide.2 (by omega)
 simp only [e0, e4, findQ_index]
 cases (lowM s).any stP with
 | true => simp
 | false =>
  rw [cond_false, dT (show (lowM s).length ≤ 1099511627776 ∧ 1 ≤ 10 ∧ 10 ≤ 1099511627776 by omega), dT (show (lowM s).length ≤ 1099511627776 ∧ 1 ≤ 3 ∧ 3 ≤ 1099511627776 by omega)]
  simp only [cond_true, bif_and, Bool.not_false, Bool.and_true, Bool.and_assoc]
end Go.Mu
namespace Go.Mu
open Go Go.Proofs
theorem oneP_Q (s : Oc) (hs : s.length ≤ 1099511627776) : oneP s = oneQ s := (oneP_W s hs).trans (oneW_Q s)
end Go.Mu
namespace Go.Mu
open Go Go.Proofs
def cdTold (C : Oc → Bool) : FSp := mkFS [.s, .i .i64] (fun xs => decide (0 ≤ aI xs 1 ∧ aI xs 1 < (aS xs 0).length ∧ (aS xs 0).length ≤ 1099511627776)) (fun xs k => k (.ret (.bool (C ((aS xs 0).drop (aI xs 1).toNat))) []))
end Go.Mu
namespace Go.Mu
open Go Go.Proofs
def hexN (l : Oc) : Nat := numN true 0 l
theorem unh_yes {l : Oc} (h : l.all (dgt true) = true) (h1 : 1 ≤ l.length) (h7 : l.length ≤ 7) : unhexM l = ((hexN l : Int), 0) ∧ hexN l < 16 ^ l.length := by
 obtain ⟨g1, g2⟩ := uhM_num l 0 0 h (by decide) (by omega)
 have g1' : uhM 0 l = (true, ((hexN l : Nat) : Int)) := g1
 unfold unhexM
 have : (l == []) = false := by cases l with | nil => simp at h1 | cons c t => rfl
 rw [this, dF (show ¬ (l.length : Int) > 8 by omega), g1']
 rw [Nat.zero_add] at g2
 exact ⟨rfl, g2⟩
end Go.Mu
namespace Go.Mu
open Go Go.Proofs
def joLow (t : Oc) : Bool := decide (12 ≤ t.length) && ((t.drop 6).take 2 == [92, 117]) && ((unhexM ((t.drop 8).take 4)).2 == 0) && decide ((unhexM ((t.drop 8).take 4)).1 ≥ 56320) && decide ((unhexM ((t.drop 8).take 4)).1 ≤ 57343)
def joU (t : Oc) : Oc × Nat × Bool :=
 if t.length < 6 then (encX 0, 0, false) else
 if (unhexM ((t.drop 2).take 4)).2 ≠ 0 then (encX 0, 0, false) else
 if (55296 ≤ (unhexM ((t.drop 2).take 4)).1 ∧ (unhexM ((t.drop 2).take 4)).1 < 56320) ∧ joLow t = true then (encX (65536 + ((unhexM ((t.drop 2).take 4)).1 - 55296) * 1024 + (unhexM ((t.drop 8).take 4)).1 - 56320), 12, true) else
 if 55296 ≤ (unhexM ((t.drop 2).take 4)).1 ∧ (unhexM ((t.drop 2).take 4)).1 ≤ 57343 then (encX 65533, 6, true) else (encX (unhexM ((t.drop 2).take 4)).1, 6, true)
def joX (t : Oc) : Oc × Nat × Bool := if t.length < 4 then (encX 0, 4, false) else (encX (unhexM ((t.drop 2).take 2)).1, 4, (unhexM ((t.drop 2).take 2)).2 == 0)
def joS (t : Oc) : Oc × Nat × Bool :=
 if t.length < 2 then ([], 0, false) else if t.getD 1 0 = 117 then joU t else if t.getD 1 0 = 120 then joX t else
 if ibM [98, 116, 110, 118, 102, 114] ((t.getD 1 0).toNat : Int) ≥ 0 then ([byteOf [.int .u8 (IntKind.u8.wrap (IntKind.i64.wrap (8 + ibM [98, 116, 110, 118, 102, 114] ((t.getD 1 0).toNat : Int))))]], 2, true) else
 if (bif bif bif decide (((t.getD 1 0).toNat : Int) ≥ 48) then decide (((t.getD 1 0).toNat : Int) ≤ 57) else false then true else ((t.getD 1 0).toNat : Int) == 10 then true else ((t.getD 1 0).toNat : Int) == 13) = true then ([], 0, false) else ([t.getD 1 0], 2, true)
end Go.Mu
namespace Go.Mu
open Go Go.Proofs
def endC (c : UInt8) : Bool := bif bif bif c == 10 then true else c == 13 then true else c == 34 then true else c == 39
def jdF : Nat → Oc → List Oc × Bool × Nat
 | 0, _ => ([], true, 0)
 | m + 1, t => if t = [] then ([], true, 0) else
  if t.getD 0 0 = 92 then (if (joS t).2.2 = false then ([], false, 0) else ((joS t).1 :: (jdF m (t.drop (joS t).2.1)).1, (jdF m (t.drop (joS t).2.1)).2.1, (jdF m (t.drop (joS t).2.1)).2.2 + (joS t).2.1)) else
  if endC (t.getD 0 0) = true then ([], false, 0) else ([t.getD 0 0] :: (jdF m (t.drop 1)).1, (jdF m (t.drop 1)).2.1, (jdF m (t.drop 1)).2.2 + 1)
end Go.Mu
