/-
  Lemmas on the given program (part 5).
-/
import Derived.Test.YtlobblkhninckaaGreatDoorFL4
set_option linter.unusedVariables false
set_option linter.unusedSimpArgs false
set_option maxRecDepth 100000
set_option maxHeartbeats 2000000
namespace Go.Mu
open Go Go.Proofs
noncomputable def layY6 (R : Int → List UInt8 → Int) : Lay := layY5.addL 115 (vaFH R)
theorem va_fun (R : Int → List UInt8 → Int) (s : List UInt8) (b : Bool) (k : Out → Ans) : iFun Tryz.prog ((layY6 R).hd Tryz.prog) (layY6 R).fhs 0 115 [.str s, .bool b] [] k = (
 let l0 : List UInt8 := decL (fun (r : List AVal) => byteOf r) (AVal.list false s.length fun (i : Nat) => [AVal.int .u8 (↑(s.getD i 0).toNat : Int)]);
 let m1 : Nat := l0.length;
 let n2 : Int := (↑s.length : Int);
  bif b then k (Out.ret (AVal.int .i64 (unhexM s).fst) []) else bif tst ((Int.toNat 0 ≤ m1 ∧ m1 ≤ 1099511627776 ∧ n2 = (↑m1 : Int)) ∧ SubTL [AVal.int .i64 0, AVal.list false s.length fun (i : Nat) => [AVal.int .u8 (↑(s.getD i 0).toNat : Int)], AVal.int .i64 n2, AVal.int .i64 0] [AVal.int .i64 0, AVal.list false m1 fun (i : Nat) => [AVal.int .u8 (↑((decL (fun (r : List AVal) => byteOf r) (AVal.list false s.length fun (i : Nat) => [AVal.int .u8 (↑(s.getD i 0).toNat : Int)])).getD i 0).toNat : Int)], AVal.int .i64 n2, AVal.int .i64 (↑(Int.toNat 0) : Int)] ∧ ([] : List (List AVal)) = [] ∧ ([] : Heap) = []) then k (Out.ret (AVal.int .i64 (R 0 (List.drop (Int.toNat 0) l0))) []) else none) := by kernel_rfl
def Leaf (F : (Out → Ans) → Ans) : Prop := ∃ (t : List UInt8) (e : Int), t.length ≤ 4 ∧ ∀ k, F k = k (.ret (.tuple [.str t, .int .i64 e]) [])
theorem leaf_bif {b : Bool} {F G : (Out → Ans) → Ans} (h1 : Leaf F) (h2 : Leaf G) : Leaf (fun k => bif b then F k else G k) := by
 cases b
 · exact h2
 · exact h1
theorem leaf_k (t : List UInt8) (e : Int) (h : t.length ≤ 4) : Leaf (fun k => k (.ret (.tuple [.str t, .int .i64 e]) [])) := ⟨t, e, h, fun k => rfl⟩
theorem encode_leaf (n : Int) : Leaf (fun k => iFun Tryz.prog (Lay.nil.hd Tryz.prog) Lay.nil.fhs 0 116 [.int .i64 n] [] k) := by
 have e := funext (encode_fun n)
 rw [show (fun k => iFun Tryz.prog (Lay.nil.hd Tryz.prog) Lay.nil.fhs 0 116 [.int .i64 n] [] k) = _ from e]
 dsimp only
 repeat' (first | exact leaf_k _ _ (by simp) | refine leaf_bif ?_ ?_)
noncomputable def encS' (n : Int) : List UInt8 := Classical.choose (encode_leaf n)
noncomputable def encE (n : Int) : Int := Classical.choose (Classical.choose_spec (encode_leaf n))
theorem encS_len (n : Int) : (encS' n).length ≤ 4 := (Classical.choose_spec (Classical.choose_spec (encode_leaf n))).1
theorem encode_is (n : Int) (k : Out → Ans) : iFun Tryz.prog (Lay.nil.hd Tryz.prog) Lay.nil.fhs 0 116 [.int .i64 n] [] k = k (.ret (.tuple [.str (encS' n), .int .i64 (encE n)]) []) := (Classical.choose_spec (Classical.choose_spec (encode_leaf n))).2 k
noncomputable def encTold : FSp := mkFS [.i .i64] (fun _ => true) (fun xs k => k (.ret (.tuple [.str (encS' (aI xs 0)), .int .i64 (encE (aI xs 0))]) []))
theorem encTold_ok : ∀ xs H k out, encTold xs H k = some out → ∃ o, CallOK Tryz.prog 116 xs H o ∧ k o = some out := mkFS_ok fun ys xs e h => by
 obtain ⟨n, rfl⟩ : ∃ n, xs = [.int .i64 n] := ⟨_, e⟩
 exact ⟨_, fun k => rfl, Lay.nil_ok.callF (G := []) rfl (fun k => encode_is n k)⟩
def valA (s : List UInt8) (b : Bool) : Int := bif b then (unhexM s).1 else vaM 0 s
theorem layY6_ok : (layY6 vaM).OK Tryz.prog := layY5_ok.loop1 (id := 6) (by kernel_rfl) (by kernel_rfl) (by kernel_rfl) vaSp_ok
def valTold : FSp := mkFS [.s, .b] (fun xs => decide ((aS xs 0).length ≤ 1099511627776)) (fun xs k => k (.ret (.int .i64 (valA (aS xs 0) (aB xs 1))) []))
theorem valTold_ok : ∀ xs H k out, valTold xs H k = some out → ∃ o, CallOK Tryz.prog 115 xs H o ∧ k o = some out := mkFS_ok fun ys xs e h => by
 obtain ⟨s, b, rfl⟩ : ∃ s b, xs = [.str s, .bool b] := ⟨_, _, e⟩
 replace h : s.length ≤ 1099511627776 := of_decide_eq_true h
 refine ⟨_, fun k => rfl, layY6_ok.callF (G := []) rfl (fun k => (va_fun vaM s b k).trans ?_)⟩
 show _ = k (.ret (.int .i64 (valA s b)) [])
 unfold valA
 simp only [bytes_back]
 cases b with
 | true => rfl
 | false =>
  simp only [cond_false]
  refine (congrArg (fun c => cond c _ none) (tst_true ⟨⟨Nat.zero_le _, h, trivial⟩, .refl _, by trivial⟩)).trans ?_
  simp only [cond_true, Int.toNat_zero, List.drop_zero]
noncomputable def layY7 : Lay := (((Lay.nil.addF 103 ibTold).addF 114 numrTold).addF 115 valTold).addF 116 encTold
theorem layY7_ok : layY7.OK Tryz.prog := (((Lay.nil_ok.addF ibTold_ok).addF numrTold_ok).addF valTold_ok).addF encTold_ok
theorem rone_fun (s : List UInt8) (k : Out → Ans) (n0 : Int) (e_n0 : n0 = ((↑s.length : Int)))
 (c1 : Bool) (e_c1 : c1 = (s == []))
 (n2 : Int) (e_n2 : n2 = (if 16 < n0 then 16 else n0))
 (n3 : Int) (e_n3 : n3 = (ibM (List.drop (Int.toNat 0) (List.take n2.toNat s)) 59))
 (c4 : Bool) (e_c4 : c4 = (decide (1 ≤ n3) && decide (n3 ≤ n0)))
 (l5 : List UInt8) (e_l5 : l5 = (List.drop (Int.toNat 1) (List.take n3.toNat s)))
 (m6 : Nat) (e_m6 : m6 = (l5.length))
 (n7 : Int) (e_n7 : n7 = ((↑m6 : Int)))
 (c8 : Bool) (e_c8 : c8 = (decide (1 ≤ n7)))
 (c9 : Bool) (e_c9 : c9 = (decide (n7 ≥ 1)))
 (l10 : List UInt8) (e_l10 : l10 = (List.drop (Int.toNat 1) (List.take n7.toNat l5)))
 (m11 : Nat) (e_m11 : m11 = (l10.length))
 (n12 : Int) (e_n12 : n12 = ((↑m11 : Int)))
 (c13 : Bool) (e_c13 : c13 = (l10 == []))
 (c14 : Bool) (e_c14 : c14 = (!c13))
 (l15 : List UInt8) (e_l15 : l15 = (List.drop (Int.toNat 1) (List.take n12.toNat l10)))
 (c16 : Bool) (e_c16 : c16 = (decide (l15.length ≤ 1099511627776)))
 (n17 : Int) (e_n17 : n17 = (valA l15 true))
 (c18 : Bool) (e_c18 : c18 = (decide (m11 ≤ 1099511627776)))
 (n19 : Int) (e_n19 : n19 = (valA l10 false)) : iFun Tryz.prog (layY7.hd Tryz.prog) layY7.fhs 0 83 [.str s] [] k = (
 let z0 := Out.ret (AVal.tuple [AVal.str [], AVal.int .i64 0]) [];
 let z1 := Out.ret (AVal.tuple [AVal.str [239, 191, 189], AVal.int .i64 (IntKind.i64.wrap (n3 + 1))]) [];
  bif decide (0 < n0) || !!c1 then bif bif c1 then true else (↑(s.getD 0 0).toNat : Int) != 38 then k z0 else bif decide (0 ≤ n2) && decide (n2 ≤ n0) then bif decide (n3 < 0) then k z0 else bif c4 then bif l5 == [97, 109, 112] then k (Out.ret (AVal.tuple [AVal.str [38], AVal.int .i64 (IntKind.i64.wrap (n3 + 1))]) []) else bif l5 == [108, 116] then k (Out.ret (AVal.tuple [AVal.str [60], AVal.int .i64 (IntKind.i64.wrap (n3 + 1))]) []) else bif l5 == [103, 116] then k (Out.ret (AVal.tuple [AVal.str [62], AVal.int .i64 (IntKind.i64.wrap (n3 + 1))]) []) else bif l5 == [113, 117, 111, 116] then k (Out.ret (AVal.tuple [AVal.str [34], AVal.int .i64 (IntKind.i64.wrap (n3 + 1))]) []) else bif l5 == [97, 112, 111, 115] then k (Out.ret (AVal.tuple [AVal.str [39], AVal.int .i64 (IntKind.i64.wrap (n3 + 1))]) []) else bif c4 then bif c8 || !c9 then bif !bif c9 then List.drop (Int.toNat 0) (List.take (Int.toNat 1) l5) == [35] else false then bif decide (0 < n7) || true then bif decide (m6 ≤ 1099511627776) then k z0 else none else none else bif c8 && decide (n7 ≤ n7) then bif decide (0 < n12) || !c14 then bif bif c14 then IntKind.u8.wrap (↑(BitVec.ofInt 8 (↑(l10.getD 0 0).toNat : Int) ||| BitVec.ofInt 8 32).toNat : Int) == 120 else false then bif decide (1 ≤ n12) && decide (n12 ≤ n12) then bif c16 then bif bif l15 == [] then true else !numB l15 true then k z0 else bif c16 then bif bif encE n17 != 0 then true else n17 == 0 then k z1 else k (Out.ret (AVal.tuple [AVal.str (encS' n17), AVal.int .i64 (IntKind.i64.wrap (n3 + 1))]) []) else none else none else none else bif c18 then bif bif c13 then true else !numB l10 false then k z0 else bif c18 then bif bif encE n19 != 0 then true else n19 == 0 then k z1 else k (Out.ret (AVal.tuple [AVal.str (encS' n19), AVal.int .i64 (IntKind.i64.wrap (n3 + 1))]) []) else none else none else none else none else none else none else none else none else none) := by
  subst e_n0 e_c1 e_n2 e_n3 e_c4 e_l5 e_m6 e_n7 e_c8 e_c9 e_l10 e_m11 e_n12 e_c13 e_c14 e_l15 e_c16 e_n17 e_c18 e_n19
  kernel_rfl
end Go.Mu
namespace Go.Mu
open Go Go.Proofs
theorem ib_lt : ∀ (l : List UInt8) (c : UInt8), Lib.indexByte l c < l.length
 | [], c => by show (-1 : Int) < 0; decide
 | b :: l, c => by
  have := ib_lt l c
  rw [Lib.indexByte, List.length_cons]
  split
  · omega
  · split <;> omega
def OL (s : List UInt8) (F : (Out → Ans) → Ans) : Prop := ∃ (t : List UInt8) (n : Nat), t.length ≤ 4 ∧ (n = 0 → t = []) ∧ n ≤ s.length ∧ ∀ k, F k = k (.ret (.tuple [.str t, .int .i64 (n : Nat)]) [])
theorem ol_bif {s : List UInt8} {b : Bool} {F G : (Out → Ans) → Ans} (h1 : OL s F) (h2 : OL s G) : OL s (fun k => bif b then F k else G k) := by
 cases b
 · exact h2
 · exact h1
theorem ol_0 (s : List UInt8) : OL s (fun k => k (.ret (.tuple [.str [], .int .i64 0]) [])) := ⟨[], 0, by simp, fun _ => rfl, Nat.zero_le _, fun k => rfl⟩
theorem ol_k {s : List UInt8} (t : List UInt8) (n : Nat) (h : t.length ≤ 4) (h2 : 1 ≤ n ∧ n ≤ s.length) : OL s (fun k => k (.ret (.tuple [.str t, .int .i64 (n : Nat)]) [])) := ⟨t, n, h, fun h0 => by omega, h2.2, fun k => rfl⟩
theorem one_ol (t : List UInt8) (ht : t.length < 1099511627776) : OL (38 :: t) (fun k => iFun Tryz.prog (layY7.hd Tryz.prog) layY7.fhs 0 83 [.str (38 :: t)] [] k) := by
 obtain ⟨s, hs⟩ : ∃ s, s = 38 :: t := ⟨_, rfl⟩
 rw [← hs]
 have hl : s.length = t.length + 1 := by rw [hs]; rfl
 obtain ⟨n0, e0⟩ : ∃ n0 : Int, n0 = s.length := ⟨_, rfl⟩
 obtain ⟨c1, e1⟩ : ∃ c1, c1 = (s == []) := ⟨_, rfl⟩
 obtain ⟨n2, e2⟩ : ∃ n2 : Int, n2 = (if 16 < n0 then 16 else n0) := ⟨_, rfl⟩
 obtain ⟨n3, e3⟩ : ∃ n3, n3 = ibM (List.drop (Int.toNat 0) (List.take n2.toNat s)) 59 := ⟨_, rfl⟩
 obtain ⟨c4, e4⟩ : ∃ c4, c4 = (decide (1 ≤ n3) && decide (n3 ≤ n0)) := ⟨_, rfl⟩
 obtain ⟨l5, e5⟩ : ∃ l5, l5 = List.drop (Int.toNat 1) (List.take n3.toNat s) := ⟨_, rfl⟩
 obtain ⟨m6, e6⟩ : ∃ m6, m6 = l5.length := ⟨_, rfl⟩
 obtain ⟨n7, e7⟩ : ∃ n7 : Int, n7 = m6 := ⟨_, rfl⟩
 obtain ⟨c8, e8⟩ : ∃ c8, c8 = decide (1 ≤ n7) := ⟨_, rfl⟩
 obtain ⟨c9, e9⟩ : ∃ c9, c9 = decide (n7 ≥ 1) := ⟨_, rfl⟩
 obtain ⟨l10, e10⟩ : ∃ l10, l10 = List.drop (Int.toNat 1) (List.take n7.toNat l5) := ⟨_, rfl⟩
 obtain ⟨m11, e11⟩ : ∃ m11, m11 = l10.length := ⟨_, rfl⟩
 obtain ⟨n12, e12⟩ : ∃ n12 : Int, n12 = m11 := ⟨_, rfl⟩
 obtain ⟨c13, e13⟩ : ∃ c13, c13 = (l10 == []) := ⟨_, rfl⟩
 obtain ⟨c14, e14⟩ : ∃ c14, c14 = !c13 := ⟨_, rfl⟩
 obtain ⟨l15, e15⟩ : ∃ l15, l15 = List.drop (Int.toNat 1) (List.take n12.toNat l10) := ⟨_, rfl⟩
 obtain ⟨c16, e16⟩ : ∃ c16, c16 = decide (l15.length ≤ 1099511627776) := ⟨_, rfl⟩
 obtain ⟨n17, e17⟩ : ∃ n17, n17 = valA l15 true := ⟨_, rfl⟩
 obtain ⟨c18, e18⟩ : ∃ c18, c18 = decide (m11 ≤ 1099511627776) := ⟨_, rfl⟩
 obtain ⟨n19, e19⟩ : ∃ n19, n19 = valA l10 false := ⟨_, rfl⟩
 have key := funext (fun k => rone_fun s k n0 e0 c1 e1 n2 e2 n3 e3 c4 e4 l5 e5 m6 e6 n7 e7 c8 e8 c9 e9 l10 e10 m11 e11 n12 e12 c13 e13 c14 e14 l15 e15 c16 e16 n17 e17 c18 e18 n19 e19)
 rw [key]
 clear key
 have h1 : c1 = false := by rw [e1, hs]; rfl
 have hc : (((s.getD 0 0).toNat : Int) != 38) = false := by rw [hs]; rfl
 have g0 : decide (0 < n0) = true := dT (by omega)
 have h2 : 0 ≤ n2 ∧ n2 ≤ n0 := by rw [e2]; split <;> omega
 have h5 : l5.length ≤ s.length := by rw [e5]; simp; omega
 have h10 : l10.length ≤ s.length := by rw [e10]; simp; omega
 have h15 : l15.length ≤ s.length := by rw [e15]; simp; omega
 have g16 : c16 = true := by rw [e16]; exact dT (by omega)
 have g18 : c18 = true := by rw [e18]; exact dT (by omega)
 have g6 : decide (m6 ≤ 1099511627776) = true := dT (by omega)
 have g77 : decide (n7 ≤ n7) = true := dT (Int.le_refl _)
 have g1212 : decide (n12 ≤ n12) = true := dT (Int.le_refl _)
 simp only [h1, hc, g0, dT h2.1, dT h2.2, Bool.true_or, cond_true, cond_false, Bool.and_self]
 by_cases h3 : n3 < 0
 · simp only [dT h3, cond_true]; exact ol_0 s
 have h31 : 1 ≤ n3 ∧ n3 < n2 := by
  have hlt := ib_lt (List.drop (Int.toNat 0) (List.take n2.toNat s)) 59
  have hd : (List.drop (Int.toNat 0) (List.take n2.toNat s)).length = n2.toNat := by simp; omega
  have e3' : n3 = Lib.indexByte (List.drop (Int.toNat 0) (List.take n2.toNat s)) 59 := e3
  refine ⟨?_, by omega⟩
  have hp : 0 < n2.toNat := by rw [e2]; split <;> omega
  obtain ⟨q, hq⟩ : ∃ q, n2.toNat = q + 1 := ⟨n2.toNat - 1, by omega⟩
  rw [hq, hs, List.take_succ_cons] at e3'
  have : n3 = if ((38 : UInt8) == 59) = true then 0 else if (Lib.indexByte (t.take q) 59 == -1) = true then -1 else Lib.indexByte (t.take q) 59 + 1 := e3'
  rw [if_neg (by decide)] at this
  have hge := Lib.indexByte_ge (t.take q) 59
  split at this
  · omega
  · rename_i hne
    have : Lib.indexByte (t.take q) 59 ≠ -1 := by simpa using hne
    omega
 have g4 : c4 = true := by rw [e4, dT h31.1, dT (show n3 ≤ n0 by omega)]; rfl
 have hw : IntKind.i64.wrap (n3 + 1) = (((n3 + 1).toNat : Nat) : Int) := by rw [wrap_of (by omega) (by omega)]; omega
 have hn : 1 ≤ (n3 + 1).toNat ∧ (n3 + 1).toNat ≤ s.length := by omega
 simp only [dF h3, g4, hw, g6, g16, g18, g77, g1212, Bool.and_true, Bool.or_true, cond_true, cond_false]
 by_cases h7 : 1 ≤ n7
 case neg =>
  have g8 : c8 = false := by rw [e8]; exact dF h7
  have g9 : c9 = false := by rw [e9]; exact dF h7
  simp only [g8, g9, Bool.not_false, Bool.or_true, cond_true, cond_false]
  repeat' (first | exact ol_0 s | exact ol_k _ _ (by simp) hn | refine ol_bif ?_ ?_)
 have g8 : c8 = true := by rw [e8]; exact dT h7
 have g9 : c9 = true := by rw [e9]; exact dT h7
 by_cases he : l10 = []
 case pos =>
  have g13 : c13 = true := by rw [e13, he]; rfl
  have g14 : c14 = false := by rw [e14, g13]; rfl
  simp only [g8, g9, g13, g14, Bool.not_false, Bool.or_true, Bool.true_or, cond_true, cond_false]
  repeat' (first | exact ol_0 s | exact ol_k _ _ (by simp) hn | exact ol_k _ _ (encS_len _) hn | refine ol_bif ?_ ?_)
 have hp : 0 < l10.length := List.length_pos_iff.2 he
 have g13 : c13 = false := by rw [e13]; simpa using he
 have g14 : c14 = true := by rw [e14, g13]; rfl
 have g12 : decide (0 < n12) = true := dT (by omega)
 have g12' : decide (1 ≤ n12) = true := dT (by omega)
 simp only [g8, g9, g13, g14, g12, g12', Bool.not_false, Bool.not_true, Bool.or_true, Bool.true_or, cond_true, cond_false]
 repeat' (first | exact ol_0 s | exact ol_k _ _ (by simp) hn | exact ol_k _ _ (encS_len _) hn | refine ol_bif ?_ ?_)
theorem one_any (s : List UInt8) (hs : s.length ≤ 1099511627776) : OL s (fun k => iFun Tryz.prog (layY7.hd Tryz.prog) layY7.fhs 0 83 [.str s] [] k) ∧ ((s.getD 0 0 == 38) = false → ∀ k, iFun Tryz.prog (layY7.hd Tryz.prog) layY7.fhs 0 83 [.str s] [] k = k (.ret (.tuple [.str [], .int .i64 0]) [])) := by
 cases h : s.getD 0 0 == 38 with
 | true =>
  cases s with
  | nil => cases h
  | cons c t =>
   obtain rfl : c = 38 := by simpa using h
   exact ⟨one_ol t (by rw [List.length_cons] at hs; omega), (fun h => by cases h)⟩
 | false =>
  have key : ∀ k, iFun Tryz.prog (layY7.hd Tryz.prog) layY7.fhs 0 83 [.str s] [] k = k (.ret (.tuple [.str [], .int .i64 0]) []) := fun k => by
   refine (rone_fun s k _ rfl _ rfl _ rfl _ rfl _ rfl _ rfl _ rfl _ rfl _ rfl _ rfl _ rfl _ rfl _ rfl _ rfl _ rfl _ rfl _ rfl _ rfl _ rfl _ rfl).trans ?_
   have hc : (((s.getD 0 0).toNat : Int) != 38) = true := by
    have : (((s.getD 0 0).toNat : Int) == 38) = false := by rw [eqc (show 38 < 256 by decide)]; exact h
    show (!((s.getD 0 0).toNat : Int) == 38) = true
    rw [this]; rfl
   cases s with
   | nil => rfl
   | cons c t =>
    rw [dT (show (0 : Int) < ((c :: t).length : Int) by simp), hc]
    rfl
  refine ⟨?_, fun _ => key⟩
  rw [show (fun k => iFun Tryz.prog (layY7.hd Tryz.prog) layY7.fhs 0 83 [.str s] [] k) = _ from funext key]
  exact ol_0 s
open Classical in
noncomputable def oneP (s : List UInt8) : List UInt8 × Nat := if h : s.length ≤ 1099511627776 then (Classical.choose (one_any s h).1, Classical.choose (Classical.choose_spec (one_any s h).1)) else ([], 0)
theorem oneP_is (s : List UInt8) (h : s.length ≤ 1099511627776) : (oneP s).1.length ≤ 4 ∧ ((oneP s).2 = 0 → (oneP s).1 = []) ∧ (oneP s).2 ≤ s.length ∧ ∀ k, iFun Tryz.prog (layY7.hd Tryz.prog) layY7.fhs 0 83 [.str s] [] k = k (.ret (.tuple [.str (oneP s).1, .int .i64 ((oneP s).2 : Nat)]) []) := by
 have := Classical.choose_spec (Classical.choose_spec (one_any s h).1)
 unfold oneP
 rw [dif_pos h]
 exact this
theorem oneP_eq {s t : List UInt8} {n : Nat} (h : s.length ≤ 1099511627776) (hk : ∀ k, iFun Tryz.prog (layY7.hd Tryz.prog) layY7.fhs 0 83 [.str s] [] k = k (.ret (.tuple [.str t, .int .i64 (n : Nat)]) [])) : oneP s = (t, n) := by
 have h2 := (oneP_is s h).2.2.2
 have h3 := fun k => (h2 k).symm.trans (hk k)
 have h4 := h3 some
 simp only [Option.some.injEq, Out.ret.injEq, AVal.tuple.injEq, List.cons.injEq, AVal.str.injEq, AVal.int.injEq, and_true, true_and] at h4
 rw [← h4.1, ← Int.ofNat.inj h4.2]
theorem oneP_no {s : List UInt8} (h : s.length ≤ 1099511627776) (hc : (s.getD 0 0 == 38) = false) : oneP s = ([], 0) := oneP_eq h ((one_any s h).2 hc)
noncomputable def onePTold : FSp := mkFS [.s] (fun xs => decide ((aS xs 0).length ≤ 1099511627776)) (fun xs k => k (.ret (.tuple [.str (oneP (aS xs 0)).1, .int .i64 ((oneP (aS xs 0)).2 : Nat)]) []))
theorem onePTold_ok : ∀ xs H k out, onePTold xs H k = some out → ∃ o, CallOK Tryz.prog 83 xs H o ∧ k o = some out := mkFS_ok fun ys xs e h => by
 obtain ⟨s, rfl⟩ : ∃ s, xs = [.str s] := ⟨_, e⟩
 exact ⟨_, fun k => rfl, layY7_ok.callF (G := []) rfl (fun k => (oneP_is s (of_decide_eq_true h)).2.2.2 k)⟩
end Go.Mu
namespace Go.Mu
open Go Go.Proofs
def enO (b x : Int) : UInt8 := byteOf [AVal.int .u8 (IntKind.u8.wrap (((BitVec.ofInt 8 b ||| BitVec.ofInt 8 (IntKind.u8.wrap x)).toNat : Nat) : Int))]
def enT (x : Int) : UInt8 := byteOf [AVal.int .u8 (IntKind.u8.wrap (((BitVec.ofInt 8 128 ||| BitVec.ofInt 8 (IntKind.u8.wrap (((BitVec.ofInt 8 (IntKind.u8.wrap x) &&& BitVec.ofInt 8 63).toNat : Nat) : Int))).toNat : Nat) : Int))]
theorem wrap8 (x : Int) : IntKind.u8.wrap x = x % 256 := by simp [IntKind.wrap, IntKind.signed, IntKind.bits]
theorem enT_eq (x : Int) : enT x = (128 + x % 64).toNat.toUInt8 := by
 have h : ∀ m : Fin 256, byteOf [AVal.int .u8 (IntKind.u8.wrap (((BitVec.ofInt 8 128 ||| BitVec.ofInt 8 (IntKind.u8.wrap (((BitVec.ofInt 8 (m.val : Int) &&& BitVec.ofInt 8 63).toNat : Nat) : Int))).toNat : Nat) : Int))] = (128 + (m.val : Int) % 64).toNat.toUInt8 := by decide +kernel
 unfold enT
 rw [wrap8 x]
 have hm : 0 ≤ x % 256 ∧ x % 256 < 256 := by omega
 have := h ⟨(x % 256).toNat, by omega⟩
 simp only [Int.toNat_of_nonneg hm.1] at this
 rw [this, show x % 256 % 64 = x % 64 by omega]
theorem enO_192 (x : Int) (h : 0 ≤ x ∧ x < 32) : enO 192 x = (192 + x).toNat.toUInt8 := by
 have h2 : ∀ m : Fin 32, enO 192 (m.val : Int) = (192 + (m.val : Int)).toNat.toUInt8 := by decide +kernel
 have := h2 ⟨x.toNat, by omega⟩
 simpa only [Int.toNat_of_nonneg h.1] using this
theorem enO_224 (x : Int) (h : 0 ≤ x ∧ x < 16) : enO 224 x = (224 + x).toNat.toUInt8 := by
 have h2 : ∀ m : Fin 16, enO 224 (m.val : Int) = (224 + (m.val : Int)).toNat.toUInt8 := by decide +kernel
 have := h2 ⟨x.toNat, by omega⟩
 simpa only [Int.toNat_of_nonneg h.1] using this
theorem enO_240 (x : Int) (h : 0 ≤ x ∧ x < 8) : enO 240 x = (240 + x).toNat.toUInt8 := by
 have h2 : ∀ m : Fin 8, enO 240 (m.val : Int) = (240 + (m.val : Int)).toNat.toUInt8 := by decide +kernel
 have := h2 ⟨x.toNat, by omega⟩
 simpa only [Int.toNat_of_nonneg h.1] using this
def badR (n : Int) : Bool := decide (n < 0) || decide (n > 1114111) || (decide (55296 ≤ n) && decide (n ≤ 57343))
def encX (n : Int) : List UInt8 := bif badR n then [] else Lib.encodeRune n
def encXE (n : Int) : Int := bif badR n then 4 else 0
theorem encode_exact (n : Int) (h0 : 0 ≤ n) (h : n ≤ 2147483647) (k : Out → Ans) : iFun Tryz.prog (Lay.nil.hd Tryz.prog) Lay.nil.fhs 0 116 [.int .i64 n] [] k = k (.ret (.tuple [.str (encX n), .int .i64 (encXE n)]) []) := by
 have w1 : IntKind.i32.wrap n = n := by simp [IntKind.wrap, IntKind.signed, IntKind.bits]; omega
 have w2 : IntKind.u32.wrap n = n := by simp [IntKind.wrap, IntKind.signed, IntKind.bits]; omega
 have f64 : n.fdiv 64 = n / 64 := Int.fdiv_eq_ediv_of_nonneg _ (by decide)
 have f4 : n.fdiv 4096 = n / 4096 := Int.fdiv_eq_ediv_of_nonneg _ (by decide)
 have f26 : n.fdiv 262144 = n / 262144 := Int.fdiv_eq_ediv_of_nonneg _ (by decide)
 refine (encode_fun n k).trans ?_
 simp only [w1, w2, f64, f4, f26]
 unfold encX encXE badR
 by_cases hb : n > 1114111
 · simp (disch := omega) only [dT, dF, cond_true, cond_false, Bool.or_true, Bool.true_or, Bool.false_or, Bool.or_false]
 by_cases hs : 55296 ≤ n ∧ n ≤ 57343
 · obtain ⟨hs1, hs2⟩ := hs
   simp (disch := omega) only [dT, dF, cond_true, cond_false, Bool.or_true, Bool.true_or, Bool.false_or, Bool.or_false, Bool.and_self]
 have hsb : (decide (55296 ≤ n) && decide (n ≤ 57343)) = false := by
  by_cases h1 : 55296 ≤ n
  · rw [dF (show ¬ n ≤ 57343 by omega), Bool.and_false]
  · rw [dF h1, Bool.false_and]
 rw [hsb, dF (show ¬ n < 0 by omega), dF hb]
 have fin : ∀ (t : List UInt8), t = Lib.encodeRune n → k (Out.ret (AVal.tuple [AVal.str t, AVal.int .i64 0]) []) = k (Out.ret (AVal.tuple [AVal.str (bif false || false || false then [] else Lib.encodeRune n), AVal.int .i64 (bif false || false || false then 4 else 0)]) []) := fun t e => by rw [e]; rfl
 by_cases h1 : n ≤ 127
 · simp (disch := omega) only [dT, dF, cond_true, cond_false]
   refine fin _ ?_
   unfold Lib.encodeRune
   rw [Lib.encodeRuneZ_one h0 h1]
   show [UInt8.ofNat (IntKind.u8.wrap n).toNat] = [n.toNat.toUInt8]
   rw [wrap8, show n % 256 = n by omega, Nat.toUInt8]
 by_cases h2 : n ≤ 2047
 · simp (disch := omega) only [dT, dF, cond_true, cond_false]
   refine fin _ ?_
   unfold Lib.encodeRune
   rw [Lib.encodeRuneZ_two (by omega) h2]
   show [enO 192 (n / 64), enT n] = [(192 + n / 64).toNat.toUInt8, (128 + n % 64).toNat.toUInt8]
   rw [enO_192 _ (by omega), enT_eq]
 by_cases h3 : n ≤ 65535
 · have key : (k (Out.ret (AVal.tuple [AVal.str [enO 224 (n / 4096), enT (n / 64), enT n], AVal.int .i64 0]) [])) = k (Out.ret (AVal.tuple [AVal.str (bif false || false || false then [] else Lib.encodeRune n), AVal.int .i64 (bif false || false || false then 4 else 0)]) []) := by
    refine fin _ ?_
    unfold Lib.encodeRune
    rw [Lib.encodeRuneZ_three (by omega), enO_224 _ (by omega), enT_eq, enT_eq]
    rfl
   by_cases h4 : n < 55296
   · simp (disch := omega) only [dT, dF, cond_true, cond_false]
     exact key
   · simp (disch := omega) only [dT, dF, cond_true, cond_false]
     exact key
 simp (disch := omega) only [dT, dF, cond_true, cond_false]
 refine fin _ ?_
 unfold Lib.encodeRune
 rw [Lib.encodeRuneZ_four (by omega) (by omega)]
 show [enO 240 (n / 262144), enT (n / 4096), enT (n / 64), enT n] = _
 rw [enO_240 _ (by omega), enT_eq, enT_eq, enT_eq]
 rfl
theorem enc_exact {n : Int} (h0 : 0 ≤ n) (h : n ≤ 2147483647) : encS' n = encX n ∧ encE n = encXE n := by
 have h3 := fun k => (encode_is n k).symm.trans (encode_exact n h0 h k)
 have h4 := h3 some
 simp only [Option.some.injEq, Out.ret.injEq, AVal.tuple.injEq, List.cons.injEq, AVal.str.injEq, AVal.int.injEq, and_true, true_and] at h4
 exact h4
end Go.Mu
namespace Go.Mu
open Go Go.Proofs
def isX (c : UInt8) : Bool := IntKind.u8.wrap (((BitVec.ofInt 8 (c.toNat : Int) ||| BitVec.ofInt 8 32).toNat : Nat) : Int) == 120
noncomputable def onW4 (t : List UInt8) (hex : Bool) (n : Nat) : List UInt8 × Nat := bif t == [] || !numB t hex then ([], 0) else (bif encE (valA t hex) != 0 || valA t hex == 0 then [239, 191, 189] else encS' (valA t hex), n)
noncomputable def onW3 (v : List UInt8) (n : Nat) : List UInt8 × Nat := bif !(v == []) && isX (v.getD 0 0) then onW4 (v.drop 1) true n else onW4 v false n
noncomputable def onW2 (w : List UInt8) (n : Nat) : List UInt8 × Nat :=
 bif w == [97, 109, 112] then ([38], n) else bif w == [108, 116] then ([60], n) else bif w == [103, 116] then ([62], n) else bif w == [113, 117, 111, 116] then ([34], n) else bif w == [97, 112, 111, 115] then ([39], n) else
 bif !(w.take 1 == [35]) then ([], 0) else onW3 (w.drop 1) n
noncomputable def oneW (s : List UInt8) : List UInt8 × Nat :=
 bif !(s.getD 0 0 == 38) then ([], 0) else bif decide (ibM (s.take 16) 59 < 0) then ([], 0) else onW2 ((s.take (ibM (s.take 16) 59).toNat).drop 1) (ibM (s.take 16) 59 + 1).toNat
theorem oneP_W38 (t : List UInt8) (ht : t.length < 1099511627776) : oneP (38 :: t) = oneW (38 :: t) := by
 obtain ⟨s, hs⟩ : ∃ s, s = 38 :: t := ⟨_, rfl⟩
 have hl : s.length = t.length + 1 := by rw [hs]; rfl
 obtain ⟨n0, e0⟩ : ∃ n0 : Int, n0 = s.length := ⟨_, rfl⟩
 obtain ⟨c1, e1⟩ : ∃ c1, c1 = (s == []) := ⟨_, rfl⟩
 obtain ⟨n2, e2⟩ : ∃ n2 : Int, n2 = (if 16 < n0 then 16 else n0) := ⟨_, rfl⟩
 obtain ⟨n3, e3⟩ : ∃ n3, n3 = ibM (List.drop (Int.toNat 0) (List.take n2.toNat s)) 59 := ⟨_, rfl⟩
 obtain ⟨c4, e4⟩ : ∃ c4, c4 = (decide (1 ≤ n3) && decide (n3 ≤ n0)) := ⟨_, rfl⟩
 obtain ⟨l5, e5⟩ : ∃ l5, l5 = List.drop (Int.toNat 1) (List.take n3.toNat s) := ⟨_, rfl⟩
 obtain ⟨m6, e6⟩ : ∃ m6, m6 = l5.length := ⟨_, rfl⟩
 obtain ⟨n7, e7⟩ : ∃ n7 : Int, n7 = m6 := ⟨_, rfl⟩
 obtain ⟨c8, e8⟩ : ∃ c8, c8 = decide (1 ≤ n7) := ⟨_, rfl⟩
 obtain ⟨c9, e9⟩ : ∃ c9, c9 = decide (n7 ≥ 1) := ⟨_, rfl⟩
 obtain ⟨l10, e10⟩ : ∃ l10, l10 = List.drop (Int.toNat 1) (List.take n7.toNat l5) := ⟨_, rfl⟩
 obtain ⟨m11, e11⟩ : ∃ m11, m11 = l10.length := ⟨_, rfl⟩
 obtain ⟨n12, e12⟩ : ∃ n12 : Int, n12 = m11 := ⟨_, rfl⟩
 obtain ⟨c13, e13⟩ : ∃ c13, c13 = (l10 == []) := ⟨_, rfl⟩
 obtain ⟨c14, e14⟩ : ∃ c14, c14 = !c13 := ⟨_, rfl⟩
 obtain ⟨l15, e15⟩ : ∃ l15, l15 = List.drop (Int.toNat 1) (List.take n12.toNat l10) := ⟨_, rfl⟩
 obtain ⟨c16, e16⟩ : ∃ c16, c16 = decide (l15.length ≤ 1099511627776) := ⟨_, rfl⟩
 obtain ⟨n17, e17⟩ : ∃ n17, n17 = valA l15 true := ⟨_, rfl⟩
 obtain ⟨c18, e18⟩ : ∃ c18, c18 = decide (m11 ≤ 1099511627776) := ⟨_, rfl⟩
 obtain ⟨n19, e19⟩ : ∃ n19, n19 = valA l10 false := ⟨_, rfl⟩
 have key := (fun k : Out → Ans => rone_fun s k n0 e0 c1 e1 n2 e2 n3 e3 c4 e4 l5 e5 m6 e6 n7 e7 c8 e8 c9 e9 l10 e10 m11 e11 n12 e12 c13 e13 c14 e14 l15 e15 c16 e16 n17 e17 c18 e18 n19 e19)
 rw [← hs]
 have fin : (∀ k : Out → Ans, iFun Tryz.prog (layY7.hd Tryz.prog) layY7.fhs 0 83 [.str s] [] k = k (.ret (.tuple [.str (oneW s).1, .int .i64 ((oneW s).2 : Nat)]) [])) → oneP s = oneW s := fun h => oneP_eq (by omega) h
 refine fin (fun k => (key k).trans ?_)
 clear key fin
 have h1 : c1 = false := by rw [e1, hs]; rfl
 have hc : (((s.getD 0 0).toNat : Int) != 38) = false := by rw [hs]; rfl
 have g0 : decide (0 < n0) = true := dT (by omega)
 have h2 : 0 ≤ n2 ∧ n2 ≤ n0 := by rw [e2]; split <;> omega
 have h5 : l5.length ≤ s.length := by rw [e5]; simp; omega
 have h10 : l10.length ≤ s.length := by rw [e10]; simp; omega
 have h15 : l15.length ≤ s.length := by rw [e15]; simp; omega
 have g16 : c16 = true := by rw [e16]; exact dT (by omega)
 have g18 : c18 = true := by rw [e18]; exact dT (by omega)
 have g6 : decide (m6 ≤ 1099511627776) = true := dT (by omega)
 have g77 : decide (n7 ≤ n7) = true := dT (Int.le_refl _)
 have g1212 : decide (n12 ≤ n12) = true := dT (Int.le_refl _)
 have e16 : List.drop (Int.toNat 0) (List.take n2.toNat s) = s.take 16 := by
  show List.take n2.toNat s = s.take 16
  rw [e2]
  split
  · rfl
  · rw [List.take_of_length_le (by omega), List.take_of_length_le (by omega)]
 have hW : oneW s = bif decide (n3 < 0) then ([], 0) else onW2 l5 (n3 + 1).toNat := by
  unfold oneW
  rw [show (s.getD 0 0 == 38) = true by rw [hs]; rfl, ← e16, ← e3, e5]
  rfl
 rw [hW]
 simp only [h1, hc, g0, dT h2.1, dT h2.2, Bool.true_or, cond_true, cond_false, Bool.and_self]
 by_cases h3 : n3 < 0
 · simp only [dT h3, cond_true]; rfl
 have h31 : 1 ≤ n3 ∧ n3 < n2 := by
  have hlt := ib_lt (List.drop (Int.toNat 0) (List.take n2.toNat s)) 59
  have hd : (List.drop (Int.toNat 0) (List.take n2.toNat s)).length = n2.toNat := by simp; omega
  have e3' : n3 = Lib.indexByte (List.drop (Int.toNat 0) (List.take n2.toNat s)) 59 := e3
  refine ⟨?_, by omega⟩
  have hp : 0 < n2.toNat := by rw [e2]; split <;> omega
  obtain ⟨q, hq⟩ : ∃ q, n2.toNat = q + 1 := ⟨n2.toNat - 1, by omega⟩
  rw [hq, hs, List.take_succ_cons] at e3'
  have : n3 = if ((38 : UInt8) == 59) = true then 0 else if (Lib.indexByte (t.take q) 59 == -1) = true then -1 else Lib.indexByte (t.take q) 59 + 1 := e3'
  rw [if_neg (by decide)] at this
  have hge := Lib.indexByte_ge (t.take q) 59
  split at this
  · omega
  · rename_i hne
    have : Lib.indexByte (t.take q) 59 ≠ -1 := by simpa using hne
    omega
 have g4 : c4 = true := by rw [e4, dT h31.1, dT (show n3 ≤ n0 by omega)]; rfl
 have hw : IntKind.i64.wrap (n3 + 1) = (((n3 + 1).toNat : Nat) : Int) := by rw [wrap_of (by omega) (by omega)]; omega
 simp only [dF h3, g4, hw, g6, g16, g18, g77, g1212, Bool.and_true, Bool.or_true, cond_true, cond_false]
 generalize hN : (n3 + 1).toNat = N
 unfold onW2
 cases l5 == [97, 109, 112] with
 | true => rfl
 | false =>
 cases l5 == [108, 116] with
 | true => rfl
 | false =>
 cases l5 == [103, 116] with
 | true => rfl
 | false =>
 cases l5 == [113, 117, 111, 116] with
 | true => rfl
 | false =>
 cases l5 == [97, 112, 111, 115] with
 | true => rfl
 | false =>
 simp only [cond_false]
 have eT : List.drop (Int.toNat 0) (List.take (Int.toNat 1) l5) = l5.take 1 := rfl
 have eD : List.drop (Int.toNat 1) (List.take n7.toNat l5) = l5.drop 1 := by rw [List.take_of_length_le (by omega)]; rfl
 have eD2 : List.drop (Int.toNat 1) (List.take n12.toNat l10) = l10.drop 1 := by rw [List.take_of_length_le (by omega)]; rfl
 rw [eT]
 by_cases h7 : 1 ≤ n7
 case neg =>
  have g8 : c8 = false := by rw [e8]; exact dF h7
  have g9 : c9 = false := by rw [e9]; exact dF h7
  have hn : l5 = [] := List.eq_nil_of_length_eq_zero (by omega)
  simp only [g8, g9, Bool.not_false, Bool.or_true, cond_true, cond_false]
  rw [hn]; rfl
 have g8 : c8 = true := by rw [e8]; exact dT h7
 have g9 : c9 = true := by rw [e9]; exact dT h7
 simp only [g8, g9, Bool.true_or, cond_true]
 rw [eD] at e10
 cases l5.take 1 == [35] with
 | false => simp only [Bool.not_false, cond_true, Bool.or_true]; rfl
 | true =>
 simp only [Bool.not_true, cond_false, cond_true]
 rw [← e10]
 unfold onW3
 rw [eD2] at e15
 by_cases he : l10 = []
 case pos =>
  have g13 : c13 = true := by rw [e13, he]; rfl
  have g14 : c14 = false := by rw [e14, g13]; rfl
  simp only [g13, g14, Bool.not_false, Bool.or_true, Bool.true_or, cond_true, cond_false]
  rw [he]; rfl
 have hp : 0 < l10.length := List.length_pos_iff.2 he
 have hb : (l10 == []) = false := by simpa using he
 have g13 : c13 = false := by rw [e13]; exact hb
 have g14 : c14 = true := by rw [e14, g13]; rfl
 have g12 : decide (0 < n12) = true := dT (by omega)
 have g12' : decide (1 ≤ n12) = true := dT (by omega)
 simp only [g13, g14, g12, g12', hb, Bool.not_false, Bool.not_true, Bool.or_true, Bool.true_or, Bool.true_and, cond_true, cond_false]
 show (bif isX (l10.getD 0 0) then _ else _) = _
 rw [← e15]
 unfold onW4
 cases isX (l10.getD 0 0) with
 | true =>
  simp only [cond_true, ← e17]
  cases l15 == [] with
  | true => rfl
  | false =>
   cases numB l15 true with
   | false => rfl
   | true =>
    cases encE n17 != 0 with
    | true => rfl
    | false => cases n17 == 0 <;> rfl
 | false =>
  simp only [cond_false, ← e19, hb]
  cases numB l10 false with
  | false => rfl
  | true =>
   cases encE n19 != 0 with
   | true => rfl
   | false => cases n19 == 0 <;> rfl
theorem oneP_W (s : List UInt8) (hs : s.length ≤ 1099511627776) : oneP s = oneW s := by
 cases h : s.getD 0 0 == 38 with
 | false => rw [oneP_no hs h]; unfold oneW; rw [h]; rfl
 | true =>
  cases s with
  | nil => cases h
  | cons c t =>
   obtain rfl : c = 38 := by simpa using h
   exact oneP_W38 t (by rw [List.length_cons] at hs; omega)
end Go.Mu
namespace Go.Mu
open Go Go.Proofs
theorem oct256 {p : UInt8 → Prop} [DecidablePred p] (h : ∀ n : Fin 256, p (UInt8.ofNat n)) (c : UInt8) : p c := by
 have := h ⟨c.toNat, c.toNat_lt⟩
 simpa using this
theorem ib_split : ∀ (l : List UInt8) (c : UInt8), (Lib.indexByte l c = -1 ∧ c ∉ l) ∨ ∃ p q, l = p ++ c :: q ∧ c ∉ p ∧ Lib.indexByte l c = (p.length : Nat)
 | [], c => .inl ⟨rfl, by simp⟩
 | b :: l, c => by
  rw [Lib.indexByte]
  by_cases hb : b = c
  · subst hb
    exact .inr ⟨[], l, rfl, by simp, by simp⟩
  · have hb2 : (b == c) = false := by simpa using hb
    rw [hb2, if_neg (by decide)]
    rcases ib_split l c with ⟨h1, h2⟩ | ⟨p, q, rfl, h2, h3⟩
    · rw [h1]
      exact .inl ⟨rfl, by simp [h2, Ne.symm hb]⟩
    · refine .inr ⟨b :: p, q, rfl, by simp [h2, Ne.symm hb], ?_⟩
      rw [h3]
      have : ((p.length : Int) == -1) = false := by simp only [beq_eq_false_iff_ne, ne_eq]; omega
      rw [this, if_neg (by decide)]
      simp
end Go.Mu
namespace Go.Mu
open Go Go.Proofs
theorem encX_good {n : Int} (h0 : 0 ≤ n) (h : n ≤ 1114111) (h2 : ¬ (55296 ≤ n ∧ n ≤ 57343)) : encX n = Lib.encodeRune n ∧ (encXE n != 0) = false := by
 have : badR n = false := by
  unfold badR
  rw [dF (show ¬ n < 0 by omega), dF (show ¬ n > 1114111 by omega)]
  by_cases h1 : 55296 ≤ n
  · rw [dF (show ¬ n ≤ 57343 by omega)]; simp
  · rw [dF h1]; rfl
 unfold encX encXE
 rw [this]
 exact ⟨rfl, rfl⟩
theorem dgo_N (s : List UInt8) (h : s ≠ []) : Lib.decodeGo (ba s) = Lib.decodeN s.length (s.getD 0 0).toNat (s.getD 1 0).toNat (s.getD 2 0).toNat (s.getD 3 0).toNat := by
 have hl : 0 < s.length := List.length_pos_iff.2 h
 unfold Lib.decodeGo
 rw [if_neg (by rw [ba_size]; omega), Lib.decode_N]
 rfl
def rdP (s : List UInt8) : Int × Nat := (decC (ba s), (Lib.decodeGo (ba s)).2)
end Go.Mu
namespace Go.Mu
open Go Go.Proofs
def okCh (l : List Int) : Prop := ∀ c ∈ l, 0 < c ∧ c ≤ 1114111 ∧ ¬ (55296 ≤ c ∧ c ≤ 57343)
end Go.Mu
namespace Go.Mu
open Go Go.Proofs
variable {P : Program}
theorem Lay.OK.callN {L : Lay} (h : L.OK P) {f : FuncId} {xs : List AVal} {v : AVal} {G : Heap} (F : Nat) (hv : refsD 6 0 v = true) (hr : ∀ k, iFun P (L.hd P) L.fhs F f xs [] k = k (.ret v G)) : CallOK P f xs [] (.ret v []) := by
 refine CallOK.shrink (H := []) (H' := []) (G := G) ?_ (Nat.le_refl _) hv (fun x hx => by cases hx)
 classical
 have hz : iFun P (L.hd P) L.fhs F f xs [] (fun o' => if o' = .ret v G then some (.ret v G) else none) = some (.ret v G) := (hr _).trans (by simp)
 obtain ⟨o', h1, h2⟩ := iFun_sound h.hok (fun g => ⟨regions_ok h.hok _, h.l g⟩) hz
 split at h2
 · rename_i e; rw [e] at h1; exact h1
 · simp at h2
theorem rep_of (t : ByteArray) : repC t = if decC t ≤ 0 then 65533 else decC t := by
 unfold repC decC
 by_cases h : (Lib.decodeGo t).1 = 65533 ∧ (Lib.decodeGo t).2 < 2
 · rw [if_pos h, h.1]; simp
 · rw [if_neg h]
   by_cases h0 : (Lib.decodeGo t).1 = 0
   · rw [if_pos h0, if_pos (by omega)]
   · rw [if_neg h0, if_neg (by omega)]
theorem ba_ext (s : List UInt8) (w : Nat) : (ba s).extract w (ba s).size = ba (s.drop w) := by
 apply ByteArray.ext
 rw [ByteArray.data_extract]
 apply Array.ext'
 simp [ba, ByteArray.size]
 exact List.take_of_length_le (by simp)
theorem dgo_w (s : List UInt8) (h : s ≠ []) : 1 ≤ (Lib.decodeGo (ba s)).2 ∧ (Lib.decodeGo (ba s)).2 ≤ s.length := by
 have hl : 0 < s.length := List.length_pos_iff.2 h
 have hz : ¬ (ba s).size = 0 := by rw [ba_size]; omega
 have hdG : Lib.decodeGo (ba s) = Utf8.decode (ba s) 0 := by unfold Lib.decodeGo; rw [if_neg hz]
 rw [hdG]
 exact ⟨Lib.width_pos (ba s) 0, Lib.width_le (ba s) (by rw [ba_size]; omega)⟩
def chL (m : Nat) (s : List UInt8) : List Int := chF m (ba s)
theorem chL_cons (m : Nat) (s : List UInt8) (h : s ≠ []) : chL (m + 1) s = (if (rdP s).1 ≤ 0 then 65533 else (rdP s).1) :: chL m (s.drop (rdP s).2) := by
 have hl : 0 < s.length := List.length_pos_iff.2 h
 unfold chL
 rw [chF, if_neg (by rw [ba_size]; omega), ba_ext, rep_of]
 rfl
theorem chL_nil (m : Nat) : chL m [] = [] := by
 cases m with
 | zero => rfl
 | succ m => unfold chL; rw [chF, if_pos (by rfl)]
theorem rdP_w (s : List UInt8) (h : s ≠ []) : 1 ≤ (rdP s).2 ∧ (rdP s).2 ≤ s.length := dgo_w s h
theorem chL_len : ∀ (m : Nat) (s : List UInt8), (chL m s).length ≤ s.length
 | 0, s => Nat.zero_le _
 | m + 1, s => by
  by_cases h : s = []
  · subst h; rw [chL_nil]; exact Nat.le_refl _
  · have hw := rdP_w s h
    rw [chL_cons m s h, List.length_cons]
    have := chL_len m (s.drop (rdP s).2)
    rw [List.length_drop] at this
    omega
def chP (s : List UInt8) : List Int := chL s.length s
end Go.Mu
namespace Go.Mu
open Go Go.Proofs
theorem encX_len (c : Int) : (encX c).length ≤ 4 := by
 unfold encX
 cases badR c with
 | true => simp
 | false =>
  have h := (Lib.runeCells_le c).2
  rw [Lib.runeCells_length] at h
  exact h
def rpP (s : List UInt8) : List UInt8 := (chP s).flatMap encX
theorem rdP_ok (s : List UInt8) (h : s ≠ []) : (rdP s).1 ≤ 1114111 ∧ ¬ (55296 ≤ (rdP s).1 ∧ (rdP s).1 ≤ 57343) := by
 have hD := dgo_N s h
 have hs := Lib.decodeN_shape s.length (s.getD 0 0).toNat (s.getD 1 0).toNat (s.getD 2 0).toNat (s.getD 3 0).toNat
 rw [← hD] at hs
 unfold rdP decC
 simp only
 split
 · omega
 · rcases hs with ⟨_, e⟩ | ⟨_, _, _, _, e⟩ | ⟨_, _, _, _, _, _, e⟩ | ⟨_, _, _, _, _, _, _, e⟩ | e
   all_goals (rw [e]; simp only; omega)
theorem chL_ok : ∀ (m : Nat) (s : List UInt8), okCh (chL m s)
 | 0, s => by intro c hc; unfold chL chF at hc; cases hc
 | m + 1, s => by
  by_cases h : s = []
  · subst h; rw [chL_nil]; intro c hc; cases hc
  · rw [chL_cons m s h]
    intro c hc
    rcases List.mem_cons.1 hc with rfl | hc
    · have := rdP_ok s h
      split
      · omega
      · omega
    · exact chL_ok m _ c hc
theorem chP_ok (s : List UInt8) : okCh (chP s) := chL_ok _ s
theorem chP_len (s : List UInt8) : (chP s).length ≤ s.length := chL_len _ s
theorem flat_congr {α β : Type} {f g : α → List β} : ∀ (l : List α), (∀ a ∈ l, f a = g a) → l.flatMap f = l.flatMap g
 | [], _ => rfl
 | a :: l, h => by rw [List.flatMap_cons, List.flatMap_cons, h a (by simp), flat_congr l (fun b hb => h b (by simp [hb]))]
theorem repB_rp (s : List UInt8) : repB s = rpP s := by
 unfold repB rpP
 rw [repF_ch]
 refine flat_congr _ (fun c hc => ?_)
 have := chP_ok s c hc
 exact (encX_good (by omega) (by omega) (by omega)).1.symm
theorem rpP_len (s : List UInt8) : (rpP s).length ≤ 4 * s.length := by
 have := flat_len encX 4 encX_len (chP s)
 have := chP_len s
 unfold rpP
 omega
def escC (c : UInt8) : List UInt8 := bif c == 38 then [38,97,109,112,59] else bif c == 60 then [38,108,116,59] else bif c == 62 then [38,103,116,59] else bif c == 34 then [38,35,51,52,59] else bif c == 39 then [38,35,51,57,59] else bif c == 43 then [38,35,52,51,59] else [c]
theorem escC_len (c : UInt8) : (escC c).length ≤ 5 := by
 unfold escC
 cases c == 38 <;> cases c == 60 <;> cases c == 62 <;> cases c == 34 <;> cases c == 39 <;> cases c == 43 <;> simp
def escT (t : List UInt8) : List UInt8 := t.flatMap escC
def escP (s : List UInt8) : List UInt8 := escT (rpP s)
end Go.Mu
namespace Go.Mu
open Go Go.Proofs
def Bld.adds (x : Bld) (ls : List (List UInt8)) : Bld := ls.foldl (fun y l => y.add 0 2 l) x
theorem Bld.adds_can : ∀ (ls : List (List UInt8)) {x : Bld}, x.can 0 2 → (x.adds ls).can 0 2
 | [], x, h => h
 | l :: ls, x, h => Bld.adds_can ls (x := x.add 0 2 l) (Bld.add_can h l)
theorem Bld.adds_t : ∀ (ls : List (List UInt8)) (x : Bld), (x.adds ls).t = x.t ++ ls.flatten
 | [], x => by show x.t = _; simp
 | l :: ls, x => by
  show ((x.add 0 2 l).adds ls).t = _
  rw [Bld.adds_t ls, Bld.add_t, List.flatten_cons, List.append_assoc]
theorem Bld.adds_app (x : Bld) (a b : List (List UInt8)) : x.adds (a ++ b) = (x.adds a).adds b := by
 unfold Bld.adds
 rw [List.foldl_append]
theorem Bld.adds_snoc (x : Bld) (a : List (List UInt8)) (l : List UInt8) : x.adds (a ++ [l]) = (x.adds a).add 0 2 l := Bld.adds_app x a [l]
def Bld.addA (i j : Nat) (x : Bld) (ls : List (List UInt8)) : Bld := ls.foldl (fun y l => y.add i j l) x
theorem Bld.addA_can {i j : Nat} : ∀ (ls : List (List UInt8)) {x : Bld}, x.can i j → (x.addA i j ls).can i j
 | [], x, h => h
 | l :: ls, x, h => Bld.addA_can ls (x := x.add i j l) (Bld.add_can h l)
theorem Bld.addA_t {i j : Nat} : ∀ (ls : List (List UInt8)) (x : Bld), (x.addA i j ls).t = x.t ++ ls.flatten
 | [], x => by show x.t = _; simp
 | l :: ls, x => by
  show ((x.add i j l).addA i j ls).t = _
  rw [Bld.addA_t ls, Bld.add_t, List.flatten_cons, List.append_assoc]
theorem Bld.addA_app {i j : Nat} (x : Bld) (a b : List (List UInt8)) : x.addA i j (a ++ b) = (x.addA i j a).addA i j b := by
 unfold Bld.addA
 rw [List.foldl_append]
theorem map_flatten {α : Type} (f : α → List UInt8) (l : List α) : (l.map f).flatten = l.flatMap f := by rw [List.flatMap_def]
theorem flatMap_flatten {α : Type} (f : α → List (List UInt8)) : ∀ (l : List α), (l.flatMap f).flatten = l.flatMap (fun a => (f a).flatten)
 | [] => rfl
 | a :: l => by rw [List.flatMap_cons, List.flatten_append, flatMap_flatten f l, List.flatMap_cons]
end Go.Mu
namespace Go.Mu
open Go Go.Proofs
theorem urpTold_ok : ∀ xs H k out, urpTold repB xs H k = some out → ∃ o, CallOK Tryz.prog 35 xs H o ∧ k o = some out := repTTold_ok
theorem layEs0_ok : (layEs0 repB).OK Tryz.prog := b0_ok (Lay.nil_ok.addF urpTold_ok)
def escE (x : Bld) (l : List UInt8) : Bld := x.adds (l.map escC)
noncomputable abbrev escTurn := lturn Tryz.prog (layEs0 repB) (escFH escE) 20 3 [3,8,9,10] [] [3] []
theorem esc_rd (f : Bool) (l : List UInt8) (y : Bld) (hy : y.can 0 2) (ht : y.t.length ≤ 1073741824) (hl : l.length ≤ 1073741824) (i : Nat) (hi : i < l.length) (D : List (FuncId × List AVal)) (k : Kont) :
 escTurn (stL 37 [3,8,9,10] [.ptr (.hp 0) 0, byL f l, .int .i64 l.length, .int .i64 (i : Nat)] [] [] (b0H.mk y).heap D) k = k .normal (stL 37 [3,8,9,10] [.ptr (.hp 0) 0, byL f l, .int .i64 l.length, .int .i64 ((i + 1 : Nat) : Int)] [] [] (b0H.mk (y.add 0 2 (escC (l.getD i 0)))).heap D) := by
 have key := esc_step repB escE y f l l.length i D k _ rfl y.t rfl _ rfl _ rfl _ rfl _ rfl _ rfl _ rfl _ rfl (l.getD i 0) (by simp) _ rfl _ rfl
 have e1 : IntKind.i64.wrap ((i : Int) + 1) = ((i + 1 : Nat) : Int) := wrap_add1 (by omega)
 have q38 : (((l.getD i 0).toNat : Int) == 38) = (l.getD i 0 == 38) := eqc (by decide)
 have q60 : (((l.getD i 0).toNat : Int) == 60) = (l.getD i 0 == 60) := eqc (by decide)
 have q62 : (((l.getD i 0).toNat : Int) == 62) = (l.getD i 0 == 62) := eqc (by decide)
 have q34 : (((l.getD i 0).toNat : Int) == 34) = (l.getD i 0 == 34) := eqc (by decide)
 have q39 : (((l.getD i 0).toNat : Int) == 39) = (l.getD i 0 == 39) := eqc (by decide)
 have q43 : (((l.getD i 0).toNat : Int) == 43) = (l.getD i 0 == 43) := eqc (by decide)
 refine key.trans ?_
 simp only [Int.toNat_natCast, e1, q38, q60, q62, q34, q39, q43, dT (show (i : Int) < l.length by omega), dT (show (0 : Int) ≤ (i : Int) by omega), Bool.and_self, cond_true]
 unfold escC
 cases l.getD i 0 == 38
 · cases l.getD i 0 == 60
   · cases l.getD i 0 == 62
     · cases l.getD i 0 == 34
       · cases l.getD i 0 == 39
         · cases l.getD i 0 == 43
           · exact (congrArg (fun c => cond c _ none) (tst_true ⟨⟨hy, ht⟩, .refl _, by trivial⟩)).trans rfl
           · exact (congrArg (fun c => cond c _ none) (tst_true ⟨⟨hy, by omega⟩, .refl _, by trivial⟩)).trans rfl
         · exact (congrArg (fun c => cond c _ none) (tst_true ⟨⟨hy, by omega⟩, .refl _, by trivial⟩)).trans rfl
       · exact (congrArg (fun c => cond c _ none) (tst_true ⟨⟨hy, by omega⟩, .refl _, by trivial⟩)).trans rfl
     · exact (congrArg (fun c => cond c _ none) (tst_true ⟨⟨hy, by omega⟩, .refl _, by trivial⟩)).trans rfl
   · exact (congrArg (fun c => cond c _ none) (tst_true ⟨⟨hy, by omega⟩, .refl _, by trivial⟩)).trans rfl
 · exact (congrArg (fun c => cond c _ none) (tst_true ⟨⟨hy, by omega⟩, .refl _, by trivial⟩)).trans rfl
theorem escSp_ok : SpOK escTurn 37 [3,8,9,10] [] [3] [] (escSp escE) := mkL_ok fun a h => by
 obtain ⟨x, l, i, f⟩ := a
 obtain ⟨h1, h2, h3, h4⟩ := h
 simp only at h1 h2 h3 h4
 subst h3
 refine ⟨_, _, _, _, fun k => rfl, ?_⟩
 have hc := fun i => Bld.adds_can ((l.take i).map escC) h1
 have ht : ∀ i, i < l.length → (x.adds ((l.take i).map escC)).t.length ≤ 1073741824 := fun i hi => by
  have := flat_len_take escC 5 escC_len l i
  rw [Bld.adds_t, map_flatten, List.length_append, h2]
  omega
 have key := seq_runs (turn := escTurn) (n := 37) (l := [3,8,9,10]) (m := []) (lx := [3]) (mx := []) (fun i => [.ptr (.hp 0) 0, byL f l, .int .i64 l.length, .int .i64 (i : Nat)]) (fun _ => []) (fun i => (b0H.mk (x.adds ((l.take i).map escC))).heap) l.length (e := .exit 0) (by simp)
  (fun i hi D k => by
   refine (esc_rd f l _ (hc i) (ht i hi) (by omega) i hi D k).trans ?_
   rw [take_map l 0 escC i hi, Bld.adds_snoc])
  (fun D k => by
   refine (esc_step repB escE _ f l l.length l.length D k _ rfl _ rfl _ rfl _ rfl _ rfl _ rfl _ rfl _ rfl _ rfl _ rfl _ rfl _ rfl).trans ?_
   rw [dF (show ¬ (l.length : Int) < l.length by omega), cond_false])
 rw [List.take_of_length_le (Nat.le_refl _)] at key
 exact key
theorem layEs_ok : (layEs repB escE).OK Tryz.prog := layEs0_ok.loop1 (id := 3) (by kernel_rfl) (by kernel_rfl) (by kernel_rfl) escSp_ok
theorem byt_decL (f : Bool) (l : List UInt8) : decL (fun (r : List AVal) => byteOf r) (AVal.list f l.length fun (i : Nat) => [AVal.int .u8 (↑(l.getD i 0).toNat : Int)]) = l := decL_encL decB_enc l
def pescTold (R : List UInt8 → List UInt8) : FSp := mkFS [.s] (fun xs => decide ((aS xs 0).length ≤ 26843545)) (fun xs k => k (.ret (.str (R (aS xs 0))) []))
end Go.Mu
namespace Go.Mu
open Go Go.Proofs
def hxC (m : Int) : UInt8 := byteOf [AVal.int .u8 (↑(([48, 49, 50, 51, 52, 53, 54, 55, 56, 57, 97, 98, 99, 100, 101, 102] : List UInt8).getD m.toNat 0).toNat : Int)]
def hxN (n : Int) (d : Int) : Int := IntKind.u64.wrap (↑(BitVec.ofInt 64 ((IntKind.u64.wrap n).fdiv d) &&& BitVec.ofInt 64 15).toNat : Int)
theorem hxN_lt (n d : Int) : hxN n d < 16 := by
 unfold hxN
 have h : (BitVec.ofInt 64 ((IntKind.u64.wrap n).fdiv d) &&& BitVec.ofInt 64 15).toNat ≤ 15 := by
  rw [BitVec.toNat_and]
  exact Nat.and_le_right
 have e : ∀ x : Int, IntKind.u64.wrap x = x % 18446744073709551616 := fun x => by simp [IntKind.wrap, IntKind.signed, IntKind.bits]
 rw [e]
 omega
def hexX (n size : Int) : List UInt8 := bif size == 2 then [hxC (hxN n 16), hxC (hxN n 1)] else [hxC (hxN n 4096), hxC (hxN n 256), hxC (hxN n 16), hxC (hxN n 1)]
theorem hexX_len (n size : Int) : (hexX n size).length ≤ 4 := by
 unfold hexX
 cases size == 2 <;> simp
def hxR (m : Int) : List AVal := [AVal.int .u8 (↑(([48, 49, 50, 51, 52, 53, 54, 55, 56, 57, 97, 98, 99, 100, 101, 102] : List UInt8).getD m.toNat 0).toNat : Int)]
theorem hexX_len2 (n : Int) : (hexX n 2).length = 2 := rfl
theorem hexTold_ok : ∀ xs H k out, hexTold hexX xs H k = some out → ∃ o, CallOK Tryz.prog 104 xs H o ∧ k o = some out := mkFS_ok fun ys xs e h => by
 obtain ⟨n, z, rfl⟩ : ∃ n z, xs = [.int .i64 n, .int .i64 z] := ⟨_, _, e⟩
 have h2 : 0 ≤ n ∧ (z = 2 ∧ n ≤ 255 ∨ z = 4 ∧ n ≤ 65535) := of_decide_eq_true h
 rcases h2.2 with ⟨rfl, _⟩ | ⟨rfl, _⟩
 · refine ⟨_, fun k => rfl, Lay.nil_ok.callN (G := [.arr 1 [hxR (hxN n 16), hxR (hxN n 1)] 0]) 9 rfl (fun k => (hex2_fun n k).trans ?_)⟩
   exact ((congrArg (fun c => cond c _ none) (dT (hxN_lt n 1))).trans ((cond_true _ _).trans ((congrArg (fun c => cond c _ none) (dT (hxN_lt n 16))).trans (cond_true _ _))))
 · refine ⟨_, fun k => rfl, Lay.nil_ok.callN (G := [.arr 1 [hxR (hxN n 4096), hxR (hxN n 256), hxR (hxN n 16), hxR (hxN n 1)] 0]) 9 rfl (fun k => (hex4_fun n k).trans ?_)⟩
   exact ((congrArg (fun c => cond c _ none) (dT (hxN_lt n 1))).trans ((cond_true _ _).trans ((congrArg (fun c => cond c _ none) (dT (hxN_lt n 16))).trans ((cond_true _ _).trans ((congrArg (fun c => cond c _ none) (dT (hxN_lt n 256))).trans ((cond_true _ _).trans ((congrArg (fun c => cond c _ none) (dT (hxN_lt n 4096))).trans (cond_true _ _))))))))
def unrI (n2 : Int) : Bool := bif bif bif decide (IntKind.u8.wrap (↑(BitVec.ofInt 8 n2 ||| BitVec.ofInt 8 32).toNat : Int) ≥ 97) then decide (IntKind.u8.wrap (↑(BitVec.ofInt 8 n2 ||| BitVec.ofInt 8 32).toNat : Int) ≤ 122) else false then true else bif decide (n2 ≥ 48) then decide (n2 ≤ 57) else false then true else decide (ibM [45, 46, 95, 126] n2 ≥ 0)
def mayNM (s : List UInt8) (i : Int) : Bool :=
 let n2 : Int := (↑(s.getD i.toNat 0).toNat : Int)
 let c5 : Bool := bif unrI n2 then true else decide (ibM [33, 35, 36, 38, 42, 43, 44, 47, 58, 59, 61, 63, 64, 91, 93] n2 ≥ 0)
 bif bif n2 != 37 then true else decide (IntKind.i64.wrap ((↑s.length : Int) - i) < 3) then (bif c5 then true else false) else (bif c5 then true else (unhexM (List.drop (IntKind.i64.wrap (i + 1)).toNat (List.take (IntKind.i64.wrap (i + 3)).toNat s))).snd == 0)
def mayEM (s : List UInt8) (i : Int) : Bool := unrI (↑(s.getD i.toNat 0).toNat : Int)
theorem layPm_ok : layPm.OK Tryz.prog := (Lay.nil_ok.addF ibTold_ok).addF unhexTold_ok
theorem mayNTold_ok : ∀ xs H k out, mayTold mayNM xs H k = some out → ∃ o, CallOK Tryz.prog 74 xs H o ∧ k o = some out := mkFS_ok fun ys xs e h => by
 obtain ⟨s, i, rfl⟩ : ∃ s i, xs = [.str s, .int .i64 i] := ⟨_, _, e⟩
 have h2 : 0 ≤ i ∧ i < s.length ∧ s.length ≤ 1099511627776 := of_decide_eq_true h
 refine ⟨_, fun k => rfl, layPm_ok.callF (G := []) rfl (fun k => (mayN_fun s i k).trans ?_)⟩
 have w1 : IntKind.i64.wrap (i + 1) = i + 1 := wrap_of (by omega) (by omega)
 have w3 : IntKind.i64.wrap (i + 3) = i + 3 := wrap_of (by omega) (by omega)
 have wd : IntKind.i64.wrap ((s.length : Int) - i) = s.length - i := wrap_of (by omega) (by omega)
 show _ = k (.ret (.bool (mayNM s i)) [])
 have ht : (decide (0 ≤ i) && decide (i < (s.length : Int))) = true := by rw [dT h2.1, dT h2.2.1]; rfl
 simp only [ht, cond_true, Bool.true_or]
 unfold mayNM unrI
 by_cases hb : (bif ((↑(s.getD i.toNat 0).toNat : Int)) != 37 then true else decide (IntKind.i64.wrap ((↑s.length : Int) - i) < 3)) = true
 · simp only [hb, cond_true]
 · have hb2 : (bif ((↑(s.getD i.toNat 0).toNat : Int)) != 37 then true else decide (IntKind.i64.wrap ((↑s.length : Int) - i) < 3)) = false := by simpa using hb
   simp only [hb2, cond_false]
   have h3 : 3 ≤ (s.length : Int) - i := by
    cases hq : ((↑(s.getD i.toNat 0).toNat : Int)) != 37 with
    | true => rw [hq] at hb2; cases hb2
    | false =>
     rw [hq, cond_false, wd] at hb2
     have := of_decide_eq_false hb2
     omega
   have hc : (decide (0 ≤ IntKind.i64.wrap (i + 1)) && decide (IntKind.i64.wrap (i + 1) ≤ IntKind.i64.wrap (i + 3)) && decide (IntKind.i64.wrap (i + 3) ≤ (s.length : Int))) = true := by
    rw [w1, w3, dT (by omega), dT (by omega), dT (by omega)]; rfl
   simp only [hc, cond_true]
theorem mayETold_ok : ∀ xs H k out, mayTold mayEM xs H k = some out → ∃ o, CallOK Tryz.prog 78 xs H o ∧ k o = some out := mkFS_ok fun ys xs e h => by
 obtain ⟨s, i, rfl⟩ : ∃ s i, xs = [.str s, .int .i64 i] := ⟨_, _, e⟩
 have h2 : 0 ≤ i ∧ i < s.length ∧ s.length ≤ 1099511627776 := of_decide_eq_true h
 refine ⟨_, fun k => rfl, layPm_ok.callF (G := []) rfl (fun k => (mayE_fun s i k).trans ?_)⟩
 have ht : (decide (0 ≤ i) && decide (i < (s.length : Int))) = true := by rw [dT h2.1, dT h2.2.1]; rfl
 exact (congrArg (fun c => cond c _ none) ht).trans (cond_true _ _)
def wrG (M : List UInt8 → Int → Bool) (s : List UInt8) (i : Nat) : List (List UInt8) := bif M s i then [[s.getD i 0]] else [[37], hexX (s.getD i 0).toNat 2]
theorem wrG_len (M : List UInt8 → Int → Bool) (s : List UInt8) (i : Nat) : (wrG M s i).flatten.length ≤ 3 := by
 unfold wrG
 have h := hexX_len2 ((s.getD i 0).toNat : Int)
 cases M s i <;> simp only [cond_true, cond_false, List.flatten_cons, List.flatten_nil, List.length_append, List.length_cons, List.length_nil, h] <;> omega
def wrE (M : List UInt8 → Int → Bool) (x : Bld) (s : List UInt8) : Bld := x.adds ((List.range s.length).flatMap (wrG M s))
def wrT (M : List UInt8 → Int → Bool) (s : List UInt8) : List UInt8 := (List.range s.length).flatMap (fun i => (wrG M s i).flatten)
theorem range_flat {β : Type} (f : Nat → List β) (i : Nat) : (List.range (i + 1)).flatMap f = (List.range i).flatMap f ++ f i := by
 rw [List.range_succ, List.flatMap_append]
 simp
theorem layWn0_ok : (layWn0 hexX mayNM repB).OK Tryz.prog := b0_ok (((Lay.nil_ok.addF hexTold_ok).addF mayNTold_ok).addF urpTold_ok)
noncomputable abbrev wnTurn := lturn Tryz.prog (layWn0 hexX mayNM repB) (wrFH 74 (wrE mayNM)) 73 3 [0,1,5,8,9] [] [5] []
theorem wn_rd (s : List UInt8) (y : Bld) (hy : y.can 0 2) (ht : y.t.length ≤ 1073741000) (hl : s.length ≤ 1073741824) (i : Nat) (hi : i < s.length) (D : List (FuncId × List AVal)) (k : Kont) :
 wnTurn (stL 29 [0,1,5,8,9] [.str s, .func 74 [], .ptr (.hp 0) 0, .int .i64 s.length, .int .i64 (i : Nat)] [] [] (b0H.mk y).heap D) k = k .normal (stL 29 [0,1,5,8,9] [.str s, .func 74 [], .ptr (.hp 0) 0, .int .i64 s.length, .int .i64 ((i + 1 : Nat) : Int)] [] [] (b0H.mk (y.adds (wrG mayNM s i))).heap D) := by
 have hb := (s.getD i 0).toNat_lt
 have wn : IntKind.i64.wrap ((s.getD i 0).toNat : Int) = ((s.getD i 0).toNat : Int) := wrap_of (by omega) (by omega)
 have hx := hexX_len ((s.getD i 0).toNat : Int) 2
 have key := wn_step hexX mayNM repB (wrE mayNM) y s s.length i D k _ rfl y.t rfl _ rfl (s.getD i 0) (by simp) _ rfl _ rfl ((s.getD i 0).toNat : Int) (by rw [Int.toNat_natCast]; exact wn.symm) _ rfl (y.add 0 2 [37]).t rfl (hexX (s.getD i 0).toNat 2) rfl _ rfl
 have e1 : IntKind.i64.wrap ((i : Int) + 1) = ((i + 1 : Nat) : Int) := wrap_add1 (by omega)
 refine key.trans ?_
 simp only [e1, dT (show (i : Int) < s.length by omega), dT (show (0 : Int) ≤ (i : Int) by omega), dT (show (0 : Int) ≤ (i : Int) ∧ (i : Int) < s.length ∧ s.length ≤ 1099511627776 by omega), Bool.and_self, cond_true]
 unfold wrG
 cases mayNM s i with
 | true => exact (congrArg (fun c => cond c _ none) (tst_true ⟨⟨hy, by omega⟩, .refl _, by trivial⟩)).trans rfl
 | false =>
  have ht2 : (y.add 0 2 [37]).t.length = y.t.length + 1 := by rw [Bld.add_t, List.length_append]; rfl
  refine (congrArg (fun c => cond c _ none) (tst_true ⟨⟨hy, by omega⟩, .refl _, by trivial⟩)).trans ((cond_true _ _).trans ?_)
  refine (congrArg (fun c => cond c _ none) (dT ⟨by omega, .inl ⟨by trivial, by omega⟩⟩)).trans ((cond_true _ _).trans ?_)
  exact (congrArg (fun c => cond c _ none) (tst_true ⟨⟨Bld.add_can hy [37], by rw [ht2]; omega⟩, .refl _, by trivial⟩)).trans rfl
theorem wnSp_ok : SpOK wnTurn 29 [0,1,5,8,9] [] [5] [] (wrSp 74 (wrE mayNM)) := mkL_ok fun a h => by
 obtain ⟨x, s, i⟩ := a
 obtain ⟨h1, h2, h3, h4⟩ := h
 simp only at h1 h2 h3 h4
 subst h3
 refine ⟨_, _, _, _, fun k => rfl, ?_⟩
 have hc := fun i => Bld.adds_can ((List.range i).flatMap (wrG mayNM s)) h1
 have ht : ∀ i, i < s.length → (x.adds ((List.range i).flatMap (wrG mayNM s))).t.length ≤ 1073741000 := fun i hi => by
  have := flat_len (fun i => (wrG mayNM s i).flatten) 3 (wrG_len mayNM s) (List.range i)
  rw [List.length_range] at this
  rw [Bld.adds_t, flatMap_flatten, List.length_append, h2]
  omega
 exact seq_runs (turn := wnTurn) (n := 29) (l := [0,1,5,8,9]) (m := []) (lx := [5]) (mx := []) (fun i => [.str s, .func 74 [], .ptr (.hp 0) 0, .int .i64 s.length, .int .i64 (i : Nat)]) (fun _ => []) (fun i => (b0H.mk (x.adds ((List.range i).flatMap (wrG mayNM s)))).heap) s.length (e := .exit 0) (by simp)
  (fun i hi D k => by
   refine (wn_rd s _ (hc i) (ht i hi) (by omega) i hi D k).trans ?_
   rw [range_flat, Bld.adds_app])
  (fun D k => by
   refine (wn_step hexX mayNM repB (wrE mayNM) _ s s.length s.length D k _ rfl _ rfl _ rfl _ rfl _ rfl _ rfl _ rfl _ rfl _ rfl _ rfl _ rfl).trans ?_
   rw [dF (show ¬ (s.length : Int) < s.length by omega), cond_false]
   rfl)
theorem layWn_ok : (layWn hexX mayNM repB (wrE mayNM)).OK Tryz.prog := layWn0_ok.loop1 (id := 3) (by kernel_rfl) (by kernel_rfl) (by kernel_rfl) wnSp_ok
def normP (s : List UInt8) : List UInt8 := wrT mayNM (rpP s)
theorem normP_len (s : List UInt8) : (normP s).length ≤ 12 * s.length := by
 have := flat_len (fun i => (wrG mayNM (rpP s) i).flatten) 3 (wrG_len mayNM (rpP s)) (List.range (rpP s).length)
 rw [List.length_range] at this
 have := rpP_len s
 unfold normP wrT
 omega
theorem normP_ok (s : List UInt8) (hs : s.length ≤ 26843545) : CallOK Tryz.prog 44 [.str s] [] (.ret (.str (normP s)) []) := by
 have hr := repB_rp s
 have hl := rpP_len s
 have c1 := Bld.adds_can ((List.range (repB s).length).flatMap (wrG mayNM (repB s))) (Bld.new_can 0 2)
 have t1 : (wrE mayNM Bld.new (repB s)).t = normP s := by
  unfold wrE
  rw [Bld.adds_t, flatMap_flatten, hr]; rfl
 have hl2 := normP_len s
 have key := fun k => (norm_fun hexX mayNM repB (wrE mayNM) s k (wrE mayNM Bld.new (repB s)).t rfl).trans
  ((congrArg (fun c => cond c _ none) (dT (by omega))).trans ((cond_true _ _).trans
  ((congrArg (fun c => cond c _ none) (tst_true ⟨⟨Bld.new_can 0 2, rfl, rfl, by rw [hr]; omega⟩, .refl _, by trivial⟩)).trans ((cond_true _ _).trans
  ((congrArg (fun c => cond c _ none) (tst_true ⟨⟨c1, by rw [t1]; omega⟩, .refl _, by trivial⟩)).trans (cond_true _ _))))))
 rw [← t1]
 exact layWn_ok.callF rfl key
theorem layWe0_ok : (layWe0 hexX mayEM repB).OK Tryz.prog := b0_ok (((Lay.nil_ok.addF hexTold_ok).addF mayETold_ok).addF urpTold_ok)
noncomputable abbrev weTurn := lturn Tryz.prog (layWe0 hexX mayEM repB) (wrFH 78 (wrE mayEM)) 73 3 [0,1,5,8,9] [] [5] []
theorem we_rd (s : List UInt8) (y : Bld) (hy : y.can 0 2) (ht : y.t.length ≤ 1073741000) (hl : s.length ≤ 1073741824) (i : Nat) (hi : i < s.length) (D : List (FuncId × List AVal)) (k : Kont) :
 weTurn (stL 29 [0,1,5,8,9] [.str s, .func 78 [], .ptr (.hp 0) 0, .int .i64 s.length, .int .i64 (i : Nat)] [] [] (b0H.mk y).heap D) k = k .normal (stL 29 [0,1,5,8,9] [.str s, .func 78 [], .ptr (.hp 0) 0, .int .i64 s.length, .int .i64 ((i + 1 : Nat) : Int)] [] [] (b0H.mk (y.adds (wrG mayEM s i))).heap D) := by
 have hb := (s.getD i 0).toNat_lt
 have wn : IntKind.i64.wrap ((s.getD i 0).toNat : Int) = ((s.getD i 0).toNat : Int) := wrap_of (by omega) (by omega)
 have hx := hexX_len ((s.getD i 0).toNat : Int) 2
 have key := we_step hexX mayEM repB (wrE mayEM) y s s.length i D k _ rfl y.t rfl _ rfl (s.getD i 0) (by simp) _ rfl _ rfl ((s.getD i 0).toNat : Int) (by rw [Int.toNat_natCast]; exact wn.symm) _ rfl (y.add 0 2 [37]).t rfl (hexX (s.getD i 0).toNat 2) rfl _ rfl
 have e1 : IntKind.i64.wrap ((i : Int) + 1) = ((i + 1 : Nat) : Int) := wrap_add1 (by omega)
 refine key.trans ?_
 simp only [e1, dT (show (i : Int) < s.length by omega), dT (show (0 : Int) ≤ (i : Int) by omega), dT (show (0 : Int) ≤ (i : Int) ∧ (i : Int) < s.length ∧ s.length ≤ 1099511627776 by omega), Bool.and_self, cond_true]
 unfold wrG
 cases mayEM s i with
 | true => exact (congrArg (fun c => cond c _ none) (tst_true ⟨⟨hy, by omega⟩, .refl _, by trivial⟩)).trans rfl
 | false =>
  have ht2 : (y.add 0 2 [37]).t.length = y.t.length + 1 := by rw [Bld.add_t, List.length_append]; rfl
  refine (congrArg (fun c => cond c _ none) (tst_true ⟨⟨hy, by omega⟩, .refl _, by trivial⟩)).trans ((cond_true _ _).trans ?_)
  refine (congrArg (fun c => cond c _ none) (dT ⟨by omega, .inl ⟨by trivial, by omega⟩⟩)).trans ((cond_true _ _).trans ?_)
  exact (congrArg (fun c => cond c _ none) (tst_true ⟨⟨Bld.add_can hy [37], by rw [ht2]; omega⟩, .refl _, by trivial⟩)).trans rfl
theorem weSp_ok : SpOK weTurn 29 [0,1,5,8,9] [] [5] [] (wrSp 78 (wrE mayEM)) := mkL_ok fun a h => by
 obtain ⟨x, s, i⟩ := a
 obtain ⟨h1, h2, h3, h4⟩ := h
 simp only at h1 h2 h3 h4
 subst h3
 refine ⟨_, _, _, _, fun k => rfl, ?_⟩
 have hc := fun i => Bld.adds_can ((List.range i).flatMap (wrG mayEM s)) h1
 have ht : ∀ i, i < s.length → (x.adds ((List.range i).flatMap (wrG mayEM s))).t.length ≤ 1073741000 := fun i hi => by
  have := flat_len (fun i => (wrG mayEM s i).flatten) 3 (wrG_len mayEM s) (List.range i)
  rw [List.length_range] at this
  rw [Bld.adds_t, flatMap_flatten, List.length_append, h2]
  omega
 exact seq_runs (turn := weTurn) (n := 29) (l := [0,1,5,8,9]) (m := []) (lx := [5]) (mx := []) (fun i => [.str s, .func 78 [], .ptr (.hp 0) 0, .int .i64 s.length, .int .i64 (i : Nat)]) (fun _ => []) (fun i => (b0H.mk (x.adds ((List.range i).flatMap (wrG mayEM s)))).heap) s.length (e := .exit 0) (by simp)
  (fun i hi D k => by
   refine (we_rd s _ (hc i) (ht i hi) (by omega) i hi D k).trans ?_
   rw [range_flat, Bld.adds_app])
  (fun D k => by
   refine (we_step hexX mayEM repB (wrE mayEM) _ s s.length s.length D k _ rfl _ rfl _ rfl _ rfl _ rfl _ rfl _ rfl _ rfl _ rfl _ rfl _ rfl).trans ?_
   rw [dF (show ¬ (s.length : Int) < s.length by omega), cond_false]
   rfl)
theorem layWe_ok : (layWe hexX mayEM repB (wrE mayEM)).OK Tryz.prog := layWe0_ok.loop1 (id := 3) (by kernel_rfl) (by kernel_rfl) (by kernel_rfl) weSp_ok
def pencP (s : List UInt8) : List UInt8 := wrT mayEM (rpP s)
theorem pencP_len (s : List UInt8) : (pencP s).length ≤ 12 * s.length := by
 have := flat_len (fun i => (wrG mayEM (rpP s) i).flatten) 3 (wrG_len mayEM (rpP s)) (List.range (rpP s).length)
 rw [List.length_range] at this
 have := rpP_len s
 unfold pencP wrT
 omega
theorem pencP_ok (s : List UInt8) (hs : s.length ≤ 26843545) : CallOK Tryz.prog 45 [.str s] [] (.ret (.str (pencP s)) []) := by
 have hr := repB_rp s
 have hl := rpP_len s
 have c1 := Bld.adds_can ((List.range (repB s).length).flatMap (wrG mayEM (repB s))) (Bld.new_can 0 2)
 have t1 : (wrE mayEM Bld.new (repB s)).t = pencP s := by
  unfold wrE
  rw [Bld.adds_t, flatMap_flatten, hr]; rfl
 have hl2 := pencP_len s
 have key := fun k => (penc_fun hexX mayEM repB (wrE mayEM) s k (wrE mayEM Bld.new (repB s)).t rfl).trans
  ((congrArg (fun c => cond c _ none) (dT (by omega))).trans ((cond_true _ _).trans
  ((congrArg (fun c => cond c _ none) (tst_true ⟨⟨Bld.new_can 0 2, rfl, rfl, by rw [hr]; omega⟩, .refl _, by trivial⟩)).trans ((cond_true _ _).trans
  ((congrArg (fun c => cond c _ none) (tst_true ⟨⟨c1, by rw [t1]; omega⟩, .refl _, by trivial⟩)).trans (cond_true _ _))))))
 rw [← t1]
 exact layWe_ok.callF rfl key
end Go.Mu
namespace Go.Mu
open Go Go.Proofs Go.RowKit Go.Shelf
theorem CallOK.freshW {P : Program} {f : FuncId} {xs : List AVal} {H : Heap} {v : AVal} (h : ∀ w E (cs : List Value), Sim w E H → cs.length = xs.length → (∀ j, j < xs.length → Rep w E H (xs.getD j .undef) (cs.getD j undef)) →
 Calls P f cs.toArray w (fun e w' => ∃ (Q : Nat → Prop) (c : Value), e = .returned c ∧ Below w.heap.size w w' ∧ (∀ b, Q b → w.heap.size ≤ b ∧ b < w'.heap.size) ∧ RepP w' (fun x => E.imm x ∨ Q x) v c)) : CallOK P f xs H (.ret v H) := by
 intro w E cs sim hl hr
 refine Calls.mono (h w E cs sim hl hr) (fun e w' hp => ?_)
 obtain ⟨Q, c, rfl, hb, hq, h2⟩ := hp
 obtain ⟨ev, sim'⟩ := sim.freshV hb hq
 exact ⟨_, ev, sim', .pure _ _ h2⟩
theorem uch_ok (s : List UInt8) (hs : s.length ≤ 1099511627776) : CallOK Tryz.prog 67 [.str s] [] (.ret (encL false ucRow 0 (chP s)) []) := by
 refine CallOK.freshW (fun w E cs sim hl hr => ?_)
 obtain ⟨x, rfl⟩ : ∃ x, cs = [x] := by
  match cs, hl with
  | [x], _ => exact ⟨x, rfl⟩
 obtain ⟨b, e1, e2⟩ := rep_str (hr 0 (by simp))
 replace e1 : x = .string b := e1
 subst e1
 rw [ba_eq e2]
 have hsz : (ba s).size = s.length := ba_size s
 refine (uChars (ba s) w (by omega) (fun t W _ hb => uDec t w W sim.glob sim.immLt hb)).mono fun e w' ⟨v, he, ho, hb⟩ => ?_
 rw [hsz] at ho
 have hch : chF s.length (ba s) = chP s := rfl
 rw [hch] at ho
 obtain ⟨h0, h1⟩ := ho
 rcases h1 with ⟨rfl, hn⟩ | ⟨g, cap, cur, rfl, hg, hblk, hcap, _, hcs, htk⟩
 · refine ⟨fun _ => False, _, he, hb, fun b hb => hb.elim, ?_⟩
   have : chP s = [] := List.eq_nil_of_length_eq_zero hn
   rw [this]
   exact .list0 _ _ _ _ (fun h => by cases h)
 · refine ⟨fun b => b = g, _, he, hb, fun b e => ?_, ?_⟩
   · subst e; exact ⟨hg, (Array.getElem?_eq_some_iff.1 hblk).1⟩
   · unfold encL
     refine .list false _ _ g 0 cap 1 (fun i j => .int .i64 ((chP s).getD i 0)) hcap (fun h => by cases h) (.inr rfl) (fun i hi => rfl) (fun i j hi hj => ?_) (fun i j hi hj => ?_)
     · have hj0 : j = 0 := by omega
       subst hj0
       refine ⟨?_, rfl⟩
       have e6 : 0 + i * 1 + 0 = i := by omega
       have hc2 : cur.toList[i]? = some (.int .i64 ((chP s).getD i 0)) := by
        have := congrArg (fun l => l[i]?) htk
        simp only [List.getElem?_take, List.getElem?_map] at this
        rw [if_pos (by omega), List.getElem?_eq_getElem hi] at this
        rw [this, List.getD_eq_getElem?_getD, List.getElem?_eq_getElem hi]
        rfl
       rw [e6]
       unfold World.cell?
       rw [hblk]
       simpa using hc2
     · have hj0 : j = 0 := by omega
       subst hj0
       exact .int .i64 _
theorem uchTold_ok : ∀ xs H k out, uchTold chP xs H k = some out → ∃ o, CallOK Tryz.prog 67 xs H o ∧ k o = some out := mkFS_ok fun ys xs e h => by
 obtain ⟨s, rfl⟩ : ∃ s, xs = [.str s] := ⟨_, e⟩
 exact ⟨_, fun k => rfl, uch_ok s (of_decide_eq_true h)⟩
end Go.Mu
namespace Go.Mu
open Go Go.Proofs
def plnM (n : Int) : Bool := bif decide (n < 128) then
          bif
           bif bif decide (IntKind.u8.wrap (↑(BitVec.ofInt 8 (IntKind.u8.wrap n) ||| BitVec.ofInt 8 32).toNat : Int) ≥ 97) then decide (IntKind.u8.wrap (↑(BitVec.ofInt 8 (IntKind.u8.wrap n) ||| BitVec.ofInt 8 32).toNat : Int) ≤ 122) else false then true
           else bif decide (n ≥ 48) then decide (n ≤ 57) else false then
           true
          else decide (ibM [32, 95, 46, 44] (IntKind.u8.wrap n) ≥ 0)
 else false
theorem layPl_ok : layPl.OK Tryz.prog := Lay.nil_ok.addF ibTold_ok
theorem plnTold_ok : ∀ xs H k out, plnTold plnM xs H k = some out → ∃ o, CallOK Tryz.prog 68 xs H o ∧ k o = some out := mkFS_ok fun ys xs e h => by
 obtain ⟨n, rfl⟩ : ∃ n, xs = [.int .i64 n] := ⟨_, e⟩
 exact ⟨_, fun k => rfl, layPl_ok.callF (G := []) rfl (fun k => pln_fun n k)⟩
theorem layLq0_ok : (layLq0 hexX plnM chP).OK Tryz.prog := b0_ok (((Lay.nil_ok.addF hexTold_ok).addF plnTold_ok).addF uchTold_ok)
def qHi (c : Int) : Int := IntKind.i64.wrap (55296 + (IntKind.i64.wrap (c - 65536)).fdiv 1024)
def qLo (c : Int) : Int := IntKind.i64.wrap (56320 + IntKind.i64.wrap (↑(BitVec.ofInt 64 (IntKind.i64.wrap (c - 65536)) &&& BitVec.ofInt 64 1023).toNat : Int))
theorem qHi_is (c : Int) (h1 : 65535 < c) (h2 : c ≤ 1114111) : qHi c = 55296 + (c - 65536) / 1024 := by
 unfold qHi
 rw [wrap_of (n := c - 65536) (by omega) (by omega), Int.fdiv_eq_ediv_of_nonneg _ (by decide), wrap_of (by omega) (by omega)]
theorem qLo_is (c : Int) (h1 : 65535 < c) (h2 : c ≤ 1114111) : qLo c = 56320 + (c - 65536) % 1024 := by
 unfold qLo
 rw [wrap_of (n := c - 65536) (by omega) (by omega)]
 obtain ⟨m, hm⟩ : ∃ m : Nat, c - 65536 = m := ⟨(c - 65536).toNat, by omega⟩
 rw [hm]
 have e : (BitVec.ofInt 64 (m : Int) &&& BitVec.ofInt 64 1023).toNat = m % 1024 := by
  rw [BitVec.toNat_and, BitVec.toNat_ofInt, BitVec.toNat_ofInt]
  have h3 : ((m : Int) % ((2 ^ 64 : Nat) : Int)).toNat = m := by omega
  have h4 : ((1023 : Int) % ((2 ^ 64 : Nat) : Int)).toNat = 2 ^ 10 - 1 := by decide
  rw [h3, h4, Nat.and_two_pow_sub_one_eq_mod]
 rw [e]
 rw [wrap_of (n := ((m % 1024 : Nat) : Int)) (by omega) (by omega), wrap_of (by omega) (by omega)]
 omega
def qB (c : Int) : List (List UInt8) := bif plnM c then [[UInt8.ofNat (IntKind.u8.wrap c).toNat]] else bif decide (c > 65535) then [[92, 117], hexX (qHi c) 4, [92, 117], hexX (qLo c) 4] else [[92, 117], hexX c 4]
theorem qB_len (c : Int) : (qB c).flatten.length ≤ 12 := by
 unfold qB
 have h1 := hexX_len (qHi c) 4
 have h2 := hexX_len (qLo c) 4
 have h3 := hexX_len c 4
 cases plnM c
 · cases decide (c > 65535) <;> simp <;> omega
 · simp
def lqE (x : Bld) (l : List Int) : Bld := x.adds (l.flatMap qB)
noncomputable abbrev lqTurn := lturn Tryz.prog (layLq0 hexX plnM chP) (lqFH lqE) 40 4 [3,8,9,10] [] [3] []
theorem lq_rd (f : Bool) (l : List Int) (y : Bld) (hy : y.can 0 2) (ht : y.t.length ≤ 1073741000) (hl : l.length ≤ 1073741824) (i : Nat) (hi : i < l.length) (hc : 0 ≤ l.getD i 0 ∧ l.getD i 0 ≤ 1114111) (D : List (FuncId × List AVal)) (k : Kont) :
 lqTurn (stL 38 [3,8,9,10] [.ptr (.hp 0) 0, encL f ucRow 0 l, .int .i64 l.length, .int .i64 (i : Nat)] [] [] (b0H.mk y).heap D) k = k .normal (stL 38 [3,8,9,10] [.ptr (.hp 0) 0, encL f ucRow 0 l, .int .i64 l.length, .int .i64 ((i + 1 : Nat) : Int)] [] [] (b0H.mk (y.adds (qB (l.getD i 0)))).heap D) := by
 have key := lq_step hexX plnM chP lqE y f l l.length i D k (l.getD i 0) (by rw [Int.toNat_natCast]) y.t rfl _ rfl _ rfl _ rfl _ rfl _ rfl _ rfl _ rfl _ rfl _ rfl (y.add 0 2 [92, 117]).t rfl _ rfl (hexX (qHi (l.getD i 0)) 4) rfl _ rfl ((y.add 0 2 [92, 117]).add 0 2 (hexX (qHi (l.getD i 0)) 4)).t rfl (qLo (l.getD i 0)) rfl _ rfl (((y.add 0 2 [92, 117]).add 0 2 (hexX (qHi (l.getD i 0)) 4)).add 0 2 [92, 117]).t rfl (hexX (qLo (l.getD i 0)) 4) rfl _ rfl (hexX (l.getD i 0) 4) rfl _ rfl
 have e1 : IntKind.i64.wrap ((i : Int) + 1) = ((i + 1 : Nat) : Int) := wrap_add1 (by omega)
 refine key.trans ?_
 clear key
 simp only [e1, dT (show (i : Int) < l.length by omega), dT (show (0 : Int) ≤ (i : Int) by omega), Bool.and_self, cond_true]
 generalize l.getD i 0 = c at hc ⊢
 have h1 := hexX_len (qHi c) 4
 have h2 := hexX_len (qLo c) 4
 have h3 := hexX_len c 4
 have a1 : (y.add 0 2 [92, 117]).t.length = y.t.length + 2 := by rw [Bld.add_t, List.length_append]; rfl
 have a2 : ((y.add 0 2 [92, 117]).add 0 2 (hexX (qHi c) 4)).t.length = y.t.length + 2 + (hexX (qHi c) 4).length := by rw [Bld.add_t, List.length_append, a1]
 have a3 : (((y.add 0 2 [92, 117]).add 0 2 (hexX (qHi c) 4)).add 0 2 [92, 117]).t.length = y.t.length + 2 + (hexX (qHi c) 4).length + 2 := by rw [Bld.add_t, List.length_append, a2]; rfl
 unfold qB
 cases plnM c with
 | true =>
  have hw : IntKind.u8.wrap c = ((UInt8.ofNat (IntKind.u8.wrap c).toNat).toNat : Int) := by
   have e : IntKind.u8.wrap c = c % 256 := by simp [IntKind.wrap, IntKind.signed, IntKind.bits]
   rw [e, UInt8.toNat_ofNat']
   omega
  exact (congrArg (fun c => cond c _ none) (tst_true ⟨⟨hy, by omega⟩, .cons (.refl _) (.cons (by rw [← hw]; exact .refl _) (.refl _)), by trivial⟩)).trans rfl
 | false =>
  simp only [cond_false]
  by_cases hb : c > 65535
  · have b1 := qHi_is c hb hc.2
    have b2 := qLo_is c hb hc.2
    rw [dT hb, cond_true, cond_true]
    refine (congrArg (fun c => cond c _ none) (tst_true ⟨⟨hy, by omega⟩, .refl _, by trivial⟩)).trans ((cond_true _ _).trans ?_)
    refine (congrArg (fun c => cond c _ none) (dT ⟨(by show 0 ≤ qHi c; omega), .inr ⟨by trivial, (by show qHi c ≤ 65535; omega)⟩⟩)).trans ((cond_true _ _).trans ?_)
    refine (congrArg (fun c => cond c _ none) (tst_true ⟨⟨Bld.add_can hy [92, 117], by omega⟩, .refl _, by trivial⟩)).trans ((cond_true _ _).trans ?_)
    refine (congrArg (fun c => cond c _ none) (tst_true ⟨⟨Bld.add_can (Bld.add_can hy [92, 117]) (hexX (qHi c) 4), by omega⟩, .refl _, by trivial⟩)).trans ((cond_true _ _).trans ?_)
    refine (congrArg (fun c => cond c _ none) (dT ⟨(by show 0 ≤ qLo c; omega), .inr ⟨by trivial, (by show qLo c ≤ 65535; omega)⟩⟩)).trans ((cond_true _ _).trans ?_)
    exact (congrArg (fun c => cond c _ none) (tst_true ⟨⟨Bld.add_can (Bld.add_can (Bld.add_can hy [92, 117]) (hexX (qHi c) 4)) [92, 117], by omega⟩, .refl _, by trivial⟩)).trans rfl
  · rw [dF hb, cond_false, cond_false]
    refine (congrArg (fun c => cond c _ none) (tst_true ⟨⟨hy, by omega⟩, .refl _, by trivial⟩)).trans ((cond_true _ _).trans ?_)
    refine (congrArg (fun c => cond c _ none) (dT ⟨(by omega), .inr ⟨by trivial, (by omega)⟩⟩)).trans ((cond_true _ _).trans ?_)
    exact (congrArg (fun c => cond c _ none) (tst_true ⟨⟨Bld.add_can hy [92, 117], by omega⟩, .refl _, by trivial⟩)).trans rfl
theorem lqSp_ok : SpOK lqTurn 38 [3,8,9,10] [] [3] [] (lqSp lqE) := mkL_ok fun a h => by
 obtain ⟨x, l, i, f⟩ := a
 obtain ⟨h1, h2, h3, h4, h5⟩ := h
 simp only at h1 h2 h3 h4 h5
 subst h3
 refine ⟨_, _, _, _, fun k => rfl, ?_⟩
 have hc := fun i => Bld.adds_can ((l.take i).flatMap qB) h1
 have ht : ∀ i, i < l.length → (x.adds ((l.take i).flatMap qB)).t.length ≤ 1073741000 := fun i hi => by
  have := flat_len_take (fun c => (qB c).flatten) 12 qB_len l i
  rw [Bld.adds_t, flatMap_flatten, List.length_append, h2]
  omega
 have key := seq_runs (turn := lqTurn) (n := 38) (l := [3,8,9,10]) (m := []) (lx := [3]) (mx := []) (fun i => [.ptr (.hp 0) 0, encL f ucRow 0 l, .int .i64 l.length, .int .i64 (i : Nat)]) (fun _ => []) (fun i => (b0H.mk (x.adds ((l.take i).flatMap qB))).heap) l.length (e := .exit 0) (by simp)
  (fun i hi D k => by
   refine (lq_rd f l _ (hc i) (ht i hi) (by omega) i hi (h5 _ (by rw [List.getD_eq_getElem?_getD, List.getElem?_eq_getElem hi]; exact List.getElem_mem hi)) D k).trans ?_
   rw [take_flat l 0 qB i hi, Bld.adds_app])
  (fun D k => by
   refine (lq_step hexX plnM chP lqE _ f l l.length l.length D k _ rfl _ rfl _ rfl _ rfl _ rfl _ rfl _ rfl _ rfl _ rfl _ rfl _ rfl _ rfl _ rfl _ rfl _ rfl _ rfl _ rfl _ rfl _ rfl _ rfl _ rfl _ rfl _ rfl).trans ?_
   rw [dF (show ¬ (l.length : Int) < l.length by omega), cond_false])
 rw [List.take_of_length_le (Nat.le_refl _)] at key
 exact key
theorem layLq_ok : (layLq hexX plnM chP lqE).OK Tryz.prog := layLq0_ok.loop1 (id := 4) (by kernel_rfl) (by kernel_rfl) (by kernel_rfl) lqSp_ok
def qT (l : List Int) : List UInt8 := l.flatMap (fun c => (qB c).flatten)
def quoP (s : List UInt8) : List UInt8 := [34] ++ qT (chP s) ++ [34]
theorem qT_len (l : List Int) : (qT l).length ≤ 12 * l.length := flat_len _ 12 qB_len l
theorem quoP_len (s : List UInt8) : (quoP s).length ≤ 12 * s.length + 2 := by
 have := qT_len (chP s)
 have := chP_len s
 unfold quoP
 simp
 omega
theorem quo_ok (s : List UInt8) (hs : s.length ≤ 26843545) : CallOK Tryz.prog 40 [.str s] [] (.ret (.str (quoP s)) []) := by
 have hd : decL (fun (r : List AVal) => intOf (r.getD 0 AVal.undef)) (AVal.list false (chP s).length fun (i : Nat) => ucRow ((chP s).getD i 0)) = chP s := decL_encL (fun a => rfl) _
 have hl := chP_len s
 have hq := qT_len (chP s)
 have c0 : (Bld.new.add 0 2 [34]).can 0 2 := Bld.add_can (Bld.new_can 0 2) [34]
 have c1 : (lqE (Bld.new.add 0 2 [34]) (chP s)).can 0 2 := Bld.adds_can ((chP s).flatMap qB) c0
 have c2 := Bld.add_can c1 [34]
 have t1 : (lqE (Bld.new.add 0 2 [34]) (chP s)).t = [34] ++ qT (chP s) := by
  unfold lqE
  rw [Bld.adds_t, flatMap_flatten, Bld.add_t]; rfl
 have t2 : ((lqE (Bld.new.add 0 2 [34]) (chP s)).add 0 2 [34]).t = quoP s := by rw [Bld.add_t, t1]; rfl
 have l1 : (lqE (Bld.new.add 0 2 [34]) (chP s)).t.length ≤ 1073741000 := by rw [t1]; simp; omega
 have l2 : ((lqE (Bld.new.add 0 2 [34]) (chP s)).add 0 2 [34]).t.length ≤ 1073741824 := by rw [Bld.add_t, List.length_append]; simp only [List.length_singleton]; omega
 have huc : okUc (chP s) := fun c hc => by
  have := chP_ok s c hc
  omega
 have key := fun k => lquote_fun hexX plnM chP lqE s k (chP s).length (by rw [hd]) (lqE (Bld.new.add 0 2 [34]) (chP s)).v (by rw [hd]; rfl) (lqE (Bld.new.add 0 2 [34]) (chP s)).t (by rw [hd]; rfl) _ rfl ((lqE (Bld.new.add 0 2 [34]) (chP s)).add 0 2 [34]).t (by rw [hd]; rfl)
 simp only [hd] at key
 replace key := fun k => (key k).trans
  ((congrArg (fun c => cond c _ none) (tst_true ⟨⟨Bld.new_can 0 2, by omega⟩, .refl _, by trivial⟩)).trans ((cond_true _ _).trans
  ((congrArg (fun c => cond c _ none) (dT (by omega))).trans ((cond_true _ _).trans
  ((congrArg (fun c => cond c _ none) (tst_true ⟨⟨c0, by trivial, by trivial, by omega, huc⟩, .refl _, by trivial⟩)).trans ((cond_true _ _).trans
  ((congrArg (fun c => cond c _ none) (tst_true ⟨⟨c1, by omega⟩, .refl _, by trivial⟩)).trans ((cond_true _ _).trans
  ((congrArg (fun c => cond c _ none) (tst_true ⟨⟨c2, by omega⟩, .refl _, by trivial⟩)).trans (cond_true _ _))))))))))
 rw [← t2]
 exact layLq_ok.callF rfl key
theorem quoTold_ok : ∀ xs H k out, pescTold quoP xs H k = some out → ∃ o, CallOK Tryz.prog 40 xs H o ∧ k o = some out := mkFS_ok fun ys xs e h => by
 obtain ⟨s, rfl⟩ : ∃ s, xs = [.str s] := ⟨_, e⟩
 exact ⟨_, fun k => rfl, quo_ok s (of_decide_eq_true h)⟩
end Go.Mu
namespace Go.Mu
open Go Go.Proofs
def oBad (c : UInt8) : Bool := cond (cond (!cond (decide (IntKind.u8.wrap (BitVec.ofInt 8 (c.toNat : Int) ||| BitVec.ofInt 8 32).toNat ≥ 97)) (decide (IntKind.u8.wrap (BitVec.ofInt 8 (c.toNat : Int) ||| BitVec.ofInt 8 32).toNat ≤ 122)) false) ((c.toNat : Int) != 95) false)
 (cond (decide ((c.toNat : Int) < 48)) true (decide ((c.toNat : Int) > 57))) false
def oIdxFH : FH := .of [(2, loopSpec 19 [0,1,7,8] [] [4] [] (idxSp wfB decB oBad 124))]
theorem oIdx_step (full : Bool) (l : List UInt8) (i : Nat) (H : Heap) (D : List (FuncId × List AVal)) (k : Kont) : lturn Tryz.prog Lay.nil oIdxFH 130 2 [0,1,7,8] [] [4] [] (stL 19 [0,1,7,8] [encL full byteRow 0 l, .func 124 [], .int .i64 l.length, .int .i64 i] [] [] H D) k =
 cond (decide ((i : Int) < l.length)) (cond (decide ((i : Int) < l.length)) (cond (oBad (l.getD (i : Int).toNat 0)) (k .ret (stL 19 [4] [.int .i64 i] [] [] H D)) (k .normal (stL 19 [0,1,7,8] [encL full byteRow 0 l, .func 124 [], .int .i64 l.length, .int .i64 (IntKind.i64.wrap ((i : Int) + 1))] [] [] H D))) none)
  (k (.exit 0) (stL 19 [4] [.undef] [] [] H D)) := by kernel_rfl
def layA : Lay := Lay.nil.addL 130 oIdxFH
theorem layA_ok : layA.OK Tryz.prog := Lay.nil_ok.loop1 (id := 2) (by kernel_rfl) (by kernel_rfl) (by kernel_rfl) (idxSp_ok wfB_sub oIdx_step)
def rBadA (c : UInt8) : Bool := cond (!cond (cond (decide ((c.toNat : Int) ≥ 97)) (decide ((c.toNat : Int) ≤ 122)) false) true (cond (decide ((c.toNat : Int) ≥ 65)) (decide ((c.toNat : Int) ≤ 90)) false)) ((c.toNat : Int) != 95) false
def rDig (c : UInt8) : Bool := cond (decide ((c.toNat : Int) ≥ 48)) (decide ((c.toNat : Int) ≤ 57)) false
theorem oBad_eq (c : UInt8) : oBad c = (rBadA c && !rDig c) := by
 have h : ∀ n : Fin 256, oBad (UInt8.ofNat n) = (rBadA (UInt8.ofNat n) && !rDig (UInt8.ofNat n)) := by decide +kernel
 have := h ⟨c.toNat, c.toNat_lt⟩
 simpa using this
theorem rDig_bad (c : UInt8) : (rDig c || oBad c) = rBadA c := by
 have h : ∀ n : Fin 256, (rDig (UInt8.ofNat n) || oBad (UInt8.ofNat n)) = rBadA (UInt8.ofNat n) := by decide +kernel
 have := h ⟨c.toNat, c.toNat_lt⟩
 simpa using this
def nmHit (s : List UInt8) (i : Nat) : Bool := rBadA (s.getD i 0) && (i == 0 || !rDig (s.getD i 0))
def nameB (s : List UInt8) : Bool := decide (1 ≤ s.length ∧ s.length ≤ 32) && !(List.range s.length).any (nmHit s)
theorem nmHit_any (c : UInt8) (t : List UInt8) : (List.range (c :: t).length).any (nmHit (c :: t)) = (rBadA c || t.any oBad) := by
 rw [List.length_cons, List.range_succ_eq_map, List.any_cons, List.any_map]
 have h0 : nmHit (c :: t) 0 = rBadA c := by simp [nmHit]
 have h1 : (nmHit (c :: t) ∘ Nat.succ) = fun i => oBad (t.getD i 0) := by
  funext i
  simp [nmHit, oBad_eq, List.getD_eq_getElem?_getD]
 rw [h0, h1, any_getD]
def rNameSp : LSp := fun vs bs H k => match vs with
 | [.str s, .int .i64 z] => cond (z == 0 && decide (s.length ≤ 4611686018427387903) && bs.isEmpty) (cond ((List.range s.length).any (nmHit s)) (k .ret [.str s, .bool false] [] H) (k (.exit 0) [.str s, .undef] [] H)) none
 | _ => none
def rNameFH : FH := .of [(2, loopSpec 40 [0,3] [] [0,2] [] rNameSp)]
noncomputable abbrev rNameTurn := lturn Tryz.prog layA rNameFH 61 2 [0,3] [] [0,2] []
theorem rName_step0 (i : Nat) (s : List UInt8) (H : Heap) (D : List (FuncId × List AVal)) (k : Kont) : rNameTurn (stL 40 [0,3] [.str s, .int .i64 i] [] [] H D) k =
 cond (decide ((i : Int) < s.length)) (cond (decide ((i : Int) < s.length))
  (cond (decide ((i : Int) < s.length) || !!cond (cond (decide (((s.getD (i : Int).toNat 0).toNat : Int) ≥ 97)) (decide (((s.getD (i : Int).toNat 0).toNat : Int) ≤ 122)) false) true (cond (decide (((s.getD (i : Int).toNat 0).toNat : Int) ≥ 65)) (decide (((s.getD (i : Int).toNat 0).toNat : Int) ≤ 90)) false))
   (cond (decide ((i : Int) < s.length) || !(rBadA (s.getD (i : Int).toNat 0) && !((i : Int) == 0)))
    (cond (cond (rBadA (s.getD (i : Int).toNat 0)) (cond ((i : Int) == 0) true (!rDig (s.getD (i : Int).toNat 0))) false) (k .ret (stL 40 [0,2] [.str s, .bool false] [] [] H D)) (k .normal (stL 40 [0,3] [.str s, .int .i64 (IntKind.i64.wrap ((i : Int) + 1))] [] [] H D)))
    none) none) none)
 (k (.exit 0) (stL 40 [0,2] [.str s, .undef] [] [] H D)) := by kernel_rfl
theorem rName_step (i : Nat) (s : List UInt8) (H : Heap) (D : List (FuncId × List AVal)) (k : Kont) (hi : i < s.length) (hs : s.length ≤ 4611686018427387903) : rNameTurn (stL 40 [0,3] [.str s, .int .i64 i] [] [] H D) k =
 cond (nmHit s i) (k .ret (stL 40 [0,2] [.str s, .bool false] [] [] H D)) (k .normal (stL 40 [0,3] [.str s, .int .i64 ((i + 1 : Nat) : Int)] [] [] H D)) := by
 rw [rName_step0, decide_eq_true (show (i : Int) < s.length by omega), wrap_add1 (by omega)]
 have e : ((i : Int) == 0) = (i == 0) := by
  rw [Bool.eq_iff_iff]; simp
 simp only [e, nmHit, Int.toNat_natCast, Bool.true_or, cond_true]
 cases rBadA (s.getD i 0) <;> cases (i == 0) <;> cases rDig (s.getD i 0) <;> rfl
theorem rNameSp_ok : SpOK rNameTurn 40 [0,3] [] [0,2] [] rNameSp := by
 intro vs bs H k out ho
 unfold rNameSp at ho
 split at ho
 case h_2 => simp at ho
 rename_i s z
 rw [Bool.cond_eq_ite] at ho
 split at ho
 case isFalse => simp at ho
 rename_i hc
 simp only [Bool.and_eq_true, beq_iff_eq, decide_eq_true_eq, List.isEmpty_iff] at hc
 obtain ⟨⟨rfl, hn⟩, rfl⟩ := hc
 have hrun := fun D k => search_any (turn := rNameTurn) (S := fun i => stL 40 [0,3] [.str s, .int .i64 (i : Nat)] [] [] H D) (hit := nmHit s) (n := s.length) (e0 := .exit 0) (e1 := .ret) (R0 := stL 40 [0,2] [.str s, .undef] [] [] H D) (R1 := stL 40 [0,2] [.str s, .bool false] [] [] H D)
  (fun i k hi => rName_step i s H D k hi hn) (fun k => by rw [rName_step0, decide_eq_false (by omega)]; rfl) (by simp) (by simp) k
 cases ha : (List.range s.length).any (nmHit s) with
 | true =>
  rw [ha] at ho
  exact ⟨_, _, _, _, _, _, .refl _, ⟨_, fun D k => (hrun D k).trans (by rw [ha]; rfl)⟩, .refl _, ho⟩
 | false =>
  rw [ha] at ho
  exact ⟨_, _, _, _, _, _, .refl _, ⟨_, fun D k => (hrun D k).trans (by rw [ha]; rfl)⟩, .refl _, ho⟩
def layB : Lay := layA.addL 61 rNameFH
theorem layB_ok : layB.OK Tryz.prog := layA_ok.loop1 (id := 2) (by kernel_rfl) (by kernel_rfl) (by kernel_rfl) rNameSp_ok
theorem rName_fun (s : List UInt8) (k : Out → Ans) : iFun Tryz.prog (layB.hd Tryz.prog) layB.fhs 0 61 [.str s] [] k =
 cond (true && decide (s.length ≤ 4611686018427387903) && true) (cond ((List.range s.length).any (nmHit s)) (k (.ret (.bool false) [])) (k (.ret (.bool (cond (decide ((s.length : Int) ≥ 1)) (decide ((s.length : Int) ≤ 32)) false)) []))) none := by kernel_rfl
theorem oName_fun (s : List UInt8) (k : Out → Ans) : iFun Tryz.prog (layB.hd Tryz.prog) layB.fhs 0 97 [.str s] [] k =
 cond (decide ((0 : Int) < s.length) || !!cond (s == []) true (decide ((s.length : Int) > 32)))
  (cond (decide ((0 : Int) < s.length) || !((!cond (s == []) true (decide ((s.length : Int) > 32))) && decide (((s.getD 0 0).toNat : Int) ≥ 48)))
   (cond (cond (cond (s == []) true (decide ((s.length : Int) > 32))) true (rDig (s.getD 0 0))) (k (.ret (.bool false) []))
    (cond (wfL wfB (encL false byteRow 0 s) && true && ((s.length : Int) == s.length) && true && decide (s.length ≤ 1099511627776) && true)
     (cond ((decL decB (encL false byteRow 0 s)).any oBad) (k (.ret (.bool false) [])) (k (.ret (.bool true) []))) none)) none) none := by kernel_rfl
theorem oName_call (s : List UInt8) (k : Out → Ans) : iFun Tryz.prog (layB.hd Tryz.prog) layB.fhs 0 97 [.str s] [] k = k (.ret (.bool (nameB s)) []) := by
 rw [oName_fun, wfL_encL wfB_enc, decL_encL decB_enc]
 cases s with
 | nil => rfl
 | cons c t =>
  have h0 : decide ((0 : Int) < ((c :: t).length : Int)) = true := by simp
  have h1 : ((c :: t) == []) = false := rfl
  rw [h0, h1]
  unfold nameB
  rw [nmHit_any]
  by_cases hl : (c :: t).length ≤ 32
  · rw [decide_eq_false (show ¬ (((c :: t).length : Int) > 32) by omega), decide_eq_true (show 1 ≤ (c :: t).length ∧ (c :: t).length ≤ 32 from ⟨by simp, hl⟩), decide_eq_true (show (c :: t).length ≤ 1099511627776 by omega)]
    simp only [List.getD_cons_zero, List.any_cons, beq_self_eq_true, Bool.true_or, Bool.and_self, cond_true, cond_false, Bool.true_and]
    rw [← rDig_bad c]
    cases rDig c <;> cases oBad c <;> cases t.any oBad <;> rfl
  · rw [decide_eq_true (show (((c :: t).length : Int) > 32) by omega), decide_eq_false (show ¬ (1 ≤ (c :: t).length ∧ (c :: t).length ≤ 32) from fun h => hl h.2)]
    rfl
theorem rName_call (s : List UInt8) (hs : s.length ≤ 4611686018427387903) (k : Out → Ans) : iFun Tryz.prog (layB.hd Tryz.prog) layB.fhs 0 61 [.str s] [] k = k (.ret (.bool (nameB s)) []) := by
 rw [rName_fun, decide_eq_true hs]
 unfold nameB
 have e : cond (decide ((s.length : Int) ≥ 1)) (decide ((s.length : Int) ≤ 32)) false = decide (1 ≤ s.length ∧ s.length ≤ 32) := by
  by_cases h1 : 1 ≤ s.length
  · rw [decide_eq_true (show (s.length : Int) ≥ 1 by omega)]
    by_cases h2 : s.length ≤ 32
    · rw [decide_eq_true (show (s.length : Int) ≤ 32 by omega), decide_eq_true ⟨h1, h2⟩]; rfl
    · rw [decide_eq_false (show ¬ (s.length : Int) ≤ 32 by omega), decide_eq_false (show ¬ (1 ≤ s.length ∧ s.length ≤ 32) from fun h => h2 h.2)]; rfl
  · rw [decide_eq_false (show ¬ (s.length : Int) ≥ 1 by omega), decide_eq_false (show ¬ (1 ≤ s.length ∧ s.length ≤ 32) from fun h => h1 h.1)]; rfl
 rw [e]
 cases (List.range s.length).any (nmHit s) <;> cases decide (1 ≤ s.length ∧ s.length ≤ 32) <;> rfl
end Go.Mu
namespace Go.Mu
open Go Go.Proofs
structure ArgD where
 kind : Int
 name : List UInt8
 pf : Bool
 path : List (List UInt8)
 int : Int
 text : List UInt8
def oNameTold : FSp := fun xs H k => match xs, H with
 | [.str s], [] => k (.ret (.bool (nameB s)) [])
 | _, _ => none
def rNameTold : FSp := fun xs H k => match xs, H with
 | [.str s], [] => cond (decide (s.length ≤ 4611686018427387903)) (k (.ret (.bool (nameB s)) [])) none
 | _, _ => none
theorem oNameTold_ok (xs : List AVal) (H : Heap) (k : Out → Ans) (out : Out) (ho : oNameTold xs H k = some out) : ∃ o, CallOK Tryz.prog 97 xs H o ∧ k o = some out := by
 unfold oNameTold at ho
 split at ho
 · exact ⟨_, layB_ok.call (oName_call _), ho⟩
 · simp at ho
theorem rNameTold_ok (xs : List AVal) (H : Heap) (k : Out → Ans) (out : Out) (ho : rNameTold xs H k = some out) : ∃ o, CallOK Tryz.prog 61 xs H o ∧ k o = some out := by
 unfold rNameTold at ho
 split at ho
 · rw [Bool.cond_eq_ite] at ho
   split at ho
   · rename_i hs; exact ⟨_, layB_ok.call (rName_call _ (of_decide_eq_true hs)), ho⟩
   · simp at ho
 · simp at ho
end Go.Mu
namespace Go.Mu
open Go Go.Proofs
structure VaD where
 kind : Int
 int : Int
 text : List UInt8
 lf : Bool
 ln : Nat
 lr : Nat → List AVal
 kf : Bool
 keys : List (List UInt8)
def va0 : VaD := ⟨0, 0, [], true, 0, fun _ => [], true, []⟩
def VaD.list (v : VaD) : AVal := .list v.lf v.ln v.lr
def encVa (v : VaD) : List AVal := [.int .i64 v.kind, .int .i64 v.int, .str v.text, .list v.lf v.ln v.lr, encSs v.kf v.keys]
def rowV : AVal → Nat → List AVal
 | .list _ _ r => r
 | _ => fun _ => []
def decVa (r : List AVal) : VaD := ⟨intOf (r.getD 0 .undef), intOf (r.getD 1 .undef), strOf (r.getD 2 .undef), fullOf (r.getD 3 .undef), lenL (r.getD 3 .undef), rowV (r.getD 3 .undef), fullOf (r.getD 4 .undef), decL decS (r.getD 4 .undef)⟩
theorem decVa_enc (v : VaD) : decVa (encVa v) = v := by
 have : decL decS (encSs v.kf v.keys) = v.keys := decL_encL (fun a => rfl) _
 unfold decVa encVa
 simp only [List.getD_cons_zero, List.getD_cons_succ, intOf, strOf, fullOf, lenL, rowV]
 exact congrArg (fun l => VaD.mk v.kind v.int v.text v.lf v.ln v.lr v.kf l) this
theorem used_fun (v : VaD) (k : Out → Ans) : iFun Tryz.prog (Lay.nil.hd Tryz.prog) Lay.nil.fhs 0 62 [.agg (encVa v)] [] k = (
 let c0 : Bool := v.kind == 6;
 k (Out.ret (AVal.bool (bif bif bif bif bif decide (v.kind ≥ 0) then decide (v.kind ≤ 11) else false then bif v.kind == 3 then true else v.int == 0 else false then bif bif v.kind == 4 then true else decide (v.kind ≥ 7) then true else v.text == [] else false then bif bif v.kind == 5 then true else c0 then true else (↑v.ln : Int) == 0 else false then bif c0 then true else (↑v.keys.length : Int) == 0 else false)) [])) := by kernel_rfl
noncomputable def kySp (R : VaD → Bool) : LSp := mkL (fun vs bs H => (decVa (bs.getD 0 []), (aI vs 3).toNat, H)) (fun a => a.2.1 = 0 ∧ a.1.keys.length ≤ 1099511627776) (fun a => [.ptr (.tmp 1) 0, encSs a.1.kf a.1.keys, .int .i64 a.1.keys.length, .int .i64 a.2.1]) (fun a => [encVa a.1]) (fun a => a.2.2)
 (fun a k => cond (R a.1) (k (.exit 0) [.ptr (.tmp 1) 0, .undef] [encVa a.1] a.2.2) (k .ret [.ptr (.tmp 1) 0, .bool false] [encVa a.1] a.2.2))
noncomputable def kyFH (R : VaD → Bool) : FH := .of [(4, loopSpec 41 [1,9,10,11] [1] [1,2] [1] (kySp R))]
def layKy0 : Lay := Lay.nil.addF 97 oNameTold
theorem ky_step (R : VaD → Bool) (v : VaD) (n i : Int) (H : Heap) (D : List (FuncId × List AVal)) (k : Kont) : lturn Tryz.prog layKy0 (kyFH R) 63 4 [1,9,10,11] [1] [1,2] [1] (stL 41 [1,9,10,11] [.ptr (.tmp 1) 0, encSs v.kf v.keys, .int .i64 n, .int .i64 i] [1] [encVa v] H D) k = (
 let m0 : Nat := v.keys.length;
 let n1 : Int := (↑m0 : Int);
 let n2 : Int := IntKind.i64.wrap (i - 1);
 let l3 : List UInt8 := v.keys.getD i.toNat [];
 let c4 : Bool := !nameB l3;
 let c5 : Bool := decide (i > 0);
  bif decide (i < n) then bif decide (0 ≤ i) && decide (i < n1) then bif decide (0 ≤ n2) && decide (n2 < n1) || !(!c4 && c5) then bif bif c4 then true else bif c5 then !Op.bytesLess (v.keys.getD n2.toNat []) l3 else false then k AExit.ret (stL 41 [1, 2] [AVal.ptr (Oid.tmp 1) 0, AVal.bool false] [1] [[AVal.int .i64 v.kind, AVal.int .i64 v.int, AVal.str v.text, AVal.list v.lf v.ln v.lr, AVal.list v.kf m0 fun (i : Nat) => [AVal.str (v.keys.getD i [])]]] H D) else k AExit.normal (stL 41 [1, 9, 10, 11] [AVal.ptr (Oid.tmp 1) 0, AVal.list v.kf m0 fun (i : Nat) => [AVal.str (v.keys.getD i [])], AVal.int .i64 n, AVal.int .i64 (IntKind.i64.wrap (i + 1))] [1] [[AVal.int .i64 v.kind, AVal.int .i64 v.int, AVal.str v.text, AVal.list v.lf v.ln v.lr, AVal.list v.kf m0 fun (i : Nat) => [AVal.str (v.keys.getD i [])]]] H D) else none else none else k (AExit.exit 0) (stL 41 [1, 2] [AVal.ptr (Oid.tmp 1) 0, AVal.undef] [1] [[AVal.int .i64 v.kind, AVal.int .i64 v.int, AVal.str v.text, AVal.list v.lf v.ln v.lr, AVal.list v.kf m0 fun (i : Nat) => [AVal.str (v.keys.getD i [])]]] H D)) := by kernel_rfl
noncomputable def layKy (R : VaD → Bool) : Lay := layKy0.addL 63 (kyFH R)
theorem ky_fun (R : VaD → Bool) (v : VaD) (k : Out → Ans) : iFun Tryz.prog ((layKy R).hd Tryz.prog) (layKy R).fhs 0 63 [.agg (encVa v)] [] k = (
 let m0 : Nat := v.keys.length;
 let m1 : Nat := (decL decS (AVal.list v.kf m0 fun (i : Nat) => [AVal.str (v.keys.getD i [])])).length;
 let c2 : Bool := fullOf (AVal.list v.kf m0 fun (i : Nat) => [AVal.str (v.keys.getD i [])]);
 let n3 : Int := (↑m1 : Int);
 let m4 : Nat := lenL (AVal.list v.lf v.ln v.lr);
  bif v.kind != 6 then k (Out.ret (AVal.bool true) []) else bif tst ((Int.toNat 0 = 0 ∧ m1 ≤ 1099511627776) ∧ SubTL [AVal.ptr (Oid.tmp 1) 0, AVal.list v.kf m0 fun (i : Nat) => [AVal.str (v.keys.getD i [])], AVal.int .i64 (↑m0 : Int), AVal.int .i64 0] [AVal.ptr (Oid.tmp 1) 0, AVal.list c2 m1 fun (i : Nat) => [AVal.str ((decL decS (AVal.list v.kf v.keys.length fun (i : Nat) => [AVal.str (v.keys.getD i [])])).getD i [])], AVal.int .i64 n3, AVal.int .i64 (↑(Int.toNat 0) : Int)] ∧ [[AVal.int .i64 v.kind, AVal.int .i64 v.int, AVal.str v.text, AVal.list v.lf v.ln v.lr, AVal.list v.kf m0 fun (i : Nat) => [AVal.str (v.keys.getD i [])]]] = [encVa (VaD.mk v.kind v.int v.text (fullOf (AVal.list v.lf v.ln v.lr)) m4 (rowV (AVal.list v.lf v.ln v.lr)) c2 (decL decS (AVal.list v.kf m0 fun (i : Nat) => [AVal.str (v.keys.getD i [])])))] ∧ ([] : Heap) = []) then bif R (VaD.mk v.kind v.int v.text (fullOf (AVal.list v.lf v.ln v.lr)) m4 (rowV (AVal.list v.lf v.ln v.lr)) c2 (decL decS (AVal.list v.kf m0 fun (i : Nat) => [AVal.str (v.keys.getD i [])]))) then k (Out.ret (AVal.bool (n3 == (↑m4 : Int))) []) else k (Out.ret (AVal.bool false) []) else none) := by kernel_rfl
def fToldB (B : List UInt8 → Bool) (n : Nat) : FSp := mkFS [.s] (fun xs => decide ((aS xs 0).length ≤ n)) (fun xs k => k (.ret (.bool (B (aS xs 0))) []))
def layCf (B : List UInt8 → Bool) : Lay := Lay.nil.addF 79 (fToldB B 1099511627776)
theorem cssf_fun (B : List UInt8 → Bool) (s : List UInt8) (k : Out → Ans) : iFun Tryz.prog ((layCf B).hd Tryz.prog) (layCf B).fhs 0 47 [.str s] [] k = (
 bif decide (s.length ≤ 1099511627776) then
 bif B s then k (Out.ret (AVal.str s) []) else k (Out.ret (AVal.str [90, 103, 111, 116, 109, 112, 108, 90]) [])
 else none) := by kernel_rfl
def layJe (Q : List UInt8 → List UInt8) : Lay := Lay.nil.addF 40 (pescTold Q)
theorem jsE_fun (Q : List UInt8 → List UInt8) (s : List UInt8) (k : Out → Ans) : iFun Tryz.prog ((layJe Q).hd Tryz.prog) (layJe Q).fhs 0 46 [.str s] [] k = (
 let n0 : Int := (↑(Q s).length : Int);
 let n1 : Int := IntKind.i64.wrap (n0 - 1);
  bif decide (s.length ≤ 26843545) then
  bif decide (1 ≤ n1) && decide (n1 ≤ n0) then
  k (Out.ret (AVal.str (List.drop (Int.toNat 1) (List.take n1.toNat (Q s)))) [])
  else none
  else none) := by kernel_rfl
theorem fsafe_fun (e n : Int) (k : Out → Ans) : iFun Tryz.prog (Lay.nil.hd Tryz.prog) Lay.nil.fhs 0 13 [.int .i64 e, .int .i64 n] [] k = (
 bif n == 7 then k (Out.ret (AVal.bool (e == 1)) [])
 else
 bif n == 8 then k (Out.ret (AVal.bool (e == 3)) [])
 else
 bif n == 9 then k (Out.ret (AVal.bool (bif e == 4 then true else e == 5)) [])
 else
 bif n == 10 then k (Out.ret (AVal.bool (bif e == 7 then true else e == 9)) [])
 else
 bif n == 11 then k (Out.ret (AVal.bool (bif e == 11 then true else e == 12)) [])
 else k (Out.ret (AVal.bool false) [])) := by kernel_rfl
end Go.Mu
namespace Go.Mu
open Go Go.Proofs
def usedB (v : VaD) : Bool := bif
 bif
  bif
   bif bif decide (v.kind ≥ 0) then decide (v.kind ≤ 11) else false then
    bif v.kind == 3 then true else v.int == 0
   else false then
   bif bif v.kind == 4 then true else decide (v.kind ≥ 7) then true else v.text == []
  else false then
  bif bif v.kind == 5 then true else (v.kind == 6) then true else (↑v.ln : Int) == 0
 else false then
 bif (v.kind == 6) then true else (↑v.keys.length : Int) == 0
 else false
theorem used_ok (v : VaD) : CallOK Tryz.prog 62 [.agg (encVa v)] [] (.ret (.bool (usedB v)) []) := Lay.nil_ok.callF (G := []) rfl (fun k => used_fun v k)
def kyHit (v : VaD) (i : Nat) : Bool := bif !nameB (v.keys.getD i []) then true else bif decide ((i : Int) > 0) then !Op.bytesLess (v.keys.getD (i - 1) []) (v.keys.getD i []) else false
def kyR (v : VaD) : Bool := !(List.range v.keys.length).any (kyHit v)
noncomputable abbrev kyTurn := lturn Tryz.prog layKy0 (kyFH kyR) 63 4 [1,9,10,11] [1] [1,2] [1]
theorem ky_rd (v : VaD) (H : Heap) (hl : v.keys.length ≤ 1099511627776) (i : Nat) (hi : i < v.keys.length) (D : List (FuncId × List AVal)) (k : Kont) :
 kyTurn (stL 41 [1,9,10,11] [.ptr (.tmp 1) 0, encSs v.kf v.keys, .int .i64 v.keys.length, .int .i64 (i : Nat)] [1] [encVa v] H D) k = cond (kyHit v i) (k .ret (stL 41 [1,2] [.ptr (.tmp 1) 0, .bool false] [1] [encVa v] H D)) (k .normal (stL 41 [1,9,10,11] [.ptr (.tmp 1) 0, encSs v.kf v.keys, .int .i64 v.keys.length, .int .i64 ((i + 1 : Nat) : Int)] [1] [encVa v] H D)) := by
 refine (ky_step kyR v v.keys.length i H D k).trans ?_
 have e1 : IntKind.i64.wrap ((i : Int) + 1) = ((i + 1 : Nat) : Int) := wrap_add1 (by omega)
 have e2 : IntKind.i64.wrap ((i : Int) - 1) = (i : Int) - 1 := wrap_of (by omega) (by omega)
 have e3 : ((i : Int) - 1).toNat = i - 1 := by omega
 have hg : (decide (0 ≤ (i : Int) - 1) && decide ((i : Int) - 1 < v.keys.length) || !(!!nameB (v.keys.getD i []) && decide ((i : Int) > 0))) = true := by
  by_cases h0 : (i : Int) > 0
  · rw [dT (show 0 ≤ (i : Int) - 1 by omega), dT (show (i : Int) - 1 < v.keys.length by omega)]; rfl
  · rw [dF h0]; simp
 simp only [Int.toNat_natCast, e1, e2, e3, hg, dT (show (i : Int) < v.keys.length by omega), dT (show (0 : Int) ≤ (i : Int) by omega), Bool.and_self, cond_true]
 unfold kyHit
 cases (bif !nameB (v.keys.getD i []) then true else bif decide ((i : Int) > 0) then !Op.bytesLess (v.keys.getD (i - 1) []) (v.keys.getD i []) else false) <;> rfl
theorem kySp_ok : SpOK kyTurn 41 [1,9,10,11] [1] [1,2] [1] (kySp kyR) := mkL_ok fun a h => by
 obtain ⟨v, i, H⟩ := a
 obtain ⟨h1, h2⟩ := h
 simp only at h1 h2
 subst h1
 show ∃ e vs bs H', (∀ k : AExit → List AVal → List (List AVal) → Heap → Ans, cond (kyR v) _ _ = k e vs bs H') ∧ _
 have hN : ∀ D k, kyTurn (stL 41 [1,9,10,11] [.ptr (.tmp 1) 0, encSs v.kf v.keys, .int .i64 v.keys.length, .int .i64 (v.keys.length : Nat)] [1] [encVa v] H D) k = k (.exit 0) (stL 41 [1,2] [.ptr (.tmp 1) 0, .undef] [1] [encVa v] H D) := fun D k => by
  refine (ky_step kyR v v.keys.length v.keys.length H D k).trans ?_
  rw [dF (show ¬ (v.keys.length : Int) < v.keys.length by omega), cond_false]
  rfl
 unfold kyR
 cases ha : (List.range v.keys.length).find? (kyHit v) with
 | none =>
  rw [find_any.1 ha]
  exact ⟨_, _, _, _, fun k => rfl, none_runs (fun i => [.ptr (.tmp 1) 0, encSs v.kf v.keys, .int .i64 v.keys.length, .int .i64 (i : Nat)]) [encVa v] H (kyHit v) v.keys.length (by simp) (fun i hi D k => ky_rd v H h2 i hi D k) hN ha⟩
 | some j =>
  have : (List.range v.keys.length).any (kyHit v) = true := by
   cases hb : (List.range v.keys.length).any (kyHit v) with
   | true => rfl
   | false => rw [find_any.2 hb] at ha; cases ha
  rw [this]
  exact ⟨_, _, _, _, fun k => rfl, find_runs (fun i => [.ptr (.tmp 1) 0, encSs v.kf v.keys, .int .i64 v.keys.length, .int .i64 (i : Nat)]) [encVa v] H (kyHit v) v.keys.length (v1 := fun _ => [.ptr (.tmp 1) 0, .bool false]) (b1 := fun _ => [encVa v]) (H1 := fun _ => H) (by simp) (fun i hi D k => ky_rd v H h2 i hi D k) ha⟩
theorem layKy0_ok : layKy0.OK Tryz.prog := Lay.nil_ok.addF oNameTold_ok
theorem layKy_ok : (layKy kyR).OK Tryz.prog := layKy0_ok.loop1 (id := 4) (by kernel_rfl) (by kernel_rfl) (by kernel_rfl) kySp_ok
def keysB (v : VaD) : Bool := bif v.kind != 6 then true else bif kyR v then ((v.keys.length : Int) == (v.ln : Int)) else false
theorem dec_ks (v : VaD) : decL decS (AVal.list v.kf v.keys.length fun (i : Nat) => [AVal.str (v.keys.getD i [])]) = v.keys := decL_encL (g := decS) (f := encS) (d := []) (full := v.kf) (fun a => rfl) v.keys
theorem keys_ok (v : VaD) (h : v.keys.length ≤ 1099511627776) : CallOK Tryz.prog 63 [.agg (encVa v)] [] (.ret (.bool (keysB v)) []) := by
 refine layKy_ok.callF (G := []) rfl (fun k => (ky_fun kyR v k).trans ?_)
 simp only [dec_ks, fullOf, lenL, rowV]
 show _ = k (.ret (.bool (keysB v)) [])
 unfold keysB
 cases v.kind != 6 with
 | true => rfl
 | false =>
  refine (congrArg (fun c => cond c _ none) (tst_true ⟨⟨rfl, h⟩, .refl _, by trivial⟩)).trans ((cond_true _ _).trans ?_)
  show cond (kyR v) _ _ = _
  cases kyR v <;> rfl
def cssF (s : List UInt8) : List UInt8 := bif plainM s then s else [90, 103, 111, 116, 109, 112, 108, 90]
theorem fToldP_ok : ∀ xs H k out, fToldB plainM 1099511627776 xs H k = some out → ∃ o, CallOK Tryz.prog 79 xs H o ∧ k o = some out := plaTold_ok
theorem layCf_ok : (layCf plainM).OK Tryz.prog := Lay.nil_ok.addF fToldP_ok
theorem cssF_ok (s : List UInt8) (h : s.length ≤ 1099511627776) : CallOK Tryz.prog 47 [.str s] [] (.ret (.str (cssF s)) []) := layCf_ok.callF (G := []) rfl (fun k => (cssf_fun plainM s k).trans (by
 rw [dT h, cond_true]
 unfold cssF
 cases plainM s <;> rfl))
def jsE (s : List UInt8) : List UInt8 := qT (chP s)
theorem layJe_ok : (layJe quoP).OK Tryz.prog := Lay.nil_ok.addF quoTold_ok
theorem jsE_ok (s : List UInt8) (h : s.length ≤ 26843545) : CallOK Tryz.prog 46 [.str s] [] (.ret (.str (jsE s)) []) := layJe_ok.callF (G := []) rfl (fun k => (jsE_fun quoP s k).trans (by
 have hl := qT_len (chP s)
 have hl2 := chP_len s
 have e : (quoP s).length = (qT (chP s)).length + 2 := by unfold quoP; simp
 have e1 : IntKind.i64.wrap ((((quoP s).length : Nat) : Int) - 1) = (((qT (chP s)).length + 1 : Nat) : Int) := by rw [wrap_of (by omega) (by omega)]; omega
 have e2 : List.drop (Int.toNat 1) (List.take ((qT (chP s)).length + 1) (quoP s)) = jsE s := by
  unfold quoP jsE
  rw [show (qT (chP s)).length + 1 = ([34] ++ qT (chP s)).length by simp, List.take_left']
  · rfl
  · rfl
 simp only [e1, dT h, cond_true, Int.toNat_natCast, e2, dT (show (1 : Int) ≤ (((qT (chP s)).length + 1 : Nat) : Int) by omega), dT (show (((qT (chP s)).length + 1 : Nat) : Int) ≤ (((quoP s).length : Nat) : Int) by omega), Bool.and_self]))
def safeB (e n : Int) : Bool := bif n == 7 then e == 1 else bif n == 8 then e == 3 else bif n == 9 then (bif e == 4 then true else e == 5) else bif n == 10 then (bif e == 7 then true else e == 9) else bif n == 11 then (bif e == 11 then true else e == 12) else false
theorem fsafe_ok (e n : Int) : CallOK Tryz.prog 13 [.int .i64 e, .int .i64 n] [] (.ret (.bool (safeB e n)) []) := Lay.nil_ok.callF (G := []) rfl (fun k => (fsafe_fun e n k).trans (by
 unfold safeB
 cases n == 7 <;> cases n == 8 <;> cases n == 9 <;> cases n == 10 <;> cases n == 11 <;> rfl))
end Go.Mu
namespace Go.Mu
open Go Go.Proofs
abbrev encVas (f : Bool) (l : List VaD) : AVal := encL f encVa va0 l
abbrev vals (x : AVal) : List VaD := decL decVa x
def cellsA : AVal → List AVal
 | .agg x => x
 | _ => []
def isV (x : List AVal) : Prop := x = encVa (decVa x)
theorem isV_enc (v : VaD) : isV (encVa v) := by unfold isV; rw [decVa_enc]
noncomputable def vrTold (ok : List AVal → Prop) (post : List AVal → (Out → Ans) → Ans) : FSp := mkF (fun xs H => cellsA (xs.getD 0 .undef)) ok (fun x => [.agg x]) (fun _ => []) post
def usedR (x : List AVal) : Bool := usedB (decVa x)
def keysR (x : List AVal) : Bool := keysB (decVa x)
def kOk (x : List AVal) : Prop := isV x ∧ (decVa x).keys.length ≤ 1099511627776
noncomputable def usedTold : FSp := vrTold isV (fun x k => k (.ret (.bool (usedR x)) []))
noncomputable def kyTold : FSp := vrTold kOk (fun x k => k (.ret (.bool (keysR x)) []))
abbrev NsT := List AVal → Int → Int
noncomputable def nsTold (W : List AVal → Prop) (N : NsT) : FSp := mkF (fun xs H => (cellsA (xs.getD 0 .undef), aI xs 1)) (fun a => W a.1 ∧ 0 ≤ a.2 ∧ a.2 ≤ 16) (fun a => [.agg a.1, .int .i64 a.2]) (fun _ => []) (fun a k => k (.ret (.int .i64 (N a.1 a.2)) []))
def canV (x : AVal) : AVal := encVas (fullOf x) (vals x)
def lnV (x : AVal) : Nat := (vals x).length
noncomputable def nsSp (Wl : AVal → Prop) (Lb : AVal → Int → Bool) (Lv : AVal → Int → Int) : LSp := mkL (fun vs bs H => (aI vs 0, vs.getD 1 .undef)) (fun a => Wl a.2 ∧ 0 ≤ a.1 ∧ a.1 ≤ 16) (fun a => [.int .i64 a.1, canV a.2, .int .i64 (lnV a.2), .int .i64 0]) (fun _ => []) (fun _ => [])
 (fun a k => cond (Lb a.2 a.1) (k .ret [.int .i64 (Lv a.2 a.1)] [] []) (k (.exit 1) [.undef] [] []))
noncomputable def nsFH (Wl : AVal → Prop) (Lb : AVal → Int → Bool) (Lv : AVal → Int → Int) : FH := .of [(12, loopSpec 59 [1,46,47,48] [] [4] [] (nsSp Wl Lb Lv))]
noncomputable def layNs0 (W : List AVal → Prop) (N : NsT) : Lay := ((Lay.nil.addF 62 usedTold).addF 63 kyTold).addF 34 (nsTold W N)
theorem ns_step (W : List AVal → Prop) (N : NsT) (Wl : AVal → Prop) (Lb : AVal → Int → Bool) (Lv : AVal → Int → Int) (f : Bool) (q : Nat) (g : Nat → VaD) (c n i : Int) (D : List (FuncId × List AVal)) (k : Kont) : lturn Tryz.prog (layNs0 W N) (nsFH Wl Lb Lv) 34 12 [1,46,47,48] [] [4] [] (stL 59 [1,46,47,48] [.int .i64 c, .list f q (fun i => encVa (g i)), .int .i64 n, .int .i64 i] [] [] [] D) k = (
 let n0 : Int := N (cellsA (AVal.agg [AVal.int .i64 (g i.toNat).kind, AVal.int .i64 (g i.toNat).int, AVal.str (g i.toNat).text, AVal.list (g i.toNat).lf (g i.toNat).ln (g i.toNat).lr, AVal.list (g i.toNat).kf (g i.toNat).keys.length fun (i_1 : Nat) => [AVal.str ((g i.toNat).keys.getD i_1 [])]])) c;
  bif decide (i < n) then bif decide (0 ≤ i) && decide (i < (↑q : Int)) then bif tst ((W (cellsA (AVal.agg [AVal.int .i64 (g i.toNat).kind, AVal.int .i64 (g i.toNat).int, AVal.str (g i.toNat).text, AVal.list (g i.toNat).lf (g i.toNat).ln (g i.toNat).lr, AVal.list (g i.toNat).kf (g i.toNat).keys.length fun (i_1 : Nat) => [AVal.str ((g i.toNat).keys.getD i_1 [])]])) ∧ 0 ≤ c ∧ c ≤ 16) ∧ SubL [AVal.agg [AVal.int .i64 (g i.toNat).kind, AVal.int .i64 (g i.toNat).int, AVal.str (g i.toNat).text, AVal.list (g i.toNat).lf (g i.toNat).ln (g i.toNat).lr, AVal.list (g i.toNat).kf (g i.toNat).keys.length fun (i_1 : Nat) => [AVal.str ((g i.toNat).keys.getD i_1 [])]], AVal.int .i64 c] [AVal.agg (cellsA (AVal.agg [AVal.int .i64 (g i.toNat).kind, AVal.int .i64 (g i.toNat).int, AVal.str (g i.toNat).text, AVal.list (g i.toNat).lf (g i.toNat).ln (g i.toNat).lr, AVal.list (g i.toNat).kf (g i.toNat).keys.length fun (i_1 : Nat) => [AVal.str ((g i.toNat).keys.getD i_1 [])]])), AVal.int .i64 c] ∧ ([] : Heap) = []) then bif n0 != 0 then k AExit.ret (stL 59 [4] [AVal.int .i64 n0] [] [] [] D) else k AExit.normal (stL 59 [1, 46, 47, 48] [AVal.int .i64 c, AVal.list f q fun (i : Nat) => encVa (g i), AVal.int .i64 n, AVal.int .i64 (IntKind.i64.wrap (i + 1))] [] [] [] D) else none else none else k (AExit.exit 1) (stL 59 [4] [AVal.undef] [] [] [] D)) := by kernel_rfl
noncomputable def layNs (W : List AVal → Prop) (N : NsT) (Wl : AVal → Prop) (Lb : AVal → Int → Bool) (Lv : AVal → Int → Int) : Lay := (layNs0 W N).addL 34 (nsFH Wl Lb Lv)
theorem ns_fun (W : List AVal → Prop) (N : NsT) (Wl : AVal → Prop) (Lb : AVal → Int → Bool) (Lv : AVal → Int → Int) (v : VaD) (c : Int) (k : Out → Ans) : iFun Tryz.prog ((layNs W N Wl Lb Lv).hd Tryz.prog) (layNs W N Wl Lb Lv).fhs 0 34 [.agg (encVa v), .int .i64 c] [] k = (
 let n0 : Int := IntKind.i64.wrap (c - 1);
 let c1 : Bool := decide ((↑v.text.length : Int) > 4096);
 let n2 : Int := (↑v.ln : Int);
 let m3 : Nat := v.keys.length;
 let c4 : Bool := bif decide (n2 > 1024) then true else decide ((↑m3 : Int) > 1024);
 let c5 : Bool := tst (isV (cellsA (AVal.agg [AVal.int .i64 v.kind, AVal.int .i64 v.int, AVal.str v.text, AVal.list v.lf v.ln v.lr, AVal.list v.kf m3 fun (i : Nat) => [AVal.str (v.keys.getD i [])]])) ∧ SubL [AVal.agg [AVal.int .i64 v.kind, AVal.int .i64 v.int, AVal.str v.text, AVal.list v.lf v.ln v.lr, AVal.list v.kf m3 fun (i : Nat) => [AVal.str (v.keys.getD i [])]]] [AVal.agg (cellsA (AVal.agg [AVal.int .i64 v.kind, AVal.int .i64 v.int, AVal.str v.text, AVal.list v.lf v.ln v.lr, AVal.list v.kf m3 fun (i : Nat) => [AVal.str (v.keys.getD i [])]]))] ∧ ([] : Heap) = []);
 let c6 : Bool := tst (kOk (cellsA (AVal.agg [AVal.int .i64 v.kind, AVal.int .i64 v.int, AVal.str v.text, AVal.list v.lf v.ln v.lr, AVal.list v.kf m3 fun (i : Nat) => [AVal.str (v.keys.getD i [])]])) ∧ SubL [AVal.agg [AVal.int .i64 v.kind, AVal.int .i64 v.int, AVal.str v.text, AVal.list v.lf v.ln v.lr, AVal.list v.kf m3 fun (i : Nat) => [AVal.str (v.keys.getD i [])]]] [AVal.agg (cellsA (AVal.agg [AVal.int .i64 v.kind, AVal.int .i64 v.int, AVal.str v.text, AVal.list v.lf v.ln v.lr, AVal.list v.kf m3 fun (i : Nat) => [AVal.str (v.keys.getD i [])]]))] ∧ ([] : Heap) = []);
 let c7 : Bool := bif !usedR (cellsA (AVal.agg [AVal.int .i64 v.kind, AVal.int .i64 v.int, AVal.str v.text, AVal.list v.lf v.ln v.lr, AVal.list v.kf m3 fun (i : Nat) => [AVal.str (v.keys.getD i [])]])) then true else !keysR (cellsA (AVal.agg [AVal.int .i64 v.kind, AVal.int .i64 v.int, AVal.str v.text, AVal.list v.lf v.ln v.lr, AVal.list v.kf m3 fun (i : Nat) => [AVal.str (v.keys.getD i [])]]));
  bif bif v.kind == 5 then true else v.kind == 6 then bif decide (n0 < 0) then k (Out.ret (AVal.int .i64 42) []) else bif c1 then k (Out.ret (AVal.int .i64 5) []) else bif c4 then k (Out.ret (AVal.int .i64 3) []) else bif c5 then bif c6 then bif c7 then k (Out.ret (AVal.int .i64 9) []) else bif tst ((Wl (AVal.list v.lf v.ln v.lr) ∧ 0 ≤ n0 ∧ n0 ≤ 16) ∧ SubTL [AVal.int .i64 n0, AVal.list v.lf v.ln v.lr, AVal.int .i64 n2, AVal.int .i64 0] [AVal.int .i64 n0, canV (AVal.list v.lf v.ln v.lr), AVal.int .i64 (↑(lnV (AVal.list v.lf v.ln v.lr)) : Int), AVal.int .i64 0] ∧ ([] : List (List AVal)) = [] ∧ ([] : Heap) = []) then bif Lb (AVal.list v.lf v.ln v.lr) n0 then k (Out.ret (AVal.int .i64 (Lv (AVal.list v.lf v.ln v.lr) n0)) []) else k (Out.ret (AVal.int .i64 0) []) else none else none else none else bif c1 then k (Out.ret (AVal.int .i64 5) []) else bif c4 then k (Out.ret (AVal.int .i64 3) []) else bif c5 then bif c6 then bif c7 then k (Out.ret (AVal.int .i64 9) []) else bif tst ((Wl (AVal.list v.lf v.ln v.lr) ∧ 0 ≤ c ∧ c ≤ 16) ∧ SubTL [AVal.int .i64 c, AVal.list v.lf v.ln v.lr, AVal.int .i64 n2, AVal.int .i64 0] [AVal.int .i64 c, canV (AVal.list v.lf v.ln v.lr), AVal.int .i64 (↑(lnV (AVal.list v.lf v.ln v.lr)) : Int), AVal.int .i64 0] ∧ ([] : List (List AVal)) = [] ∧ ([] : Heap) = []) then bif Lb (AVal.list v.lf v.ln v.lr) c then k (Out.ret (AVal.int .i64 (Lv (AVal.list v.lf v.ln v.lr) c)) []) else k (Out.ret (AVal.int .i64 0) []) else none else none else none) := by kernel_rfl
end Go.Mu
namespace Go.Mu
open Go Go.Proofs
noncomputable def wfVa (r : List AVal) : Bool := tst (r = encVa (decVa r))
theorem vrTold_ok {P : Program} {ok : List AVal → Prop} {post : List AVal → (Out → Ans) → Ans} {f : FuncId} (h : ∀ x, ok x → ∃ o, (∀ k, post x k = k o) ∧ CallOK P f [.agg x] [] o) : ∀ xs H k out, vrTold ok post xs H k = some out → ∃ o, CallOK P f xs H o ∧ k o = some out := mkF_ok h
def wfVal : Nat → VaD → Prop
 | 0, _ => False
 | d + 1, v => -9223372036854775808 ≤ v.int ∧ v.int ≤ 9223372036854775807 ∧ wfL wfVa v.list = true ∧ ∀ x ∈ vals v.list, wfVal d x
def szV : Nat → VaD → Nat
 | 0, _ => 96
 | d + 1, v => 96 + 16 * v.text.length + (v.keys.map (fun k => 16 + 16 * k.length)).sum + ((vals v.list).map (szV d)).sum
theorem szV_64 (d : Nat) (v : VaD) : 64 ≤ szV d v := by
 cases d with
 | zero => unfold szV; omega
 | succ d => unfold szV; omega
theorem sum_ge {α : Type} (f : α → Nat) (c : Nat) (h : ∀ a, c ≤ f a) : ∀ l : List α, c * l.length ≤ (l.map f).sum
 | [] => by simp
 | a :: l => by
  have := sum_ge f c h l
  have := h a
  rw [List.map_cons, List.sum_cons, List.length_cons, Nat.mul_add, Nat.mul_one]
  omega
theorem sum_mem {α : Type} (f : α → Nat) : ∀ (l : List α) (a : α), a ∈ l → f a ≤ (l.map f).sum
 | b :: l, a, h => by
  rw [List.map_cons, List.sum_cons]
  rcases List.mem_cons.1 h with rfl | h
  · omega
  · have := sum_mem f l a h; omega
def WlD (d : Nat) (x : AVal) : Prop := wfL wfVa x = true ∧ (∀ v ∈ vals x, wfVal d v) ∧ ((vals x).map (szV d)).sum ≤ 16777216
def WvD (d : Nat) (x : List AVal) : Prop := isV x ∧ wfVal d (decVa x) ∧ szV d (decVa x) ≤ 16777216
theorem WvD_enc {d : Nat} {v : VaD} (h : wfVal d v) (h2 : szV d v ≤ 16777216) : WvD d (encVa v) := by
 refine ⟨isV_enc v, ?_, ?_⟩ <;> rw [decVa_enc] <;> assumption
theorem WlD_mem {d : Nat} {x : AVal} (h : WlD d x) {v : VaD} (hv : v ∈ vals x) : wfVal d v ∧ szV d v ≤ 16777216 :=
 ⟨h.2.1 v hv, Nat.le_trans (sum_mem (szV d) _ v hv) h.2.2⟩
theorem WlD_len {d : Nat} {x : AVal} (h : WlD d x) : (vals x).length ≤ 1048576 := by
 have := sum_ge (szV d) 64 (szV_64 d) (vals x)
 have := h.2.2
 omega
theorem wf_list {d : Nat} {v : VaD} (h : wfVal (d + 1) v) (h2 : szV (d + 1) v ≤ 16777216) : WlD d v.list := by
 refine ⟨h.2.2.1, h.2.2.2, ?_⟩
 unfold szV at h2
 omega
theorem wf_keys {d : Nat} {v : VaD} (h2 : szV (d + 1) v ≤ 16777216) : v.keys.length ≤ 1048576 := by
 unfold szV at h2
 have := sum_ge (fun k : List UInt8 => 16 + 16 * k.length) 16 (fun k => by omega) v.keys
 omega
theorem canV_sub {d : Nat} {x : AVal} (h : WlD d x) : SubT x (canV x) := subT_encL h.1 (fun r hr => by
 have h3 : r = encVa (decVa r) := of_tst hr
 rw [← h3]; exact .refl _)
theorem lnV_eq {d : Nat} {x : AVal} (h : WlD d x) : lnV x = lenL x := lenL_decL h.1
def nestB (N : VaD → Int → Int) (v : VaD) (c : Int) : Int :=
 bif decide ((v.text.length : Int) > 4096) then 5 else bif (bif decide ((v.ln : Int) > 1024) then true else decide ((v.keys.length : Int) > 1024)) then 3 else bif (bif !usedB v then true else !keysB v) then 9 else
  bif (vals v.list).any (fun x => N x c != 0) then N ((vals v.list).getD ((vals v.list).findIdx (fun x => N x c != 0)) va0) c else 0
def nestV : Nat → VaD → Int → Int
 | 0, _, _ => 0
 | d + 1, v, c => bif (bif v.kind == 5 then true else v.kind == 6) then (bif decide (c - 1 < 0) then 42 else nestB (nestV d) v (c - 1)) else nestB (nestV d) v c
def nestR (d : Nat) (x : List AVal) (c : Int) : Int := nestV d (decVa x) c
theorem nestR_enc (d : Nat) (v : VaD) (c : Int) : nestR d (encVa v) c = nestV d v c := by unfold nestR; rw [decVa_enc]
def nLb (d : Nat) (x : AVal) (c : Int) : Bool := (vals x).any (fun v => nestV d v c != 0)
def nLv (d : Nat) (x : AVal) (c : Int) : Int := nestV d ((vals x).getD ((vals x).findIdx (fun v => nestV d v c != 0)) va0) c
theorem usedTold_ok : ∀ xs H k out, usedTold xs H k = some out → ∃ o, CallOK Tryz.prog 62 xs H o ∧ k o = some out := vrTold_ok (ok := isV) (post := fun x k => k (.ret (.bool (usedR x)) [])) fun x h => ⟨_, fun k => rfl, by
 have h : x = encVa (decVa x) := h
 have := used_ok (decVa x)
 rw [← h] at this
 exact this⟩
theorem kyTold_ok : ∀ xs H k out, kyTold xs H k = some out → ∃ o, CallOK Tryz.prog 63 xs H o ∧ k o = some out := vrTold_ok (ok := kOk) (post := fun x k => k (.ret (.bool (keysR x)) [])) fun x h => ⟨_, fun k => rfl, by
 have h1 : x = encVa (decVa x) := h.1
 have := keys_ok (decVa x) h.2
 rw [← h1] at this
 exact this⟩
noncomputable abbrev nsTurn (d : Nat) := lturn Tryz.prog (layNs0 (WvD d) (nestR d)) (nsFH (WlD d) (nLb d) (nLv d)) 34 12 [1,46,47,48] [] [4] []
theorem ns_rd (d : Nat) (f : Bool) (l : List VaD) (c : Int) (hl : l.length ≤ 1099511627776) (h0 : 0 ≤ c) (h16 : c ≤ 16) (hW : ∀ v ∈ l, wfVal d v ∧ szV d v ≤ 16777216) (i : Nat) (hi : i < l.length) (D : List (FuncId × List AVal)) (k : Kont) :
 nsTurn d (stL 59 [1,46,47,48] [.int .i64 c, encVas f l, .int .i64 l.length, .int .i64 (i : Nat)] [] [] [] D) k = cond (nestV d (l.getD i va0) c != 0) (k .ret (stL 59 [4] [.int .i64 (nestV d (l.getD i va0) c)] [] [] [] D)) (k .normal (stL 59 [1,46,47,48] [.int .i64 c, encVas f l, .int .i64 l.length, .int .i64 ((i + 1 : Nat) : Int)] [] [] [] D)) := by
 refine (ns_step (WvD d) (nestR d) (WlD d) (nLb d) (nLv d) f l.length (fun i => l.getD i va0) c l.length i D k).trans ?_
 have e1 : IntKind.i64.wrap ((i : Int) + 1) = ((i + 1 : Nat) : Int) := wrap_add1 (by omega)
 have hm : l.getD i va0 ∈ l := by rw [List.getD_eq_getElem?_getD, List.getElem?_eq_getElem hi]; exact List.getElem_mem hi
 obtain ⟨w1, w2⟩ := hW _ hm
 simp only [e1, dT (show (i : Int) < l.length by omega), dT (show (0 : Int) ≤ (i : Int) by omega), Bool.and_self, cond_true, Int.toNat_natCast]
 refine (congrArg (fun b => cond b _ none) (tst_true ⟨⟨WvD_enc w1 w2, h0, h16⟩, .refl _, by trivial⟩)).trans ((cond_true _ _).trans ?_)
 show cond (nestR d (encVa (l.getD i va0)) c != 0) (k .ret (stL 59 [4] [.int .i64 (nestR d (encVa (l.getD i va0)) c)] [] [] [] D)) _ = _
 rw [nestR_enc]
theorem nsSp_ok (d : Nat) : SpOK (nsTurn d) 59 [1,46,47,48] [] [4] [] (nsSp (WlD d) (nLb d) (nLv d)) := mkL_ok fun a h => by
 obtain ⟨c, x⟩ := a
 obtain ⟨h1, h2, h3⟩ := h
 simp only at h1 h2 h3
 have hl := WlD_len h1
 have hW := fun v (hv : v ∈ vals x) => WlD_mem h1 hv
 show ∃ e vs bs H', (∀ k : AExit → List AVal → List (List AVal) → Heap → Ans, cond (nLb d x c) _ _ = k e vs bs H') ∧ _
 have hf := find_getD (fun v => nestV d v c != 0) (vals x) va0
 have hN : ∀ D k, nsTurn d (stL 59 [1,46,47,48] [.int .i64 c, encVas (fullOf x) (vals x), .int .i64 (vals x).length, .int .i64 ((vals x).length : Nat)] [] [] [] D) k = k (.exit 1) (stL 59 [4] [.undef] [] [] [] D) := fun D k => by
  refine (ns_step (WvD d) (nestR d) (WlD d) (nLb d) (nLv d) (fullOf x) (vals x).length (fun i => (vals x).getD i va0) c (vals x).length (vals x).length D k).trans ?_
  rw [dF (show ¬ ((vals x).length : Int) < (vals x).length by omega), cond_false]
 unfold nLb
 cases ha : (vals x).any (fun v => nestV d v c != 0) with
 | false =>
  rw [ha] at hf
  exact ⟨_, _, _, _, fun k => rfl, none_runs (fun i => [.int .i64 c, encVas (fullOf x) (vals x), .int .i64 (vals x).length, .int .i64 (i : Nat)]) [] [] _ (vals x).length (by simp) (fun i hi D k => ns_rd d (fullOf x) (vals x) c (by omega) h2 h3 hW i hi D k) hN hf⟩
 | true =>
  rw [ha] at hf
  exact ⟨_, _, _, _, fun k => rfl, find_runs (fun i => [.int .i64 c, encVas (fullOf x) (vals x), .int .i64 (vals x).length, .int .i64 (i : Nat)]) [] [] _ (vals x).length (v1 := fun i => [.int .i64 (nestV d ((vals x).getD i va0) c)]) (b1 := fun _ => []) (H1 := fun _ => []) (by simp) (fun i hi D k => ns_rd d (fullOf x) (vals x) c (by omega) h2 h3 hW i hi D k) hf⟩
theorem layNs_ok {d : Nat} (h : ∀ xs H k out, nsTold (WvD d) (nestR d) xs H k = some out → ∃ o, CallOK Tryz.prog 34 xs H o ∧ k o = some out) : (layNs (WvD d) (nestR d) (WlD d) (nLb d) (nLv d)).OK Tryz.prog :=
 (((Lay.nil_ok.addF usedTold_ok).addF kyTold_ok).addF h).loop1 (id := 12) (by kernel_rfl) (by kernel_rfl) (by kernel_rfl) (nsSp_ok d)
theorem ns_call {d : Nat} (v : VaD) (c : Int) (hw : wfVal (d + 1) v) (hs : szV (d + 1) v ≤ 16777216) (h0 : 0 ≤ c) (h16 : c ≤ 16) (k : Out → Ans) : iFun Tryz.prog ((layNs (WvD d) (nestR d) (WlD d) (nLb d) (nLv d)).hd Tryz.prog) (layNs (WvD d) (nestR d) (WlD d) (nLb d) (nLv d)).fhs 0 34 [.agg (encVa v), .int .i64 c] [] k = k (.ret (.int .i64 (nestV (d + 1) v c)) []) := by
 refine (ns_fun (WvD d) (nestR d) (WlD d) (nLb d) (nLv d) v c k).trans ?_
 have e1 : IntKind.i64.wrap (c - 1) = c - 1 := wrap_of (by omega) (by omega)
 have hk := wf_keys hs
 have hl := wf_list hw hs
 have hu : usedR (encVa v) = usedB v := by unfold usedR; rw [decVa_enc]
 have hy : keysR (encVa v) = keysB v := by unfold keysR; rw [decVa_enc]
 have ko : kOk (encVa v) := ⟨isV_enc v, by rw [decVa_enc]; omega⟩
 have body : ∀ c, 0 ≤ c → c ≤ 16 → ∀ c5 c6 c8, c5 = true → c6 = true → c8 = true →
  (bif decide ((v.text.length : Int) > 4096) then k (Out.ret (AVal.int .i64 5) []) else bif (bif decide ((v.ln : Int) > 1024) then true else decide ((v.keys.length : Int) > 1024)) then k (Out.ret (AVal.int .i64 3) []) else bif c5 then bif c6 then bif (bif !usedR (encVa v) then true else !keysR (encVa v)) then k (Out.ret (AVal.int .i64 9) []) else bif c8 then bif nLb d v.list c then k (Out.ret (AVal.int .i64 (nLv d v.list c)) []) else k (Out.ret (AVal.int .i64 0) []) else none else none else none) = k (.ret (.int .i64 (nestB (nestV d) v c)) []) := by
  intro c h0 h16 c5 c6 c8 h5 h6 h8
  rw [h5, h6, h8, hu, hy]
  unfold nestB nLb nLv
  cases decide ((v.text.length : Int) > 4096) <;> cases (bif decide ((v.ln : Int) > 1024) then true else decide ((v.keys.length : Int) > 1024)) <;> cases (bif !usedB v then true else !keysB v) <;> cases (vals v.list).any (fun x => nestV d x c != 0) <;> rfl
 have e : lnV (AVal.list v.lf v.ln v.lr) = v.ln := lnV_eq (d := d) hl
 have hs8 : ∀ c, SubTL [AVal.int .i64 c, AVal.list v.lf v.ln v.lr, AVal.int .i64 (v.ln : Int), AVal.int .i64 0] [AVal.int .i64 c, canV (AVal.list v.lf v.ln v.lr), AVal.int .i64 (↑(lnV (AVal.list v.lf v.ln v.lr)) : Int), AVal.int .i64 0] := fun c => by
  rw [e]
  exact .cons (.refl _) (.cons (canV_sub hl) (.refl _))
 unfold nestV
 cases (bif v.kind == 5 then true else v.kind == 6) with
 | true =>
  simp only [cond_true, e1]
  by_cases hc : c - 1 < 0
  · rw [dT hc]; rfl
  · rw [dF hc, cond_false, cond_false]
    exact body (c - 1) (by omega) (by omega) _ _ _ (tst_true ⟨isV_enc v, .refl _, by trivial⟩) (tst_true ⟨ko, .refl _, by trivial⟩) (tst_true ⟨⟨hl, by omega, by omega⟩, hs8 _, by trivial⟩)
 | false =>
  simp only [cond_false]
  exact body c h0 h16 _ _ _ (tst_true ⟨isV_enc v, .refl _, by trivial⟩) (tst_true ⟨ko, .refl _, by trivial⟩) (tst_true ⟨⟨hl, h0, h16⟩, hs8 _, by trivial⟩)
theorem nsTold_ok : ∀ (d : Nat) xs H k out, nsTold (WvD d) (nestR d) xs H k = some out → ∃ o, CallOK Tryz.prog 34 xs H o ∧ k o = some out
 | 0 => mkF_ok fun x h => absurd h.1.2.1 (by unfold wfVal; exact id)
 | d + 1 => mkF_ok fun x h => ⟨_, fun k => rfl, by
  obtain ⟨x, c⟩ := x
  obtain ⟨⟨h1, h2, h3⟩, h4, h5⟩ := h
  have h1 : x = encVa (decVa x) := h1
  simp only at h2 h3 h4 h5
  have key := (layNs_ok (nsTold_ok d)).callF (G := []) rfl (fun k => ns_call (decVa x) c h2 h3 h4 h5 k)
  rw [← h1] at key
  exact key⟩
end Go.Mu
namespace Go.Mu
open Go Go.Proofs
abbrev b1P (P0 : Obj) (ad b : AVal) (O : Obj) : Heap := [P0, .var [ad, b], .note bdT 2, O, .note bT 0]
structure b1H where
 P0 : Obj
 x : Bld
abbrev b1H.heap (x : b1H) : Heap := b1P x.P0 x.x.ad x.x.b (.arr 1 x.x.rows x.x.v)
def b1H.dec (H : Heap) : b1H := ⟨H.getD 0 (.var []), bld H 1 3⟩
theorem b1_ws0 (P0 : Obj) (O : Obj) (k : Out → Ans) : iFun Tryz.prog (layW0.hd Tryz.prog) layW0.fhs 0 36 [.ptr (.hp 1) 0, .str []] (b1P P0 .nilptr .nilX O) k = (
 k
 (Out.ret (AVal.tuple [AVal.int .i64 0, AVal.nilIface])
  [P0, Obj.var [AVal.ptr (Oid.hp 1) 0, AVal.nilX], Obj.note 71 2, O, Obj.note 5 0])) := by kernel_rfl
theorem b1_ws1 (P0 : Obj) (O : Obj) (k : Out → Ans) : iFun Tryz.prog (layW0.hd Tryz.prog) layW0.fhs 0 36 [.ptr (.hp 1) 0, .str []] (b1P P0 (.ptr (.hp 1) 0) .nilX O) k = (
 k
 (Out.ret (AVal.tuple [AVal.int .i64 0, AVal.nilIface])
  [P0, Obj.var [AVal.ptr (Oid.hp 1) 0, AVal.nilX], Obj.note 71 2, O, Obj.note 5 0])) := by kernel_rfl
theorem b1_ws2 (P0 : Obj) (l : List UInt8) (n v : Nat) (rows : List (List AVal)) (k : Out → Ans) : iFun Tryz.prog (Lay.nil.hd Tryz.prog) Lay.nil.fhs 0 36 [.ptr (.hp 1) 0, .str l] (b1P P0 .nilptr (.own 3 0 n v false) (.arr 1 rows v)) k = (
 let m0 : Nat := n + (List.map (fun (c : UInt8) => [AVal.int .u8 (↑c.toNat : Int)]) l).length;
 let m1 : Nat := v + 1;
  bif v == v && n == rows.length && decide ((2 * m0 + 1000) * 1 ≤ 281474976710656) && true then
  k
  (Out.ret (AVal.tuple [AVal.int .i64 (↑l.length : Int), AVal.nilIface])
  [P0, Obj.var [AVal.ptr (Oid.hp 1) 0, AVal.own 3 0 m0 m1 false], Obj.note 71 2,
  Obj.arr 1 (rows.append (List.map (fun (c : UInt8) => [AVal.int .u8 (↑c.toNat : Int)]) l)) m1,
  Obj.note 5 0])
  else none) := by kernel_rfl
theorem b1_ws3 (P0 : Obj) (l : List UInt8) (n v : Nat) (rows : List (List AVal)) (k : Out → Ans) : iFun Tryz.prog (Lay.nil.hd Tryz.prog) Lay.nil.fhs 0 36 [.ptr (.hp 1) 0, .str l] (b1P P0 (.ptr (.hp 1) 0) (.own 3 0 n v false) (.arr 1 rows v)) k = (
 let m0 : Nat := n + (List.map (fun (c : UInt8) => [AVal.int .u8 (↑c.toNat : Int)]) l).length;
 let m1 : Nat := v + 1;
  bif v == v && n == rows.length && decide ((2 * m0 + 1000) * 1 ≤ 281474976710656) && true then
  k
  (Out.ret (AVal.tuple [AVal.int .i64 (↑l.length : Int), AVal.nilIface])
  [P0, Obj.var [AVal.ptr (Oid.hp 1) 0, AVal.own 3 0 m0 m1 false], Obj.note 71 2,
  Obj.arr 1 (rows.append (List.map (fun (c : UInt8) => [AVal.int .u8 (↑c.toNat : Int)]) l)) m1,
  Obj.note 5 0])
  else none) := by kernel_rfl
theorem b1_wb2 (P0 : Obj) (c : UInt8) (n v : Nat) (rows : List (List AVal)) (k : Out → Ans) : iFun Tryz.prog (Lay.nil.hd Tryz.prog) Lay.nil.fhs 0 37 [.ptr (.hp 1) 0, .int .u8 c.toNat] (b1P P0 .nilptr (.own 3 0 n v false) (.arr 1 rows v)) k = (
 let m0 : Nat := n + 1;
 let m1 : Nat := v + 1;
  bif v == v && n == rows.length && decide ((2 * m0 + 1000) * 1 ≤ 281474976710656) && true then
  k
  (Out.ret AVal.nilIface
  [P0, Obj.var [AVal.ptr (Oid.hp 1) 0, AVal.own 3 0 m0 m1 false], Obj.note 71 2,
  Obj.arr 1 (rows.append [[AVal.int .u8 (↑c.toNat : Int)]]) m1, Obj.note 5 0])
  else none) := by kernel_rfl
theorem b1_wb3 (P0 : Obj) (c : UInt8) (n v : Nat) (rows : List (List AVal)) (k : Out → Ans) : iFun Tryz.prog (Lay.nil.hd Tryz.prog) Lay.nil.fhs 0 37 [.ptr (.hp 1) 0, .int .u8 c.toNat] (b1P P0 (.ptr (.hp 1) 0) (.own 3 0 n v false) (.arr 1 rows v)) k = (
 let m0 : Nat := n + 1;
 let m1 : Nat := v + 1;
  bif v == v && n == rows.length && decide ((2 * m0 + 1000) * 1 ≤ 281474976710656) && true then
  k
  (Out.ret AVal.nilIface
  [P0, Obj.var [AVal.ptr (Oid.hp 1) 0, AVal.own 3 0 m0 m1 false], Obj.note 71 2,
  Obj.arr 1 (rows.append [[AVal.int .u8 (↑c.toNat : Int)]]) m1, Obj.note 5 0])
  else none) := by kernel_rfl
theorem b1_ws (x : b1H) (l : List UInt8) (hx : x.x.can 1 3) (h : x.x.t.length + l.length ≤ 1099511627776) : CallOK Tryz.prog 36 [.ptr (.hp 1) 0, .str l] x.heap (.ret (.tuple [.int .i64 l.length, .nilIface]) ({ x with x := x.x.add 1 3 l } : b1H).heap) := by
 obtain ⟨P0, ⟨ad, b, rows, v⟩⟩ := x
 obtain ⟨h1, h2, h3⟩ := hx
 unfold Bld.add Bld.t
 simp only [Bld.t] at h h1 h2 h3 ⊢
 generalize bytesOf rows = text at *
 subst h2 h3
 cases text with
 | nil =>
  cases l with
  | nil =>
   refine layW0_ok.call (fun k => ?_)
   rcases h1 with rfl | rfl
   · exact b1_ws0 P0 (.arr 1 [] v) k
   · exact b1_ws1 P0 (.arr 1 [] v) k
  | cons c t =>
   refine relAt_ok (i := 1) (c := 1) (j := 3) ?_
   simp only [List.length_nil] at h
   refine Lay.nil_ok.call (fun k => ?_)
   have e3 : wsV [] (c :: t) v = v + 1 + 1 := rfl
   rw [e3]
   generalize hl : c :: t = l at *
   have e4 : bfB 3 ([] ++ l) (v + 1 + 1) = .own 3 0 l.length (v + 1 + 1) false := by rw [← hl]; rfl
   rw [e4]
   rcases h1 with rfl | rfl
   · rw [show relAt 1 1 3 (b1P P0 .nilptr (bfB 3 [] v) (.arr 1 (([] : List UInt8).map byteRow) v)) = b1P P0 .nilptr (.own 3 0 0 (v + 1) false) (.arr 1 [] (v + 1)) from rfl, b1_ws2]
     simp (disch := omega) only [e_map, List.length_map, dT, beq_self_eq_true, Bool.and_true, cond_true, List.append_eq, List.nil_append, Nat.zero_add, List.length_nil, Nat.mul_one, List.map_nil]
   · rw [show relAt 1 1 3 (b1P P0 (.ptr (.hp 1) 0) (bfB 3 [] v) (.arr 1 (([] : List UInt8).map byteRow) v)) = b1P P0 (.ptr (.hp 1) 0) (.own 3 0 0 (v + 1) false) (.arr 1 [] (v + 1)) from rfl, b1_ws3]
     simp (disch := omega) only [e_map, List.length_map, dT, beq_self_eq_true, Bool.and_true, cond_true, List.append_eq, List.nil_append, Nat.zero_add, List.length_nil, Nat.mul_one, List.map_nil]
 | cons c t =>
  refine Lay.nil_ok.call (fun k => ?_)
  have e3 : wsV (c :: t) l v = v + 1 := rfl
  have e4 : bfB 3 ((c :: t) ++ l) (v + 1) = .own 3 0 ((c :: t) ++ l).length (v + 1) false := rfl
  have e5 : bfB 3 (c :: t) v = .own 3 0 (c :: t).length v false := rfl
  rw [e3, e4, e5]
  generalize c :: t = m at *
  rcases h1 with rfl | rfl
  · rw [b1_ws2]
    simp (disch := omega) only [e_map, List.length_map, dT, beq_self_eq_true, Bool.and_true, cond_true, List.append_eq, List.length_append, Nat.mul_one]
  · rw [b1_ws3]
    simp (disch := omega) only [e_map, List.length_map, dT, beq_self_eq_true, Bool.and_true, cond_true, List.append_eq, List.length_append, Nat.mul_one]
theorem b1_wb (x : b1H) (c : UInt8) (hx : x.x.can 1 3) (h : x.x.t.length ≤ 1073741824) : CallOK Tryz.prog 37 [.ptr (.hp 1) 0, .int .u8 c.toNat] x.heap (.ret .nilIface ({ x with x := x.x.add 1 3 [c] } : b1H).heap) := by
 obtain ⟨P0, ⟨ad, b, rows, v⟩⟩ := x
 obtain ⟨h1, h2, h3⟩ := hx
 unfold Bld.add Bld.t
 simp only [Bld.t] at h h1 h2 h3 ⊢
 generalize bytesOf rows = text at *
 subst h2 h3
 have e6 : [c].map byteRow = [[.int .u8 c.toNat]] := rfl
 rw [e6]
 cases text with
 | nil =>
  refine relAt_ok (i := 1) (c := 1) (j := 3) ?_
  refine Lay.nil_ok.call (fun k => ?_)
  have e3 : wsV [] [c] v = v + 1 + 1 := rfl
  have e4 : bfB 3 ([] ++ [c]) (v + 1 + 1) = .own 3 0 1 (v + 1 + 1) false := rfl
  rw [e3, e4]
  rcases h1 with rfl | rfl
  · rw [show relAt 1 1 3 (b1P P0 .nilptr (bfB 3 [] v) (.arr 1 (([] : List UInt8).map byteRow) v)) = b1P P0 .nilptr (.own 3 0 0 (v + 1) false) (.arr 1 [] (v + 1)) from rfl, b1_wb2]
    simp only [beq_self_eq_true]
    rfl
  · rw [show relAt 1 1 3 (b1P P0 (.ptr (.hp 1) 0) (bfB 3 [] v) (.arr 1 (([] : List UInt8).map byteRow) v)) = b1P P0 (.ptr (.hp 1) 0) (.own 3 0 0 (v + 1) false) (.arr 1 [] (v + 1)) from rfl, b1_wb3]
    simp only [beq_self_eq_true]
    rfl
 | cons d t =>
  refine Lay.nil_ok.call (fun k => ?_)
  have e3 : wsV (d :: t) [c] v = v + 1 := rfl
  have e4 : bfB 3 ((d :: t) ++ [c]) (v + 1) = .own 3 0 ((d :: t) ++ [c]).length (v + 1) false := rfl
  have e5 : bfB 3 (d :: t) v = .own 3 0 (d :: t).length v false := rfl
  rw [e3, e4, e5]
  generalize d :: t = m at *
  rcases h1 with rfl | rfl
  · rw [b1_wb2]
    simp (disch := omega) only [e_map, List.length_map, dT, beq_self_eq_true, Bool.and_true, cond_true, List.append_eq, List.length_append, Nat.mul_one, List.length_cons, List.length_nil]
  · rw [b1_wb3]
    simp (disch := omega) only [e_map, List.length_map, dT, beq_self_eq_true, Bool.and_true, cond_true, List.append_eq, List.length_append, Nat.mul_one, List.length_cons, List.length_nil]
theorem b1_str (x : b1H) (hx : x.x.can 1 3) (h : x.x.t.length ≤ 1099511627776) : CallOK Tryz.prog 38 [.ptr (.hp 1) 0] x.heap (.ret (.str x.x.t) ({ x with x := x.x.dead } : b1H).heap) := by
 obtain ⟨P0, ⟨ad, b, rows, v⟩⟩ := x
 obtain ⟨h1, h2, h3⟩ := hx
 unfold Bld.dead Bld.t
 simp only [Bld.t] at h h1 h2 h3 ⊢
 generalize bytesOf rows = text at *
 subst h2 h3
 cases text with
 | nil => exact str_ok0 (cs := [ad, .nilX]) rfl rfl
 | cons c t => exact str_ok (i := 1) (off := 0) (j := 3) (u := v) (cs := [ad, .own 3 0 (c :: t).length v false]) (l := c :: t) rfl rfl rfl rfl (by simp) h
noncomputable def b1_wsTold : FSp := mkF (fun xs H => (b1H.dec H, aS xs 1)) (fun x => x.1.x.can 1 3 ∧ x.1.x.t.length + x.2.length ≤ 1099511627776) (fun x => [.ptr (.hp 1) 0, .str x.2]) (fun x => x.1.heap) (fun x k => k (.ret (.tuple [.int .i64 x.2.length, .nilIface]) ({ x.1 with x := x.1.x.add 1 3 x.2 } : b1H).heap))
noncomputable def b1_wbTold : FSp := mkF (fun xs H => (b1H.dec H, UInt8.ofNat (aI xs 1).toNat)) (fun x => x.1.x.can 1 3 ∧ x.1.x.t.length ≤ 1073741824) (fun x => [.ptr (.hp 1) 0, .int .u8 x.2.toNat]) (fun x => x.1.heap) (fun x k => k (.ret .nilIface ({ x.1 with x := x.1.x.add 1 3 [x.2] } : b1H).heap))
noncomputable def b1_strTold : FSp := mkF (fun xs H => b1H.dec H) (fun x => x.x.can 1 3 ∧ x.x.t.length ≤ 1099511627776) (fun x => [.ptr (.hp 1) 0]) (fun x => x.heap) (fun x k => k (.ret (.str x.x.t) ({ x with x := x.x.dead } : b1H).heap))
noncomputable def b1_lay (L : Lay) : Lay := ((L.addF 36 b1_wsTold).addF 37 b1_wbTold).addF 38 b1_strTold
theorem b1_ok {L : Lay} (h : L.OK Tryz.prog) : (b1_lay L).OK Tryz.prog :=
 ((h.addF (mkF_ok fun x h => ⟨_, fun k => rfl, b1_ws x.1 x.2 h.1 h.2⟩)).addF (mkF_ok fun x h => ⟨_, fun k => rfl, b1_wb x.1 x.2 h.1 h.2⟩)).addF (mkF_ok fun x h => ⟨_, fun k => rfl, b1_str x h.1 h.2⟩)
end Go.Mu
namespace Go.Mu
open Go Go.Proofs
def digsF : Nat → Nat → List UInt8 → List UInt8
 | 0, _, t => t
 | f + 1, u, t => bif u / 10 == 0 then UInt8.ofNat (48 + u % 10) :: t else digsF f (u / 10) (UInt8.ofNat (48 + u % 10) :: t)
structure PrA where
 n : Int
 at_ : Nat
 u : Nat
 t : List UInt8
def prRows (m : Nat) (t : List UInt8) : List (List AVal) := List.replicate m (byteRow 0) ++ t.map byteRow
abbrev prH (at_ : Nat) (t : List UInt8) : Heap := [.arr 1 (prRows at_ t) 0]
def prIn (H : Heap) (at_ : Nat) : List UInt8 := bytesOf ((rowsO (H.getD 0 (.var []))).drop at_)
def prOut (at_ : Int) (u : Int) (t : List UInt8) : List UInt8 := digsF (at_.toNat - 1) u.toNat t
noncomputable def prSp : LSp := mkL (fun vs _ H => PrA.mk (aI vs 0) (aI vs 2).toNat (aI vs 3).toNat (prIn H (aI vs 2).toNat)) (fun a => a.at_ + a.t.length = 20 ∧ a.u < 10 ^ (a.at_ - 1) ∧ 1 < a.at_) (fun a => [.int .i64 a.n, .eptr 0 0 0 0, .int .i64 a.at_, .int .u64 a.u]) (fun _ => []) (fun a => prH a.at_ a.t)
 (fun a k => k (.exit 0) [.int .i64 a.n, .eptr 0 0 0 0, .int .i64 (20 - (prOut a.at_ a.u a.t).length : Nat)] [] (prH (20 - (prOut a.at_ a.u a.t).length) (prOut a.at_ a.u a.t)))
noncomputable def prFH : FH := { FH.of [(5, loopSpec 34 [0,3,4,5] [] [0,3,4] [] prSp)] with arrs := [3] }
theorem pr_step (n at_ u : Int) (rows : List (List AVal)) (D : List (FuncId × List AVal)) (k : Kont) : lturn Tryz.prog Lay.nil prFH 39 5 [0,3,4,5] [] [0,3,4] [] (stL 34 [0,3,4,5] [.int .i64 n, .eptr 0 0 0 0, .int .i64 at_, .int .u64 u] [] [] [.arr 1 rows 0] D) k = (
 let c0 : Bool := !(u == u && false);
 let n1 : Int := IntKind.i64.wrap (at_ - 1);
 let m2 : Nat := n1.toNat;
 let n3 : Int := IntKind.u64.wrap (u.tdiv 10);
 let z0 := [Obj.arr 1 (rows.set m2 ((rows.getD m2 []).set 0 (AVal.int .u8 (IntKind.u8.wrap (IntKind.u64.wrap (48 + u.tmod 10)))))) 0];
  bif c0 then bif decide (0 ≤ n1) && decide (n1 < 20) then bif decide (m2 < rows.length) && true then bif c0 then bif n3 == 0 then k (AExit.exit 0) (stL 34 [0, 3, 4] [AVal.int .i64 n, AVal.eptr 0 0 0 0, AVal.int .i64 n1] [] [] z0 D) else k AExit.normal (stL 34 [0, 3, 4, 5] [AVal.int .i64 n, AVal.eptr 0 0 0 0, AVal.int .i64 n1, AVal.int .u64 n3] [] [] z0 D) else none else none else none else none) := by kernel_rfl
theorem set_rep {α : Type} (x y : α) (l : List α) : ∀ m : Nat, (List.replicate (m + 1) x ++ l).set m y = List.replicate m x ++ y :: l
 | 0 => rfl
 | m + 1 => by
  rw [List.replicate_succ, List.cons_append, List.set_cons_succ, set_rep x y l m]
  rfl
theorem getD_rep {α : Type} (x d : α) (l : List α) (m : Nat) : (List.replicate (m + 1) x ++ l).getD m d = x := by
 rw [List.getD_eq_getElem?_getD, List.getElem?_append_left (by simp), List.getElem?_replicate]
 simp
theorem prRows_len (m : Nat) (t : List UInt8) : (prRows m t).length = m + t.length := by simp [prRows]
theorem prRows_set (m : Nat) (t : List UInt8) (c : UInt8) : (prRows (m + 1) t).set m (((prRows (m + 1) t).getD m []).set 0 (.int .u8 c.toNat)) = prRows m (c :: t) := by
 unfold prRows
 rw [getD_rep, set_rep]
 rfl
theorem prRows_drop (m : Nat) (t : List UInt8) : (prRows m t).drop m = t.map byteRow := by simp [prRows]
theorem dig_val (u : Nat) : IntKind.u8.wrap (IntKind.u64.wrap (48 + (u : Int).tmod 10)) = ((UInt8.ofNat (48 + u % 10)).toNat : Int) := by
 have e : (u : Int).tmod 10 = ((u % 10 : Nat) : Int) := rfl
 have h : u % 10 < 10 := Nat.mod_lt _ (by decide)
 rw [e, wrapU (by omega) (by omega), wrapB (by omega) (by omega), UInt8.toNat_ofNat', Nat.mod_eq_of_lt (show 48 + u % 10 < 2 ^ 8 by omega)]
 omega
theorem pr_runs (n : Int) : ∀ (m u : Nat) (t : List UInt8), m + 2 + t.length = 20 → u < 10 ^ (m + 1) →
 LoopRuns (lturn Tryz.prog Lay.nil prFH 39 5 [0,3,4,5] [] [0,3,4] []) 34 [0,3,4,5] [] [0,3,4] [] [.int .i64 n, .eptr 0 0 0 0, .int .i64 ((m + 2 : Nat) : Int), .int .u64 u] [] (prH (m + 2) t) (.exit 0)
  [.int .i64 n, .eptr 0 0 0 0, .int .i64 (20 - (digsF (m + 1) u t).length : Nat)] [] (prH (20 - (digsF (m + 1) u t).length) (digsF (m + 1) u t)) := by
 intro m
 induction m with
 | zero =>
  intro u t hl hu
  have key := fun D k => pr_step n ((0 + 2 : Nat) : Int) u (prRows (0 + 2) t) D k
  have e1 : IntKind.i64.wrap (((0 + 2 : Nat) : Int) - 1) = ((0 + 1 : Nat) : Int) := by rw [wrap_of (by omega) (by omega)]; omega
  have e2 : ((u : Int).tdiv 10) = ((u / 10 : Nat) : Int) := rfl
  have h10 : u / 10 = 0 := by omega
  have e3 : IntKind.u64.wrap ((u / 10 : Nat) : Int) = ((u / 10 : Nat) : Int) := wrapU (by omega) (by omega)
  have e4 : (prRows (0 + 2) t).length = 20 := by rw [prRows_len]; omega
  simp only [e1, e2, e3, dig_val, Int.toNat_natCast, e4, prRows_set, h10] at key
  simp (disch := omega) only [dT, cond_true, Bool.and_true, Bool.and_self, Bool.and_false, Bool.not_false] at key
  have e5 : digsF (0 + 1) u t = UInt8.ofNat (48 + u % 10) :: t := by rw [digsF, h10]; rfl
  have e6 : 20 - (UInt8.ofNat (48 + u % 10) :: t).length = 0 + 1 := by rw [List.length_cons]; omega
  rw [e5, e6]
  exact .stop (by simp) key
 | succ m ih =>
  intro u t hl hu
  have key := fun D k => pr_step n ((m + 1 + 2 : Nat) : Int) u (prRows (m + 1 + 2) t) D k
  have hb : 10 ^ (m + 1 + 1) ≤ 10 ^ 19 := Nat.pow_le_pow_right (by decide) (by omega)
  have e1 : IntKind.i64.wrap (((m + 1 + 2 : Nat) : Int) - 1) = ((m + 1 + 1 : Nat) : Int) := by rw [wrap_of (by omega) (by omega)]; omega
  have e2 : ((u : Int).tdiv 10) = ((u / 10 : Nat) : Int) := rfl
  have e3 : IntKind.u64.wrap ((u / 10 : Nat) : Int) = ((u / 10 : Nat) : Int) := wrapU (by omega) (by omega)
  have e4 : (prRows (m + 1 + 2) t).length = 20 := by rw [prRows_len]; omega
  simp only [e1, e2, e3, dig_val, Int.toNat_natCast, e4, prRows_set] at key
  simp (disch := omega) only [dT, cond_true, Bool.and_true, Bool.and_self, Bool.and_false, Bool.not_false] at key
  rw [digsF]
  by_cases h10 : u / 10 = 0
  · simp only [h10] at key ⊢
    have e6 : 20 - (UInt8.ofNat (48 + u % 10) :: t).length = m + 1 + 1 := by rw [List.length_cons]; omega
    show LoopRuns _ _ _ _ _ _ _ _ _ _ [_, _, .int .i64 (20 - (UInt8.ofNat (48 + u % 10) :: t).length : Nat)] _ (prH (20 - (UInt8.ofNat (48 + u % 10) :: t).length) (UInt8.ofNat (48 + u % 10) :: t))
    rw [e6]
    exact .stop (by simp) key
  · have e7 : (((u / 10 : Nat) : Int) == 0) = false := by simp; omega
    have e8 : (u / 10 == 0) = false := by simpa using h10
    simp only [e7, cond_false] at key
    rw [e8]
    have hu2 : u / 10 < 10 ^ (m + 1) := by rw [Nat.pow_succ] at hu; omega
    exact .step key (ih (u / 10) (UInt8.ofNat (48 + u % 10) :: t) (by rw [List.length_cons]; omega) hu2)
theorem prSp_ok : SpOK (lturn Tryz.prog Lay.nil prFH 39 5 [0,3,4,5] [] [0,3,4] []) 34 [0,3,4,5] [] [0,3,4] [] prSp := mkL_ok fun a h => by
 obtain ⟨n, at_, u, t⟩ := a
 obtain ⟨h1, h2, h3⟩ := h
 simp only at h1 h2 h3
 obtain ⟨m, rfl⟩ : ∃ m, at_ = m + 2 := ⟨at_ - 2, by omega⟩
 exact ⟨_, _, _, _, fun k => rfl, pr_runs n m u t h1 h2⟩
noncomputable def layPr : Lay := Lay.nil.addL 39 prFH
theorem layPr_ok : layPr.OK Tryz.prog := Lay.nil_ok.loop1 (id := 5) (by kernel_rfl) (by kernel_rfl) (by kernel_rfl) prSp_ok
theorem pr_fun (n : Int) (k : Out → Ans) (c0 : Bool) (e_c0 : c0 = (decide (n < 0)))
 (n1 : Int) (e_n1 : n1 = (IntKind.u64.wrap (0 - IntKind.u64.wrap n)))
 (m2 : Nat) (e_m2 : m2 = (n1.toNat))
 (n3 : Int) (e_n3 : n3 = ((↑m2 : Int)))
 (l4 : List UInt8) (e_l4 : l4 = (prOut (↑(Int.toNat 20) : Int) n3
  (prIn
   [Obj.arr 1
    [[AVal.int .u8 0], [AVal.int .u8 0], [AVal.int .u8 0], [AVal.int .u8 0],
      [AVal.int .u8 0], [AVal.int .u8 0], [AVal.int .u8 0], [AVal.int .u8 0],
      [AVal.int .u8 0], [AVal.int .u8 0], [AVal.int .u8 0], [AVal.int .u8 0],
      [AVal.int .u8 0], [AVal.int .u8 0], [AVal.int .u8 0], [AVal.int .u8 0],
      [AVal.int .u8 0], [AVal.int .u8 0], [AVal.int .u8 0], [AVal.int .u8 0]]
    0]
   (Int.toNat 20))))
 (m5 : Nat) (e_m5 : m5 = (20 - l4.length))
 (m6 : Nat) (e_m6 : m6 = ((prRows m5 l4).length))
 (c7 : Bool) (e_c7 : c7 = (decide (20 ≤ m6)))
 (n8 : Int) (e_n8 : n8 = ((↑m5 : Int)))
 (n9 : Int) (e_n9 : n9 = (IntKind.i64.wrap (n8 - 1)))
 (c10 : Bool) (e_c10 : c10 = (decide (0 ≤ n9)))
 (c11 : Bool) (e_c11 : c11 = (decide (n9 ≤ 20)))
 (m12 : Nat) (e_m12 : m12 = (n9.toNat))
 (m13 : Nat) (e_m13 : m13 = ((20 - n9).toNat))
 (m14 : Nat) (e_m14 : m14 = (((prRows m5 l4).set m12 (((prRows m5 l4).getD m12 []).set 0 (AVal.int .u8 45))).length))
 (m15 : Nat) (e_m15 : m15 = (n8.toNat))
 (m16 : Nat) (e_m16 : m16 = ((20 - n8).toNat))
 (n17 : Int) (e_n17 : n17 = ((↑(IntKind.u64.wrap n).toNat : Int)))
 (l18 : List UInt8) (e_l18 : l18 = (prOut (↑(Int.toNat 20) : Int) n17
  (prIn
   [Obj.arr 1
    [[AVal.int .u8 0], [AVal.int .u8 0], [AVal.int .u8 0], [AVal.int .u8 0],
      [AVal.int .u8 0], [AVal.int .u8 0], [AVal.int .u8 0], [AVal.int .u8 0],
      [AVal.int .u8 0], [AVal.int .u8 0], [AVal.int .u8 0], [AVal.int .u8 0],
      [AVal.int .u8 0], [AVal.int .u8 0], [AVal.int .u8 0], [AVal.int .u8 0],
      [AVal.int .u8 0], [AVal.int .u8 0], [AVal.int .u8 0], [AVal.int .u8 0]]
    0]
   (Int.toNat 20))))
 (m19 : Nat) (e_m19 : m19 = (20 - l18.length))
 (m20 : Nat) (e_m20 : m20 = ((prRows m19 l18).length))
 (c21 : Bool) (e_c21 : c21 = (decide (20 ≤ m20)))
 (n22 : Int) (e_n22 : n22 = ((↑m19 : Int)))
 (n23 : Int) (e_n23 : n23 = (IntKind.i64.wrap (n22 - 1)))
 (c24 : Bool) (e_c24 : c24 = (decide (0 ≤ n23)))
 (c25 : Bool) (e_c25 : c25 = (decide (n23 ≤ 20)))
 (m26 : Nat) (e_m26 : m26 = (n23.toNat))
 (m27 : Nat) (e_m27 : m27 = ((20 - n23).toNat))
 (m28 : Nat) (e_m28 : m28 = (((prRows m19 l18).set m26 (((prRows m19 l18).getD m26 []).set 0 (AVal.int .u8 45))).length))
 (m29 : Nat) (e_m29 : m29 = (n22.toNat))
 (m30 : Nat) (e_m30 : m30 = ((20 - n22).toNat)) : iFun Tryz.prog (layPr.hd Tryz.prog) layPr.fhs 0 39 [.int .i64 n] [] k = (
 bif c0 then
 bif
 tst
 ((Int.toNat 20 + 0 = 20 ∧ m2 < 10 ^ (Int.toNat 20 - 1) ∧ 1 < Int.toNat 20) ∧
 SubTL [AVal.int .i64 n, AVal.eptr 0 0 0 0, AVal.int .i64 20, AVal.int .u64 n1]
 [AVal.int .i64 n, AVal.eptr 0 0 0 0, AVal.int .i64 (↑(Int.toNat 20) : Int),
 AVal.int .u64 n3] ∧
 ([] : List (List AVal)) = [] ∧
 [Obj.arr 1
 [[AVal.int .u8 0], [AVal.int .u8 0], [AVal.int .u8 0], [AVal.int .u8 0],
 [AVal.int .u8 0], [AVal.int .u8 0], [AVal.int .u8 0],
 [AVal.int .u8 0], [AVal.int .u8 0], [AVal.int .u8 0],
 [AVal.int .u8 0], [AVal.int .u8 0], [AVal.int .u8 0],
 [AVal.int .u8 0], [AVal.int .u8 0], [AVal.int .u8 0],
 [AVal.int .u8 0], [AVal.int .u8 0], [AVal.int .u8 0],
 [AVal.int .u8 0]]
 0] =
 prH (Int.toNat 20)
 (prIn
 [Obj.arr 1
 [[AVal.int .u8 0], [AVal.int .u8 0], [AVal.int .u8 0],
 [AVal.int .u8 0], [AVal.int .u8 0], [AVal.int .u8 0],
 [AVal.int .u8 0], [AVal.int .u8 0], [AVal.int .u8 0],
 [AVal.int .u8 0], [AVal.int .u8 0], [AVal.int .u8 0],
 [AVal.int .u8 0], [AVal.int .u8 0], [AVal.int .u8 0],
 [AVal.int .u8 0], [AVal.int .u8 0], [AVal.int .u8 0],
 [AVal.int .u8 0], [AVal.int .u8 0]]
 0]
 (Int.toNat 20))) then
 bif c0 then
 bif c7 && c10 && c11 && true then
 bif decide (m12 < m6) && true && decide (0 < m13) then
 bif decide (20 ≤ m14) && c10 && c11 && true then
 bif
 decide (m12 + m13 ≤ m14) &&
 (List.take m13
 (List.drop m12
 ((prRows m5 l4).set m12 (((prRows m5 l4).getD m12 []).set 0 (AVal.int .u8 45))))).all
 fun (r : List AVal) =>
 match r with
 | [v] => isInt IntKind.u8 v
 | x => false then
 k
 (Out.ret
 (AVal.str
 (List.map (fun (r : List AVal) => UInt8.ofNat (intOf (r.getD 0 AVal.undef)).toNat)
 (List.take m13
 (List.drop m12
 ((prRows m5 l4).set m12 (((prRows m5 l4).getD m12 []).set 0 (AVal.int .u8 45)))))))
 [Obj.arr 1 ((prRows m5 l4).set m12 (((prRows m5 l4).getD m12 []).set 0 (AVal.int .u8 45))) 0])
 else none
 else none
 else none
 else none
 else
 bif c7 && true && decide (n8 ≤ 20) && true then
 bif
 decide (m15 + m16 ≤ m6) &&
 (List.take m16 (List.drop m15 (prRows m5 l4))).all fun (r : List AVal) =>
 match r with
 | [v] => isInt IntKind.u8 v
 | x => false then
 k
 (Out.ret
 (AVal.str
 (List.map (fun (r : List AVal) => UInt8.ofNat (intOf (r.getD 0 AVal.undef)).toNat)
 (List.take m16 (List.drop m15 (prRows m5 l4)))))
 (prH m5 l4))
 else none
 else none
 else none
 else
 bif
 tst
 ((Int.toNat 20 + 0 = 20 ∧ (IntKind.u64.wrap n).toNat < 10 ^ (Int.toNat 20 - 1) ∧ 1 < Int.toNat 20) ∧
 SubTL
 [AVal.int .i64 n, AVal.eptr 0 0 0 0, AVal.int .i64 20,
 AVal.int .u64 (IntKind.u64.wrap n)]
 [AVal.int .i64 n, AVal.eptr 0 0 0 0, AVal.int .i64 (↑(Int.toNat 20) : Int),
 AVal.int .u64 n17] ∧
 ([] : List (List AVal)) = [] ∧
 [Obj.arr 1
 [[AVal.int .u8 0], [AVal.int .u8 0], [AVal.int .u8 0], [AVal.int .u8 0],
 [AVal.int .u8 0], [AVal.int .u8 0], [AVal.int .u8 0],
 [AVal.int .u8 0], [AVal.int .u8 0], [AVal.int .u8 0],
 [AVal.int .u8 0], [AVal.int .u8 0], [AVal.int .u8 0],
 [AVal.int .u8 0], [AVal.int .u8 0], [AVal.int .u8 0],
 [AVal.int .u8 0], [AVal.int .u8 0], [AVal.int .u8 0],
 [AVal.int .u8 0]]
 0] =
 prH (Int.toNat 20)
 (prIn
 [Obj.arr 1
 [[AVal.int .u8 0], [AVal.int .u8 0], [AVal.int .u8 0],
 [AVal.int .u8 0], [AVal.int .u8 0], [AVal.int .u8 0],
 [AVal.int .u8 0], [AVal.int .u8 0], [AVal.int .u8 0],
 [AVal.int .u8 0], [AVal.int .u8 0], [AVal.int .u8 0],
 [AVal.int .u8 0], [AVal.int .u8 0], [AVal.int .u8 0],
 [AVal.int .u8 0], [AVal.int .u8 0], [AVal.int .u8 0],
 [AVal.int .u8 0], [AVal.int .u8 0]]
 0]
 (Int.toNat 20))) then
 bif c0 then
 bif c21 && c24 && c25 && true then
 bif decide (m26 < m20) && true && decide (0 < m27) then
 bif decide (20 ≤ m28) && c24 && c25 && true then
 bif
 decide (m26 + m27 ≤ m28) &&
 (List.take m27
 (List.drop m26
 ((prRows m19 l18).set m26
 (((prRows m19 l18).getD m26 []).set 0 (AVal.int .u8 45))))).all
 fun (r : List AVal) =>
 match r with
 | [v] => isInt IntKind.u8 v
 | x => false then
 k
 (Out.ret
 (AVal.str
 (List.map (fun (r : List AVal) => UInt8.ofNat (intOf (r.getD 0 AVal.undef)).toNat)
 (List.take m27
 (List.drop m26
 ((prRows m19 l18).set m26 (((prRows m19 l18).getD m26 []).set 0 (AVal.int .u8 45)))))))
 [Obj.arr 1 ((prRows m19 l18).set m26 (((prRows m19 l18).getD m26 []).set 0 (AVal.int .u8 45)))
 0])
 else none
 else none
 else none
 else none
 else
 bif c21 && true && decide (n22 ≤ 20) && true then
 bif
 decide (m29 + m30 ≤ m20) &&
 (List.take m30 (List.drop m29 (prRows m19 l18))).all fun (r : List AVal) =>
 match r with
 | [v] => isInt IntKind.u8 v
 | x => false then
 k
 (Out.ret
 (AVal.str
 (List.map (fun (r : List AVal) => UInt8.ofNat (intOf (r.getD 0 AVal.undef)).toNat)
 (List.take m30 (List.drop m29 (prRows m19 l18)))))
 (prH m19 l18))
 else none
 else none
 else none) := by
 subst e_c0 e_n1 e_m2 e_n3 e_l4 e_m5 e_m6 e_c7 e_n8 e_n9 e_c10 e_c11 e_m12 e_m13 e_m14 e_m15 e_m16 e_n17 e_l18 e_m19 e_m20 e_c21 e_n22 e_n23 e_c24 e_c25 e_m26 e_m27 e_m28 e_m29 e_m30
 kernel_rfl
def printM (n : Int) : List UInt8 := bif decide (n < 0) then 45 :: digsF 19 n.natAbs [] else digsF 19 n.natAbs []
theorem digsF_len : ∀ (f u : Nat) (t : List UInt8), (digsF f u t).length ≤ t.length + f
 | 0, u, t => Nat.le_refl _
 | f + 1, u, t => by
  rw [digsF]
  cases u / 10 == 0 with
  | true => simp
  | false =>
   have := digsF_len f (u / 10) (UInt8.ofNat (48 + u % 10) :: t)
   simp only [cond_false]
   rw [List.length_cons] at this
   omega
theorem all_map (t : List UInt8) : ((t.map byteRow).all fun (r : List AVal) => match r with | [v] => isInt IntKind.u8 v | x => false) = true := by
 rw [List.all_map, List.all_eq_true]
 intro c hc
 rfl
theorem back_map (t : List UInt8) : List.map (fun (r : List AVal) => UInt8.ofNat (intOf (r.getD 0 AVal.undef)).toNat) (t.map byteRow) = t := bytesOf_map t
theorem pr_neg (n : Int) (h : -9223372036854775808 ≤ n) (h0 : n < 0) (k : Out → Ans) : ∃ G, ∀ k, iFun Tryz.prog (layPr.hd Tryz.prog) layPr.fhs 0 39 [.int .i64 n] [] k = k (.ret (.str (45 :: digsF 19 n.natAbs [])) G) := by
 have hL := digsF_len 19 n.natAbs []
 obtain ⟨L, e⟩ : ∃ L, L = digsF 19 n.natAbs [] := ⟨_, rfl⟩
 rw [← e] at hL ⊢
 simp only [List.length_nil, Nat.zero_add] at hL
 obtain ⟨m, hm⟩ : ∃ m, 20 - L.length = m + 1 := ⟨19 - L.length, by omega⟩
 have hw : IntKind.u64.wrap (0 - IntKind.u64.wrap n) = (n.natAbs : Int) := by
  simp [IntKind.wrap, IntKind.signed, IntKind.bits]
  omega
 have e1 : IntKind.i64.wrap (((m + 1 : Nat) : Int) - 1) = ((m : Nat) : Int) := by rw [wrap_of (by omega) (by omega)]; omega
 refine ⟨[.arr 1 (prRows m (45 :: L)) 0], fun k => (pr_fun n k true (dT h0).symm _ hw.symm n.natAbs (Int.toNat_natCast _).symm _ rfl L e (m + 1) hm.symm 20 (by rw [prRows_len]; omega) true rfl ((m + 1 : Nat) : Int) rfl (m : Int) e1.symm true (dT (by omega)).symm true (dT (by omega)).symm m (Int.toNat_natCast _).symm (L.length + 1) (by omega) 20 (by rw [List.length_set, prRows_len]; omega) (m + 1) (Int.toNat_natCast _).symm L.length (by omega) _ rfl _ rfl _ rfl _ rfl _ rfl _ rfl _ rfl _ rfl _ rfl _ rfl _ rfl _ rfl _ rfl _ rfl).trans ?_⟩
 · have hu : n.natAbs < 10 ^ (Int.toNat 20 - 1) := by
    show n.natAbs < 10 ^ 19
    omega
   rw [tst_true ⟨⟨rfl, hu, by decide⟩, .refl _, rfl, rfl⟩]
   have e2 : (prRows (m + 1) L).set m (((prRows (m + 1) L).getD m []).set 0 (.int .u8 45)) = prRows m (45 :: L) := prRows_set m L 45
   have e3 : List.take (L.length + 1) ((45 :: L).map byteRow) = (45 :: L).map byteRow := List.take_of_length_le (by simp)
   rw [e2, prRows_drop, e3, all_map, back_map]
   simp (disch := omega) only [dT, cond_true, Bool.and_true, Bool.and_self]
theorem pr_pos (n : Int) (h : n ≤ 9223372036854775807) (h0 : ¬ n < 0) : ∃ G, ∀ k, iFun Tryz.prog (layPr.hd Tryz.prog) layPr.fhs 0 39 [.int .i64 n] [] k = k (.ret (.str (digsF 19 n.natAbs [])) G) := by
 have hL := digsF_len 19 n.natAbs []
 obtain ⟨L, e⟩ : ∃ L, L = digsF 19 n.natAbs [] := ⟨_, rfl⟩
 rw [← e] at hL ⊢
 simp only [List.length_nil, Nat.zero_add] at hL
 have hw : IntKind.u64.wrap n = (n.natAbs : Int) := by rw [wrapU (by omega) (by omega)]; omega
 obtain ⟨m, hm⟩ : ∃ m, 20 - L.length = m := ⟨_, rfl⟩
 have hw2 : ((IntKind.u64.wrap n).toNat : Int) = (n.natAbs : Int) := by rw [hw]; rfl
 refine ⟨prH m L, fun k => (pr_fun n k false (dF h0).symm _ rfl _ rfl _ rfl _ rfl _ rfl _ rfl _ rfl _ rfl _ rfl _ rfl _ rfl _ rfl _ rfl _ rfl _ rfl _ rfl (n.natAbs : Int) hw2.symm L e m hm.symm 20 (by rw [prRows_len]; omega) true rfl (m : Int) rfl _ rfl _ rfl _ rfl _ rfl _ rfl _ rfl m (Int.toNat_natCast _).symm L.length (by omega)).trans ?_⟩
 · have hu : (IntKind.u64.wrap n).toNat < 10 ^ (Int.toNat 20 - 1) := by
    show (IntKind.u64.wrap n).toNat < 10 ^ 19
    rw [hw]; omega
   rw [hw] at hu
   rw [cond_false, hw]
   rw [tst_true ⟨⟨rfl, hu, by decide⟩, .refl _, rfl, rfl⟩]
   have e3 : List.take L.length (L.map byteRow) = L.map byteRow := List.take_of_length_le (by simp)
   rw [prRows_drop, e3, all_map, back_map]
   simp (disch := omega) only [dT, cond_true, cond_false, Bool.and_true, Bool.and_self]
theorem pr_ok (n : Int) (h1 : -9223372036854775808 ≤ n) (h2 : n ≤ 9223372036854775807) : CallOK Tryz.prog 39 [.int .i64 n] [] (.ret (.str (printM n)) []) := by
 unfold printM
 by_cases h0 : n < 0
 · rw [dT h0]
   obtain ⟨G, h⟩ := pr_neg n h1 h0 (fun _ => none)
   exact layPr_ok.callF (G := G) rfl h
 · rw [dF h0]
   obtain ⟨G, h⟩ := pr_pos n h2 h0
   exact layPr_ok.callF (G := G) rfl h
def prTold : FSp := mkFS [.i .i64] (fun xs => decide (-9223372036854775808 ≤ aI xs 0 ∧ aI xs 0 ≤ 9223372036854775807)) (fun xs k => k (.ret (.str (printM (aI xs 0))) []))
theorem prTold_ok : ∀ xs H k out, prTold xs H k = some out → ∃ o, CallOK Tryz.prog 39 xs H o ∧ k o = some out := mkFS_ok fun ys xs e h => by
 obtain ⟨n, rfl⟩ : ∃ n, xs = [.int .i64 n] := ⟨_, e⟩
 replace h : -9223372036854775808 ≤ n ∧ n ≤ 9223372036854775807 := of_decide_eq_true h
 exact ⟨_, fun k => rfl, pr_ok n h.1 h.2⟩
end Go.Mu
