/-
  What octets.Name and muslinref01.Name tell: one and the same.
-/
import Derived.Test.YtlbmedmddoljnaaMuLay
import Derived.Test.YtlbmedmddoljnaaProg
import Derived.KernelRfl
set_option linter.unusedVariables false
set_option linter.unusedSimpArgs false
set_option maxRecDepth 100000
namespace Go.Mu
open Go Go.Proofs

def oBad (c : UInt8) : Bool := cond (cond (!cond (decide (IntKind.u8.wrap (BitVec.ofInt 8 (c.toNat : Int) ||| BitVec.ofInt 8 32).toNat ≥ 97)) (decide (IntKind.u8.wrap (BitVec.ofInt 8 (c.toNat : Int) ||| BitVec.ofInt 8 32).toNat ≤ 122)) false) ((c.toNat : Int) != 95) false)
  (cond (decide ((c.toNat : Int) < 48)) true (decide ((c.toNat : Int) > 57))) false
def oIdxFH : FH := .of [(2, loopSpec 19 [0,1,7,8] [] [4] [] (idxSp wfB decB oBad 117))]
theorem oIdx_step (full : Bool) (l : List UInt8) (i : Nat) (H : Heap) (D : List (FuncId × List AVal)) (k : Kont) : lturn Try.prog Lay.nil oIdxFH 120 2 [0,1,7,8] [] [4] [] (stL 19 [0,1,7,8] [encL full byteRow 0 l, .func 117 [], .int .i64 l.length, .int .i64 i] [] [] H D) k =
    cond (decide ((i : Int) < l.length)) (cond (decide ((i : Int) < l.length)) (cond (oBad (l.getD (i : Int).toNat 0)) (k .ret (stL 19 [4] [.int .i64 i] [] [] H D)) (k .normal (stL 19 [0,1,7,8] [encL full byteRow 0 l, .func 117 [], .int .i64 l.length, .int .i64 (IntKind.i64.wrap ((i : Int) + 1))] [] [] H D))) none)
      (k (.exit 0) (stL 19 [4] [.undef] [] [] H D)) := by kernel_rfl
def layA : Lay := Lay.nil.addL 120 oIdxFH
theorem layA_ok : layA.OK Try.prog := Lay.nil_ok.loop1 (id := 2) (by kernel_rfl) (by kernel_rfl) (by kernel_rfl) (idxSp_ok wfB_sub oIdx_step)
def rBadA (c : UInt8) : Bool := cond (!cond (cond (decide ((c.toNat : Int) ≥ 97)) (decide ((c.toNat : Int) ≤ 122)) false) true (cond (decide ((c.toNat : Int) ≥ 65)) (decide ((c.toNat : Int) ≤ 90)) false)) ((c.toNat : Int) != 95) false
def rDig (c : UInt8) : Bool := cond (decide ((c.toNat : Int) ≥ 48)) (decide ((c.toNat : Int) ≤ 57)) false
theorem oBad_eq (c : UInt8) : oBad c = (rBadA c && !rDig c) := by
  have h : ∀ n : Fin 256, oBad (UInt8.ofNat n) = (rBadA (UInt8.ofNat n) && !rDig (UInt8.ofNat n)) := by decide +kernel
  have := h ⟨c.toNat, c.toNat_lt⟩
  simpa using this
theorem rDig_bad (c : UInt8) : (rDig c || oBad c) = rBadA c := by
  have h : ∀ n : Fin 256, (rDig (UInt8.ofNat n) || oBad (UInt8.ofNat n)) = rBadA (UInt8.ofNat n) := by decide +kernel
  have := h ⟨c.toNat, c.toNat_lt⟩
  simpa using this
def nmHit (s : List UInt8) (i : Nat) : Bool := rBadA (s.getD i 0) && (i == 0 || !rDig (s.getD i 0))
/-- is a text a name? -/
def nameB (s : List UInt8) : Bool := decide (1 ≤ s.length ∧ s.length ≤ 32) && !(List.range s.length).any (nmHit s)
theorem nmHit_any (c : UInt8) (t : List UInt8) : (List.range (c :: t).length).any (nmHit (c :: t)) = (rBadA c || t.any oBad) := by
  rw [List.length_cons, List.range_succ_eq_map, List.any_cons, List.any_map]
  have h0 : nmHit (c :: t) 0 = rBadA c := by simp [nmHit]
  have h1 : (nmHit (c :: t) ∘ Nat.succ) = fun i => oBad (t.getD i 0) := by
    funext i
    simp [nmHit, oBad_eq, List.getD_eq_getElem?_getD]
  rw [h0, h1, any_getD]
def rNameSp : LSp := fun vs bs H k => match vs with
  | [.str s, .int .i64 z] => cond (z == 0 && decide (s.length ≤ 4611686018427387903) && bs.isEmpty) (cond ((List.range s.length).any (nmHit s)) (k .ret [.str s, .bool false] [] H) (k (.exit 0) [.str s, .undef] [] H)) none
  | _ => none
def rNameFH : FH := .of [(2, loopSpec 40 [0,3] [] [0,2] [] rNameSp)]
noncomputable abbrev rNameTurn := lturn Try.prog layA rNameFH 83 2 [0,3] [] [0,2] []
theorem rName_step0 (i : Nat) (s : List UInt8) (H : Heap) (D : List (FuncId × List AVal)) (k : Kont) : rNameTurn (stL 40 [0,3] [.str s, .int .i64 i] [] [] H D) k =
  cond (decide ((i : Int) < s.length)) (cond (decide ((i : Int) < s.length))
    (cond (decide ((i : Int) < s.length) || !!cond (cond (decide (((s.getD (i : Int).toNat 0).toNat : Int) ≥ 97)) (decide (((s.getD (i : Int).toNat 0).toNat : Int) ≤ 122)) false) true (cond (decide (((s.getD (i : Int).toNat 0).toNat : Int) ≥ 65)) (decide (((s.getD (i : Int).toNat 0).toNat : Int) ≤ 90)) false))
      (cond (decide ((i : Int) < s.length) || !(rBadA (s.getD (i : Int).toNat 0) && !((i : Int) == 0)))
        (cond (cond (rBadA (s.getD (i : Int).toNat 0)) (cond ((i : Int) == 0) true (!rDig (s.getD (i : Int).toNat 0))) false) (k .ret (stL 40 [0,2] [.str s, .bool false] [] [] H D)) (k .normal (stL 40 [0,3] [.str s, .int .i64 (IntKind.i64.wrap ((i : Int) + 1))] [] [] H D)))
        none) none) none)
  (k (.exit 0) (stL 40 [0,2] [.str s, .undef] [] [] H D)) := by kernel_rfl
theorem rName_step (i : Nat) (s : List UInt8) (H : Heap) (D : List (FuncId × List AVal)) (k : Kont) (hi : i < s.length) (hs : s.length ≤ 4611686018427387903) : rNameTurn (stL 40 [0,3] [.str s, .int .i64 i] [] [] H D) k =
    cond (nmHit s i) (k .ret (stL 40 [0,2] [.str s, .bool false] [] [] H D)) (k .normal (stL 40 [0,3] [.str s, .int .i64 ((i + 1 : Nat) : Int)] [] [] H D)) := by
  rw [rName_step0, decide_eq_true (show (i : Int) < s.length by omega), wrap_add1 (by omega)]
  have e : ((i : Int) == 0) = (i == 0) := by
    rw [Bool.eq_iff_iff]; simp
  simp only [e, nmHit, Int.toNat_natCast, Bool.true_or, cond_true]
  cases rBadA (s.getD i 0) <;> cases (i == 0) <;> cases rDig (s.getD i 0) <;> rfl
theorem rNameSp_ok : SpOK rNameTurn 40 [0,3] [] [0,2] [] rNameSp := by
  intro vs bs H k out ho
  unfold rNameSp at ho
  split at ho
  case h_2 => simp at ho
  rename_i s z
  rw [Bool.cond_eq_ite] at ho
  split at ho
  case isFalse => simp at ho
  rename_i hc
  simp only [Bool.and_eq_true, beq_iff_eq, decide_eq_true_eq, List.isEmpty_iff] at hc
  obtain ⟨⟨rfl, hn⟩, rfl⟩ := hc
  have hrun := fun D k => search_any (turn := rNameTurn) (S := fun i => stL 40 [0,3] [.str s, .int .i64 (i : Nat)] [] [] H D) (hit := nmHit s) (n := s.length) (e0 := .exit 0) (e1 := .ret) (R0 := stL 40 [0,2] [.str s, .undef] [] [] H D) (R1 := stL 40 [0,2] [.str s, .bool false] [] [] H D)
    (fun i k hi => rName_step i s H D k hi hn) (fun k => by rw [rName_step0, decide_eq_false (by omega)]; rfl) (by simp) (by simp) k
  cases ha : (List.range s.length).any (nmHit s) with
  | true =>
    rw [ha] at ho
    exact ⟨_, _, _, _, _, _, .refl _, ⟨_, fun D k => (hrun D k).trans (by rw [ha]; rfl)⟩, .refl _, ho⟩
  | false =>
    rw [ha] at ho
    exact ⟨_, _, _, _, _, _, .refl _, ⟨_, fun D k => (hrun D k).trans (by rw [ha]; rfl)⟩, .refl _, ho⟩
def layB : Lay := layA.addL 83 rNameFH
theorem layB_ok : layB.OK Try.prog := layA_ok.loop1 (id := 2) (by kernel_rfl) (by kernel_rfl) (by kernel_rfl) rNameSp_ok
theorem rName_fun (s : List UInt8) (k : Out → Ans) : iFun Try.prog (layB.hd Try.prog) layB.fhs 0 83 [.str s] [] k =
    cond (true && decide (s.length ≤ 4611686018427387903) && true) (cond ((List.range s.length).any (nmHit s)) (k (.ret (.bool false) [])) (k (.ret (.bool (cond (decide ((s.length : Int) ≥ 1)) (decide ((s.length : Int) ≤ 32)) false)) []))) none := by kernel_rfl
theorem oName_fun (s : List UInt8) (k : Out → Ans) : iFun Try.prog (layB.hd Try.prog) layB.fhs 0 111 [.str s] [] k =
    cond (decide ((0 : Int) < s.length) || !!cond (s == []) true (decide ((s.length : Int) > 32)))
      (cond (decide ((0 : Int) < s.length) || !((!cond (s == []) true (decide ((s.length : Int) > 32))) && decide (((s.getD 0 0).toNat : Int) ≥ 48)))
        (cond (cond (cond (s == []) true (decide ((s.length : Int) > 32))) true (rDig (s.getD 0 0))) (k (.ret (.bool false) []))
          (cond (wfL wfB (encL false byteRow 0 s) && true && ((s.length : Int) == s.length) && true && decide (s.length ≤ 1099511627776) && true)
            (cond ((decL decB (encL false byteRow 0 s)).any oBad) (k (.ret (.bool false) [])) (k (.ret (.bool true) []))) none)) none) none := by kernel_rfl
theorem oName_call (s : List UInt8) (k : Out → Ans) : iFun Try.prog (layB.hd Try.prog) layB.fhs 0 111 [.str s] [] k = k (.ret (.bool (nameB s)) []) := by
  rw [oName_fun, wfL_encL wfB_enc, decL_encL decB_enc]
  cases s with
  | nil => rfl
  | cons c t =>
    have h0 : decide ((0 : Int) < ((c :: t).length : Int)) = true := by simp
    have h1 : ((c :: t) == []) = false := rfl
    rw [h0, h1]
    unfold nameB
    rw [nmHit_any]
    by_cases hl : (c :: t).length ≤ 32
    · rw [decide_eq_false (show ¬ (((c :: t).length : Int) > 32) by omega), decide_eq_true (show 1 ≤ (c :: t).length ∧ (c :: t).length ≤ 32 from ⟨by simp, hl⟩), decide_eq_true (show (c :: t).length ≤ 1099511627776 by omega)]
      simp only [List.getD_cons_zero, List.any_cons, beq_self_eq_true, Bool.true_or, Bool.and_self, cond_true, cond_false, Bool.true_and]
      rw [← rDig_bad c]
      cases rDig c <;> cases oBad c <;> cases t.any oBad <;> rfl
    · rw [decide_eq_true (show (((c :: t).length : Int) > 32) by omega), decide_eq_false (show ¬ (1 ≤ (c :: t).length ∧ (c :: t).length ≤ 32) from fun h => hl h.2)]
      rfl
theorem rName_call (s : List UInt8) (hs : s.length ≤ 4611686018427387903) (k : Out → Ans) : iFun Try.prog (layB.hd Try.prog) layB.fhs 0 83 [.str s] [] k = k (.ret (.bool (nameB s)) []) := by
  rw [rName_fun, decide_eq_true hs]
  unfold nameB
  have e : cond (decide ((s.length : Int) ≥ 1)) (decide ((s.length : Int) ≤ 32)) false = decide (1 ≤ s.length ∧ s.length ≤ 32) := by
    by_cases h1 : 1 ≤ s.length
    · rw [decide_eq_true (show (s.length : Int) ≥ 1 by omega)]
      by_cases h2 : s.length ≤ 32
      · rw [decide_eq_true (show (s.length : Int) ≤ 32 by omega), decide_eq_true ⟨h1, h2⟩]; rfl
      · rw [decide_eq_false (show ¬ (s.length : Int) ≤ 32 by omega), decide_eq_false (show ¬ (1 ≤ s.length ∧ s.length ≤ 32) from fun h => h2 h.2)]; rfl
    · rw [decide_eq_false (show ¬ (s.length : Int) ≥ 1 by omega), decide_eq_false (show ¬ (1 ≤ s.length ∧ s.length ≤ 32) from fun h => h1 h.1)]; rfl
  rw [e]
  cases (List.range s.length).any (nmHit s) <;> cases decide (1 ≤ s.length ∧ s.length ≤ 32) <;> rfl
end Go.Mu
