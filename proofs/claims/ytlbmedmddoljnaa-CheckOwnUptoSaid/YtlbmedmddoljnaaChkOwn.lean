/-
  What muslinlaw22.CheckOwn answers: true.
-/
import Derived.Test.YtlbmedmddoljnaaChkNames
import Derived.Test.YtlbmedmddoljnaaChkAlive
set_option linter.unusedVariables false
set_option linter.unusedSimpArgs false
set_option maxRecDepth 100000
namespace Go.Mu
open Go Go.Proofs
def spoilt : AVal := .str [115, 112, 111, 105, 108, 116]
def own5 : LSp := fun vs bs H k => match vs, H with
  | [x, .own 0 0 n va false, b, .int .i64 z], [.arr 1 rA va', X] => cond (z == 0 && va' == va && rA.length == n && decide (n ≤ 1048576) && rA.all (fun r => r.length == 1) && bs.isEmpty)
      (k (.exit 0) [x, b] [] [.arr 1 (List.replicate n [spoilt]) va, X]) none
  | [x, .list true 0 r, b, .int .i64 z], H => cond (z == 0 && bs.isEmpty) (k (.exit 0) [x, b] [] H) none
  | _, _ => none
def rowsAre (n : Nat) (row : Nat → List AVal) (rB : List (List AVal)) : Bool := (List.range n).all fun i => match rB.getD i [] with
  | [.str s] => s == nmOf row i
  | _ => false
def own9 : LSp := fun vs bs H k => match vs, H with
  | [.list full n row, .own 1 0 n' vb false, .int .i64 z], [X, .arr 1 rB vb'] => cond (z == 0 && vb' == vb && n' == n && rB.length == n && decide (n ≤ 1048576) && okDefs n row && rowsAre n row rB && bs.isEmpty)
      (k (.exit 2) [.list full n row, .undef, .own 1 0 n vb false] [] [X, .arr 1 rB vb]) none
  | [.list full n row, b, .int .i64 z], H => cond (n == 0 && z == 0 && bs.isEmpty) (k (.exit 2) [.list full n row, .undef, b] [] H) none
  | _, _ => none
def ownFH : FH := { thaw := [12], loops := fun i => if i = 5 then some (loopSpec 43 [0,3,4,5] [] [0,4] [] own5) else if i = 9 then some (loopSpec 43 [0,4,6] [] [0,2,4] [] own9) else none }
def ownTab : FuncId → Option FSp := fun g => if g = 12 then some namesTold else if g = 8 then some aliveTold else none
theorem ownTab_ok : HOK Try.prog (hd ownTab) := hd_ok (fun g s h => by
  unfold ownTab at h
  split at h
  · rename_i e; subst e; cases h; exact namesTold_ok
  · split at h
    · rename_i e; subst e; cases h; exact aliveTold_ok
    · cases h)
abbrev own5St (x b : AVal) (n va : Nat) (i : Int) (H : Heap) (D : List (FuncId × List AVal)) : St := stL 43 [0,3,4,5] [x, .own 0 0 n va false, b, .int .i64 i] [] [] H D
noncomputable abbrev own5Turn (h : Hd) (F : Nat) := turn Try.prog h (only 4 ownFH) F 4 5 [0,3,4,5] [] [0,4] []
noncomputable abbrev own9Turn (h : Hd) (F : Nat) := turn Try.prog h (only 4 ownFH) F 4 9 [0,4,6] [] [0,2,4] []
theorem own5_step (h : Hd) (F n i va : Nat) (x b : AVal) (rA : List (List AVal)) (X : Obj) (D : List (FuncId × List AVal)) (k : Kont) : own5Turn h F (own5St x b n va i [.arr 1 rA va, X] D) k =
  cond (decide ((i : Int) < n)) (cond (va == va && true && decide ((i : Int) < n)) (cond (va == va && decide (0 + (i : Int).toNat < rA.length) && true)
    (k .normal (own5St x b n va (IntKind.i64.wrap ((i : Int) + 1)) [.arr 1 (rA.set (0 + (i : Int).toNat) ((rA.getD (0 + (i : Int).toNat) []).set 0 spoilt)) va, X] D)) none) none)
  (k (.exit 0) (stL 43 [0,4] [x, b] [] [] [.arr 1 rA va, X] D)) := by kernel_rfl
theorem own5_nil (h : Hd) (F : Nat) (x b : AVal) (H : Heap) (D : List (FuncId × List AVal)) (k : Kont) : own5Turn h F (stL 43 [0,3,4,5] [x, nilList, b, .int .i64 0] [] [] H D) k = k (.exit 0) (stL 43 [0,4] [x, b] [] [] H D) := by kernel_rfl
abbrev own9St (full : Bool) (n : Nat) (nm : Nat → List UInt8) (bd : Nat → AVal) (vb : Nat) (i : Int) (H : Heap) (D : List (FuncId × List AVal)) : St := stL 43 [0,4,6] [defsA full n nm bd, .own 1 0 n vb false, .int .i64 i] [] [] H D
theorem own9_step (h : Hd) (F n i vb : Nat) (full : Bool) (nm : Nat → List UInt8) (bd : Nat → AVal) (rB : List (List AVal)) (X : Obj) (D : List (FuncId × List AVal)) (k : Kont) : own9Turn h F (own9St full n nm bd vb i [X, .arr 1 rB vb] D) k =
  cond (decide ((i : Int) < n)) (cond (vb == vb && true && decide ((i : Int) < n)) (cond (vb == vb && decide (0 + (i : Int).toNat < rB.length) && true && isStr ((rB.getD (0 + (i : Int).toNat) []).getD (0 + 0) .undef))
    (cond (decide ((i : Int) < n)) (cond (!(strOf ((rB.getD (0 + (i : Int).toNat) []).getD (0 + 0) .undef) == nm (i : Int).toNat))
      (k .ret (stL 43 [0,2,4] [defsA full n nm bd, .bool false, .own 1 0 n vb false] [] [] [X, .arr 1 rB vb] D))
      (k .normal (own9St full n nm bd vb (IntKind.i64.wrap ((i : Int) + 1)) [X, .arr 1 rB vb] D))) none) none) none)
  (k (.exit 2) (stL 43 [0,2,4] [defsA full n nm bd, .undef, .own 1 0 n vb false] [] [] [X, .arr 1 rB vb] D)) := by kernel_rfl
theorem own9_nil (h : Hd) (F : Nat) (full : Bool) (nm : Nat → List UInt8) (bd : Nat → AVal) (b : AVal) (H : Heap) (D : List (FuncId × List AVal)) (k : Kont) : own9Turn h F (stL 43 [0,4,6] [defsA full 0 nm bd, b, .int .i64 0] [] [] H D) k =
  k (.exit 2) (stL 43 [0,2,4] [defsA full 0 nm bd, .undef, b] [] [] H D) := by kernel_rfl

theorem own5_run {h : Hd} {F n va : Nat} {x b : AVal} {X : Obj} {D : List (FuncId × List AVal)} {k : Kont} (hn : n ≤ 1048576) : ∀ (m i : Nat) (rA : List (List AVal)), rA.length = n → (∀ r ∈ rA, r.length = 1) → (∀ j, j < i → rA[j]? = some [spoilt]) → i + m = n →
    rounds (own5Turn h F) (m + 1) (own5St x b n va i [.arr 1 rA va, X] D) k = k (.exit 0) (stL 43 [0,4] [x, b] [] [] [.arr 1 (List.replicate n [spoilt]) va, X] D)
  | 0, i, rA, hl, h1, hs, he => by
    obtain rfl : i = n := by omega
    rw [rounds_succ', own5_step, decide_eq_false (by omega)]
    have : rA = List.replicate i [spoilt] := by
      apply List.ext_getElem?
      intro j
      rcases Nat.lt_or_ge j i with g | g
      · rw [hs j g, List.getElem?_replicate, if_pos g]
      · rw [List.getElem?_eq_none (by omega), List.getElem?_eq_none (by simp; omega)]
    rw [this]; rfl
  | m + 1, i, rA, hl, h1, hs, he => by
    rw [rounds_succ', own5_step, decide_eq_true (show (i : Int) < n by omega), wrap_succ (by omega)]
    have e : decide (0 + (i : Int).toNat < rA.length) = true := by simp; omega
    rw [e]
    simp only [beq_self_eq_true, Bool.and_self, cond_true]
    have hi : i < rA.length := by omega
    have e3 : (rA.getD (0 + (i : Int).toNat) []).set 0 spoilt = [spoilt] := by
      simp only [Nat.zero_add, Int.toNat_natCast, List.getD_eq_getElem?_getD, List.getElem?_eq_getElem hi, Option.getD_some]
      have := h1 _ (List.getElem_mem hi)
      match hq : rA[i], this with
      | [y], _ => rfl
    rw [e3]
    refine own5_run hn m (i + 1) _ (by simp [hl]) (fun r hr => ?_) (fun j hj => ?_) (by omega)
    · rcases List.mem_or_eq_of_mem_set hr with g | g
      · exact h1 _ g
      · rw [g]; rfl
    · simp only [Nat.zero_add, Int.toNat_natCast]
      rw [List.getElem?_set]
      split
      · rename_i g; subst g; simp [hi]
      · exact hs j (by omega)
theorem own9_run {h : Hd} {F n vb : Nat} {full : Bool} {nm : Nat → List UInt8} {bd : Nat → AVal} {X : Obj} {rB : List (List AVal)} {D : List (FuncId × List AVal)} {k : Kont} (hn : n ≤ 1048576) (hl : rB.length = n) (hr : ∀ j, j < n → rB.getD j [] = [.str (nm j)]) : ∀ (m i : Nat), i + m = n →
    rounds (own9Turn h F) (m + 1) (own9St full n nm bd vb i [X, .arr 1 rB vb] D) k = k (.exit 2) (stL 43 [0,2,4] [defsA full n nm bd, .undef, .own 1 0 n vb false] [] [] [X, .arr 1 rB vb] D)
  | 0, i, he => by
    obtain rfl : i = n := by omega
    rw [rounds_succ', own9_step, decide_eq_false (by omega)]; rfl
  | m + 1, i, he => by
    rw [rounds_succ', own9_step, decide_eq_true (show (i : Int) < n by omega), wrap_succ (by omega)]
    have e : decide (0 + (i : Int).toNat < rB.length) = true := by simp; omega
    rw [e]
    simp only [Nat.zero_add, Int.toNat_natCast, hr i (by omega)]
    simp only [beq_self_eq_true, Bool.and_self, cond_true, isStr, strOf, List.getD_cons_zero, Bool.not_true, cond_false]
    exact own9_run hn hl hr m (i + 1) (by omega)
theorem own_told {h : Hd} (hh : HOK Try.prog h) : LOk Try.prog ownFH (codeOf Try.prog 4) := by
  refine LOk.of _ (fun d hd sp hsp => ?_)
  have e : loopsIn (codeOf Try.prog 4) = [loopAt 5 (codeOf Try.prog 4), loopAt 9 (codeOf Try.prog 4)] := by kernel_rfl
  rw [e, List.mem_cons, List.mem_singleton] at hd
  rcases hd with rfl | rfl
  · have e2 : ownFH.loops (firstRegion (loopAt 5 (codeOf Try.prog 4))) = some (loopSpec 43 [0,3,4,5] [] [0,4] [] own5) := by kernel_rfl
    rw [e2, Option.some.injEq] at hsp
    subst hsp
    have hl : LOk Try.prog ownFH (loopAt 5 (codeOf Try.prog 4)) := LOk.of _ (fun d hd sp hsp => by
      have e : loopsIn (loopAt 5 (codeOf Try.prog 4)) = [] := by kernel_rfl
      rw [e] at hd; cases hd)
    refine loopSpec_ok (F := 0) (regions_ok hh _) hl (fun vs bs H k out ho => ?_)
    unfold own5 at ho
    split at ho
    · rename_i x n va b z rA va' X
      rw [Bool.cond_eq_ite] at ho
      split at ho
      case isFalse => simp at ho
      rename_i hc
      simp only [Bool.and_eq_true, beq_iff_eq, decide_eq_true_eq, List.isEmpty_iff, List.all_eq_true] at hc
      obtain ⟨⟨⟨⟨⟨rfl, rfl⟩, hlen⟩, hn⟩, h1⟩, rfl⟩ := hc
      exact ⟨_, _, _, _, _, _, .refl _, ⟨n + 1, fun D k => own5_run hn n 0 rA hlen h1 (fun j hj => by omega) (by omega)⟩, .refl _, ho⟩
    · rename_i x r b z H
      rw [Bool.cond_eq_ite] at ho
      split at ho
      case isFalse => simp at ho
      rename_i hc
      simp only [Bool.and_eq_true, beq_iff_eq, List.isEmpty_iff] at hc
      obtain ⟨rfl, rfl⟩ := hc
      exact ⟨_, _, _, _, _, _, .cons (.refl _) (.cons (.nilList _ true) (.refl _)), ⟨1, fun D k => by rw [rounds_succ']; exact own5_nil ..⟩, .refl _, ho⟩
    · simp at ho
  · have e2 : ownFH.loops (firstRegion (loopAt 9 (codeOf Try.prog 4))) = some (loopSpec 43 [0,4,6] [] [0,2,4] [] own9) := by kernel_rfl
    rw [e2, Option.some.injEq] at hsp
    subst hsp
    have hl : LOk Try.prog ownFH (loopAt 9 (codeOf Try.prog 4)) := LOk.of _ (fun d hd sp hsp => by
      have e : loopsIn (loopAt 9 (codeOf Try.prog 4)) = [] := by kernel_rfl
      rw [e] at hd; cases hd)
    refine loopSpec_ok (F := 0) (regions_ok hh _) hl (fun vs bs H k out ho => ?_)
    unfold own9 at ho
    split at ho
    · rename_i full n row n' vb z X rB vb'
      rw [Bool.cond_eq_ite] at ho
      split at ho
      case isFalse => simp at ho
      rename_i hc
      simp only [Bool.and_eq_true, beq_iff_eq, decide_eq_true_eq, List.isEmpty_iff] at hc
      obtain ⟨⟨⟨⟨⟨⟨⟨rfl, rfl⟩, rfl⟩, hlen⟩, hn⟩, hok⟩, hrw⟩, rfl⟩ := hc
      have hs : SubT (.list full n' row) (defsA full n' (nmOf row) (bdOf row)) := .list (okDefs_sub hok)
      have hrr : ∀ j, j < n' → rB.getD j [] = [.str (nmOf row j)] := fun j hj => by
        have := List.all_eq_true.1 hrw j (by simpa using hj)
        generalize rB.getD j [] = q at this ⊢
        split at this
        · rw [beq_iff_eq] at this; rw [this]
        · simp at this
      refine ⟨_, _, _, _, _, _, .cons hs (.refl _), ⟨n' + 1, fun D k => own9_run hn hlen hrr n' 0 (by omega)⟩, .cons ?_ (.refl _), ho⟩
      exact .list (okDefs_back hok)
    · rename_i full n row b z H
      rw [Bool.cond_eq_ite] at ho
      split at ho
      case isFalse => simp at ho
      rename_i hc
      simp only [Bool.and_eq_true, beq_iff_eq, List.isEmpty_iff] at hc
      obtain ⟨⟨rfl, rfl⟩, rfl⟩ := hc
      have hs : SubT (.list full 0 row) (defsA full 0 (nmOf row) (bdOf row)) := .list (okDefs_sub (by rfl))
      exact ⟨_, _, _, _, _, _, .cons hs (.refl _), ⟨1, fun D k => by rw [rounds_succ']; exact own9_nil ..⟩, .cons (.list (okDefs_back (by rfl))) (.refl _), ho⟩
    · simp at ho
end Go.Mu
