/-
  What check.Names makes of a list of templates: their names, in a slice of its own.
-/
import Derived.Test.YtlbmedmddoljnaaMuLoop
import Derived.Test.YtlbmedmddoljnaaProg
import Derived.KernelRfl
set_option linter.unusedVariables false
set_option linter.unusedSimpArgs false
set_option maxRecDepth 100000
namespace Go.Mu
open Go Go.Proofs

abbrev defsA (full : Bool) (n : Nat) (nm : Nat → List UInt8) (bd : Nat → AVal) : AVal := .list full n (fun i => [.str (nm i), bd i])
def okDefs (n : Nat) (row : Nat → List AVal) : Bool := (List.range n).all fun i => match row i with
  | [.str _, _] => true
  | _ => false
def nmOf (row : Nat → List AVal) (i : Nat) : List UInt8 := strOf ((row i).getD 0 .undef)
def bdOf (row : Nat → List AVal) (i : Nat) : AVal := (row i).getD 1 .undef
theorem okDefs_sub {n : Nat} {row : Nat → List AVal} {full : Bool} (h : okDefs n row = true) : Sub (.list full n row) (defsA full n (nmOf row) (bdOf row)) := by
  refine Sub.list (fun h => h) (fun i hi => ?_)
  have := List.all_eq_true.1 h i (by simpa using hi)
  simp only [nmOf, bdOf]
  generalize row i = r at this ⊢
  split at this
  · exact .refl _
  · simp at this
theorem okDefs_back {n : Nat} {row : Nat → List AVal} {full : Bool} (h : okDefs n row = true) : Sub (defsA full n (nmOf row) (bdOf row)) (.list full n row) := by
  refine Sub.list (fun h => h) (fun i hi => ?_)
  have := List.all_eq_true.1 h i (by simpa using hi)
  simp only [nmOf, bdOf]
  generalize row i = r at this ⊢
  split at this
  · exact .refl _
  · simp at this
theorem okDefs_mk (n : Nat) (nm : Nat → List UInt8) (bd : Nat → AVal) : okDefs n (fun i => [.str (nm i), bd i]) = true := by
  simp [okDefs]
def namesRows (nm : Nat → List UInt8) (n : Nat) : List (List AVal) := (List.range n).map fun i => [.str (nm i)]
theorem namesRows_succ (nm : Nat → List UInt8) (n : Nat) : (namesRows nm n).append [[.str (nm n)]] = namesRows nm (n + 1) := by
  simp [namesRows, List.range_succ]
theorem namesRows_len (nm : Nat → List UInt8) (n : Nat) : (namesRows nm n).length = n := by simp [namesRows]

/-- the loop -/
def namesLoop : LSp := fun vs bs H k => match vs with
  | [.list true 0 r, .list full n row, .int .i64 n', .int .i64 z] =>
    cond (n' == n && z == 0 && decide (n ≤ 1048576) && decide (H.length ≤ 1) && bs.isEmpty && okDefs n row)
      (cond (n == 0) (k (.exit 0) [nilList] [] H) (k (.exit 0) [.own H.length 0 n (n - 1) false] [] (H ++ [.arr 1 (namesRows (nmOf row) n) (n - 1)]))) none
  | _ => none
def namesFH : FH := { loops := fun i => if i = 3 then some (loopSpec 19 [3,6,7,8] [] [3] [] namesLoop) else none }

section
variable (h : Hd) (F n i u : Nat) (full : Bool) (nm : Nat → List UInt8) (bd : Nat → AVal) (rows : List (List AVal)) (X : Obj) (D : List (FuncId × List AVal)) (k : Kont)
noncomputable abbrev namesTurn (h : Hd) (F : Nat) := turn Try.prog h (only 12 namesFH) F 12 3 [3,6,7,8] [] [3] []
abbrev namesSt (out l : AVal) (n : Nat) (i : Int) (H : Heap) (D : List (FuncId × List AVal)) : St := stL 19 [3,6,7,8] [out, l, .int .i64 n, .int .i64 i] [] [] H D
theorem names_first : namesTurn h F (namesSt nilList (defsA full n nm bd) n 0 [] D) k =
    cond (decide ((0 : Int) < n)) (cond (decide ((0 : Int) < n)) (k .normal (namesSt (.own 0 0 1 0 false) (defsA full n nm bd) n 1 [.arr 1 [[.str (nm 0)]] 0] D)) none)
      (k (.exit 0) (stL 19 [3] [nilList] [] [] [] D)) := by kernel_rfl
theorem names_firstX : namesTurn h F (namesSt nilList (defsA full n nm bd) n 0 [X] D) k =
    cond (decide ((0 : Int) < n)) (cond (decide ((0 : Int) < n)) (k .normal (namesSt (.own 1 0 1 0 false) (defsA full n nm bd) n 1 [X, .arr 1 [[.str (nm 0)]] 0] D)) none)
      (k (.exit 0) (stL 19 [3] [nilList] [] [] [X] D)) := by kernel_rfl
theorem names_next : namesTurn h F (namesSt (.own 0 0 i u false) (defsA full n nm bd) n i [.arr 1 rows u] D) k =
    cond (decide ((i : Int) < n)) (cond (decide ((i : Int) < n)) (cond (u == u && i == rows.length && decide ((2 * (i + 1) + 1000) * 16 ≤ 281474976710656))
        (k .normal (namesSt (.own 0 0 (i + 1) (u + 1) false) (defsA full n nm bd) n (IntKind.i64.wrap ((i : Int) + 1)) [.arr 1 (rows.append [[.str (nm (i : Int).toNat)]]) (u + 1)] D)) none) none)
      (k (.exit 0) (stL 19 [3] [.own 0 0 i u false] [] [] [.arr 1 rows u] D)) := by kernel_rfl
theorem names_nextX : namesTurn h F (namesSt (.own 1 0 i u false) (defsA full n nm bd) n i [X, .arr 1 rows u] D) k =
    cond (decide ((i : Int) < n)) (cond (decide ((i : Int) < n)) (cond (u == u && i == rows.length && decide ((2 * (i + 1) + 1000) * 16 ≤ 281474976710656))
        (k .normal (namesSt (.own 1 0 (i + 1) (u + 1) false) (defsA full n nm bd) n (IntKind.i64.wrap ((i : Int) + 1)) [X, .arr 1 (rows.append [[.str (nm (i : Int).toNat)]]) (u + 1)] D)) none) none)
      (k (.exit 0) (stL 19 [3] [.own 1 0 i u false] [] [] [X, .arr 1 rows u] D)) := by kernel_rfl
end
theorem wrap_succ {i : Nat} (h : i < 4611686018427387904) : IntKind.i64.wrap ((i : Int) + 1) = ((i + 1 : Nat) : Int) := by
  simp [IntKind.wrap, IntKind.signed, IntKind.bits]
  omega
theorem names_run {h : Hd} {F n : Nat} {full : Bool} {nm : Nat → List UInt8} {bd : Nat → AVal} {D : List (FuncId × List AVal)} {k : Kont} (hn : n ≤ 1048576) (m : Nat) : ∀ (i : Nat), 1 ≤ i → i + m = n →
    rounds (namesTurn h F) (m + 1) (namesSt (.own 0 0 i (i - 1) false) (defsA full n nm bd) n i [.arr 1 (namesRows nm i) (i - 1)] D) k = k (.exit 0) (stL 19 [3] [.own 0 0 n (n - 1) false] [] [] [.arr 1 (namesRows nm n) (n - 1)] D) := by
  induction m with
  | zero =>
    intro i h1 he
    obtain rfl : i = n := by omega
    rw [rounds_succ', names_next, decide_eq_false (by omega)]
    rfl
  | succ m ih =>
    intro i h1 he
    rw [rounds_succ', names_next, decide_eq_true (show (i : Int) < n by omega), decide_eq_true (show (2 * (i + 1) + 1000) * 16 ≤ 281474976710656 by omega), namesRows_len, wrap_succ (by omega)]
    simp only [beq_self_eq_true, Bool.and_self, cond_true, Int.toNat_natCast]
    rw [namesRows_succ, show i - 1 + 1 = (i + 1) - 1 by omega]
    exact ih (i + 1) (by omega) (by omega)
theorem names_runX {h : Hd} {F n : Nat} {full : Bool} {nm : Nat → List UInt8} {bd : Nat → AVal} {X : Obj} {D : List (FuncId × List AVal)} {k : Kont} (hn : n ≤ 1048576) (m : Nat) : ∀ (i : Nat), 1 ≤ i → i + m = n →
    rounds (namesTurn h F) (m + 1) (namesSt (.own 1 0 i (i - 1) false) (defsA full n nm bd) n i [X, .arr 1 (namesRows nm i) (i - 1)] D) k = k (.exit 0) (stL 19 [3] [.own 1 0 n (n - 1) false] [] [] [X, .arr 1 (namesRows nm n) (n - 1)] D) := by
  induction m with
  | zero =>
    intro i h1 he
    obtain rfl : i = n := by omega
    rw [rounds_succ', names_nextX, decide_eq_false (by omega)]
    rfl
  | succ m ih =>
    intro i h1 he
    rw [rounds_succ', names_nextX, decide_eq_true (show (i : Int) < n by omega), decide_eq_true (show (2 * (i + 1) + 1000) * 16 ≤ 281474976710656 by omega), namesRows_len, wrap_succ (by omega)]
    simp only [beq_self_eq_true, Bool.and_self, cond_true, Int.toNat_natCast]
    rw [namesRows_succ, show i - 1 + 1 = (i + 1) - 1 by omega]
    exact ih (i + 1) (by omega) (by omega)
theorem names_loop_runs {h : Hd} {F n : Nat} {full : Bool} {nm : Nat → List UInt8} {bd : Nat → AVal} {H : Heap} (hn : n ≤ 1048576) (hH : H.length ≤ 1) :
    (n = 0 → LoopRuns (namesTurn h F) 19 [3,6,7,8] [] [3] [] [nilList, defsA full n nm bd, .int .i64 n, .int .i64 0] [] H (.exit 0) [nilList] [] H) ∧
    (n ≠ 0 → LoopRuns (namesTurn h F) 19 [3,6,7,8] [] [3] [] [nilList, defsA full n nm bd, .int .i64 n, .int .i64 0] [] H (.exit 0) [.own H.length 0 n (n - 1) false] [] (H ++ [.arr 1 (namesRows nm n) (n - 1)])) := by
  match H, hH with
  | [], _ =>
    refine ⟨fun h0 => ⟨1, fun D k => ?_⟩, fun h0 => ⟨n + 1, fun D k => ?_⟩⟩
    · subst h0
      rw [rounds_succ', names_first]; rfl
    · obtain ⟨m, rfl⟩ : ∃ m, n = m + 1 := ⟨n - 1, by omega⟩
      rw [rounds_succ', names_first, decide_eq_true (show (0 : Int) < ((m + 1 : Nat) : Int) by omega)]
      exact names_run hn m 1 (by omega) (by omega)
  | [X], _ =>
    refine ⟨fun h0 => ⟨1, fun D k => ?_⟩, fun h0 => ⟨n + 1, fun D k => ?_⟩⟩
    · subst h0
      rw [rounds_succ', names_firstX]; rfl
    · obtain ⟨m, rfl⟩ : ∃ m, n = m + 1 := ⟨n - 1, by omega⟩
      rw [rounds_succ', names_firstX, decide_eq_true (show (0 : Int) < ((m + 1 : Nat) : Int) by omega)]
      exact names_runX hn m 1 (by omega) (by omega)
  | _ :: _ :: _, hH => simp at hH
theorem names_told {h : Hd} (hh : HOK Try.prog h) : LOk Try.prog namesFH (codeOf Try.prog 12) := by
  refine LOk.of _ (fun d hd sp hsp => ?_)
  have e : loopsIn (codeOf Try.prog 12) = [loopAt 3 (codeOf Try.prog 12)] := by kernel_rfl
  rw [e, List.mem_singleton] at hd
  subst hd
  have e2 : namesFH.loops (firstRegion (loopAt 3 (codeOf Try.prog 12))) = some (loopSpec 19 [3,6,7,8] [] [3] [] namesLoop) := by kernel_rfl
  rw [e2, Option.some.injEq] at hsp
  subst hsp
  have hl : LOk Try.prog namesFH (loopAt 3 (codeOf Try.prog 12)) := LOk.of _ (fun d hd sp hsp => by
    have e : loopsIn (loopAt 3 (codeOf Try.prog 12)) = [] := by kernel_rfl
    rw [e] at hd; cases hd)
  refine loopSpec_ok (F := 0) (regions_ok hh _) hl (fun vs bs H k out ho => ?_)
  unfold namesLoop at ho
  split at ho
  case h_2 => simp at ho
  rename_i r full n row n' z
  rw [Bool.cond_eq_ite] at ho
  split at ho
  case isFalse => simp at ho
  rename_i hc
  simp only [Bool.and_eq_true, beq_iff_eq, decide_eq_true_eq, List.isEmpty_iff] at hc
  obtain ⟨⟨⟨⟨⟨rfl, rfl⟩, hn⟩, hH⟩, rfl⟩, hok⟩ := hc
  obtain ⟨h1, h2⟩ := names_loop_runs (h := h) (F := 0) (full := full) (nm := nmOf row) (bd := bdOf row) (H := H) hn hH
  have hs : SubTL [.list true 0 r, .list full n row, .int .i64 n, .int .i64 0] [nilList, defsA full n (nmOf row) (bdOf row), .int .i64 n, .int .i64 0] :=
    .cons (.nilList r true) (.cons (.list (okDefs_sub hok)) (.refl _))
  rw [Bool.cond_eq_ite] at ho
  split at ho
  · rename_i h0
    exact ⟨_, _, _, _, _, _, hs, h1 (by simpa using h0), .refl _, ho⟩
  · rename_i h0
    exact ⟨_, _, _, _, _, _, hs, h2 (by simpa using h0), .refl _, ho⟩

/-- what the whole call tells -/
def namesTold : FSp := fun xs H k => match xs with
  | [.list full n row] => cond (decide (n ≤ 1048576) && decide (H.length ≤ 1) && okDefs n row)
      (cond (n == 0) (k (.ret nilList H)) (k (.ret (.own H.length 0 n (n - 1) false) (H ++ [.arr 1 (namesRows (nmOf row) n) (n - 1)])))) none
  | _ => none
theorem names_fun (h : Hd) (F n : Nat) (full : Bool) (nm : Nat → List UInt8) (bd : Nat → AVal) (k : Out → Ans) : iFun Try.prog h (only 12 namesFH) F 12 [defsA full n nm bd] [] k =
    cond ((n : Int) == n && true && decide (n ≤ 1048576) && true && true && okDefs n (fun i => [.str (nm i), bd i])) (cond (n == 0) (k (.ret nilList [])) (k (.ret (.own 0 0 n (n - 1) false) [.arr 1 (namesRows nm n) (n - 1)]))) none := by kernel_rfl
theorem names_funX (h : Hd) (F n : Nat) (full : Bool) (nm : Nat → List UInt8) (bd : Nat → AVal) (X : Obj) (k : Out → Ans) : iFun Try.prog h (only 12 namesFH) F 12 [defsA full n nm bd] [X] k =
    cond ((n : Int) == n && true && decide (n ≤ 1048576) && true && true && okDefs n (fun i => [.str (nm i), bd i])) (cond (n == 0) (k (.ret nilList [X])) (k (.ret (.own 1 0 n (n - 1) false) [X, .arr 1 (namesRows nm n) (n - 1)]))) none := by kernel_rfl
def noTab : FuncId → Option FSp := fun _ => none
theorem noTab_ok : HOK Try.prog (hd noTab) := hd_ok (fun g s h => by simp [noTab] at h)
theorem namesTold_ok (xs : List AVal) (H : Heap) (k : Out → Ans) (out : Out) (ho : namesTold xs H k = some out) : ∃ o, CallOK Try.prog 12 xs H o ∧ k o = some out := by
  unfold namesTold at ho
  split at ho
  case h_2 => simp at ho
  rename_i full n row
  rw [Bool.cond_eq_ite] at ho
  split at ho
  case isFalse => simp at ho
  rename_i hc
  simp only [Bool.and_eq_true, decide_eq_true_eq] at hc
  obtain ⟨⟨hn, hH⟩, hok⟩ := hc
  have hs : SubL [.list full n row] [defsA full n (nmOf row) (bdOf row)] := .cons (okDefs_sub hok) .nil
  have ht : LOk Try.prog namesFH (codeOf Try.prog 12) := names_told noTab_ok
  match H, hH with
  | [], _ =>
    by_cases h0 : n = 0
    · subst h0
      exact ⟨_, (callOK_told noTab_ok ht (F := 0) (o := .ret nilList []) (fun k => by rw [names_fun]; simp [okDefs_mk])).subArgs hs, ho⟩
    · have e : (n == 0) = false := by simpa using h0
      rw [e] at ho
      exact ⟨_, (callOK_told noTab_ok ht (F := 0) (o := .ret (.own 0 0 n (n - 1) false) [.arr 1 (namesRows (nmOf row) n) (n - 1)]) (fun k => by rw [names_fun, e]; simp [okDefs_mk, hn])).subArgs hs, ho⟩
  | [X], _ =>
    by_cases h0 : n = 0
    · subst h0
      exact ⟨_, (callOK_told noTab_ok ht (F := 0) (o := .ret nilList [X]) (fun k => by rw [names_funX]; simp [okDefs_mk])).subArgs hs, ho⟩
    · have e : (n == 0) = false := by simpa using h0
      rw [e] at ho
      exact ⟨_, (callOK_told noTab_ok ht (F := 0) (o := .ret (.own 1 0 n (n - 1) false) [X, .arr 1 (namesRows (nmOf row) n) (n - 1)]) (fun k => by rw [names_funX, e]; simp [okDefs_mk, hn])).subArgs hs, ho⟩
  | _ :: _ :: _, hH => simp at hH
end Go.Mu
