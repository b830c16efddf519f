/-
  What strings.Trim, TrimLeft and TrimRight tell at the set of blanks.
-/
import Derived.Test.YtlbmedmddoljnaaDoorMuSpec
import Derived.Test.YtlbmedmddoljnaaDoorMuShrink
import Derived.Test.YtlbmedmddoljnaaDoorProg
import Derived.KernelRfl
set_option linter.unusedVariables false
set_option linter.unusedSimpArgs false
set_option maxRecDepth 100000
namespace Go.Mu
open Go Go.Proofs
def blk (c : UInt8) : Bool := c == 32 || c == 9 || c == 10 || c == 12 || c == 13
def blSet : List AVal := (List.range 256).map fun i => .bool (blk (UInt8.ofNat i))
def trimL (s : List UInt8) : List UInt8 := s.dropWhile blk
def trimR (s : List UInt8) : List UInt8 := (s.reverse.dropWhile blk).reverse
abbrev blCs : List UInt8 := [32, 9, 10, 12, 13]
abbrev atB (cs : List AVal) (c : UInt8) : AVal := cs.getD (0 + (c.toNat : Int).toNat * 1 + 0) .undef
theorem atB_eq (c : UInt8) : atB blSet c = .bool (blk c) := by
  unfold atB blSet
  have hc := c.toNat_lt
  simp [List.getD_eq_getElem?_getD, List.getElem?_map, List.getElem?_range hc]
/- the loops -/
theorem tl_step (s : List UInt8) (cs : List AVal) (D : List (FuncId × List AVal)) (k : Kont) : lturn Tryd.prog Lay.nil {} 89 1 [0,1] [] [0] [] (stL 16 [0,1] [.str s, .ptr (.hp 0) 0] [] [] [.var cs] D) k =
    cond (decide ((s.length : Int) > 0)) (cond (decide (0 < (s.length : Int))) (cond (decide (((s.getD 0 0).toNat : Int) < 256)) (cond (decide (0 + ((s.getD 0 0).toNat : Int).toNat * 1 + 1 ≤ cs.length) && isBool (atB cs (s.getD 0 0)))
      (cond (!boolOf (atB cs (s.getD 0 0))) (k (.exit 0) (stL 16 [0] [.str s] [] [] [.var cs] D))
        (cond (decide (1 ≤ (s.length : Int)) && decide ((s.length : Int) ≤ (s.length : Int))) (k .normal (stL 16 [0,1] [.str ((s.take (s.length : Int).toNat).drop 1), .ptr (.hp 0) 0] [] [] [.var cs] D)) none)) none) none) none)
      (k (.exit 0) (stL 16 [0] [.str s] [] [] [.var cs] D)) := by kernel_rfl
abbrev lst (s : List UInt8) : UInt8 := s.getD (IntKind.i64.wrap ((s.length : Int) - 1)).toNat 0
theorem tr_step (s : List UInt8) (cs : List AVal) (D : List (FuncId × List AVal)) (k : Kont) : lturn Tryd.prog Lay.nil {} 127 1 [0,1] [] [0] [] (stL 22 [0,1] [.str s, .ptr (.hp 0) 0] [] [] [.var cs] D) k =
    cond (decide ((s.length : Int) > 0)) (cond (decide (0 ≤ IntKind.i64.wrap ((s.length : Int) - 1)) && decide (IntKind.i64.wrap ((s.length : Int) - 1) < (s.length : Int))) (cond (decide (((lst s).toNat : Int) < 256)) (cond (decide (0 + ((lst s).toNat : Int).toNat * 1 + 1 ≤ cs.length) && isBool (atB cs (lst s)))
      (cond (!boolOf (atB cs (lst s))) (k (.exit 0) (stL 22 [0] [.str s] [] [] [.var cs] D))
        (cond (decide (0 ≤ IntKind.i64.wrap ((s.length : Int) - 1)) && decide (IntKind.i64.wrap ((s.length : Int) - 1) ≤ (s.length : Int))) (k .normal (stL 22 [0,1] [.str (s.take (IntKind.i64.wrap ((s.length : Int) - 1)).toNat), .ptr (.hp 0) 0] [] [] [.var cs] D)) none)) none) none) none)
      (k (.exit 0) (stL 22 [0] [.str s] [] [] [.var cs] D)) := by kernel_rfl
noncomputable def trimSp (f : List UInt8 → List UInt8) : LSp := mkL (fun vs _ _ => aS vs 0) (fun s => s.length ≤ 1099511627776) (fun s => [.str s, .ptr (.hp 0) 0]) (fun _ => []) (fun _ => [.var blSet]) (fun s k => k (.exit 0) [.str (f s)] [] [.var blSet])
theorem blSet_len : blSet.length = 256 := by simp [blSet]
theorem tl_ok : SpOK (lturn Tryd.prog Lay.nil {} 89 1 [0,1] [] [0] []) 16 [0,1] [] [0] [] (trimSp trimL) := by
  refine mkL_ok (fun s hs => ⟨_, _, _, _, fun k => rfl, ?_⟩)
  induction s with
  | nil => exact .stop (by simp) (fun D k => by rw [tl_step]; rfl)
  | cons c t ih =>
    have hc := c.toNat_lt
    simp only [List.length_cons] at hs
    have key := fun D k => tl_step (c :: t) blSet D k
    simp only [List.getD_cons_zero, atB_eq, blSet_len, List.length_cons] at key
    simp (disch := omega) only [dT, cond_true, isBool, boolOf, Bool.and_self, Bool.and_true, Int.toNat_natCast] at key
    cases hb : blk c with
    | true =>
      have e : trimL (c :: t) = trimL t := by simp [trimL, hb]
      have e2 : (c :: t).take (t.length + 1) = c :: t := List.take_length (l := c :: t)
      rw [e]
      exact .step (fun D k => by rw [key, hb, e2]; rfl) (ih (by omega))
    | false =>
      have e : trimL (c :: t) = c :: t := by simp [trimL, hb]
      rw [e]
      exact .stop (by simp) (fun D k => by rw [key, hb]; rfl)
theorem trimR_snoc (s : List UInt8) (c : UInt8) : trimR (s ++ [c]) = cond (blk c) (trimR s) (s ++ [c]) := by
  unfold trimR
  rw [List.reverse_append]
  simp only [List.reverse_cons, List.reverse_nil, List.nil_append, List.singleton_append, List.dropWhile_cons]
  cases blk c <;> simp
theorem tr_ok : SpOK (lturn Tryd.prog Lay.nil {} 127 1 [0,1] [] [0] []) 22 [0,1] [] [0] [] (trimSp trimR) := by
  refine mkL_ok (fun s hs => ⟨_, _, _, _, fun k => rfl, ?_⟩)
  generalize hn : s.length = n at hs
  induction n generalizing s with
  | zero =>
    have : s = [] := List.eq_nil_of_length_eq_zero hn
    subst this
    exact .stop (by simp) (fun D k => by rw [tr_step]; rfl)
  | succ n ih =>
    obtain ⟨t, c, rfl⟩ : ∃ t c, s = t ++ [c] := ⟨s.dropLast, s.getLast (by intro e; subst e; simp at hn), (List.dropLast_concat_getLast _).symm⟩
    have ht : t.length = n := by simpa using hn
    have hc := c.toNat_lt
    have ew : IntKind.i64.wrap (((n + 1 : Nat) : Int) - 1) = (n : Int) := by rw [wrap_of (by omega) (by omega)]; omega
    have el : (t ++ [c]).getD n 0 = c := by simp [List.getD_eq_getElem?_getD, ← ht]
    have e2 : (t ++ [c]).take n = t := by rw [← ht]; simp
    rw [trimR_snoc]
    have key := fun D k => tr_step (t ++ [c]) blSet D k
    simp only [lst, hn, ew, Int.toNat_natCast, el, atB_eq, blSet_len, e2] at key
    simp (disch := omega) only [dT, cond_true, isBool, boolOf, Bool.and_self, Bool.and_true] at key
    cases hb : blk c with
    | true => exact .step (fun D k => by rw [key, hb]; rfl) (ih t (by omega) (by omega))
    | false => exact .stop (by simp) (fun D k => by rw [key, hb]; rfl)
noncomputable def layT1 : Lay := (Lay.nil.addL 89 (.of [(1, loopSpec 16 [0,1] [] [0] [] (trimSp trimL))])).addL 127 (.of [(1, loopSpec 22 [0,1] [] [0] [] (trimSp trimR))])
theorem layT1_ok : layT1.OK Tryd.prog := by
  have h1 := Lay.nil_ok (P := Tryd.prog)
  have a : (Lay.nil.addL 89 (.of [(1, loopSpec 16 [0,1] [] [0] [] (trimSp trimL))])).OK Tryd.prog := h1.loop1 (id := 1) (by kernel_rfl) (by kernel_rfl) (by kernel_rfl) tl_ok
  refine Lay.OK.addL a (LOk.of _ (fun d hd sp' hsp => ?_))
  have e1 : loopsIn (codeOf Tryd.prog 127) = [loopAt 1 (codeOf Tryd.prog 127)] := by kernel_rfl
  have e3 : (FH.of [(1, loopSpec 22 [0,1] [] [0] [] (trimSp trimR))]).loops (firstRegion (loopAt 1 (codeOf Tryd.prog 127))) = some (loopSpec 22 [0,1] [] [0] [] (trimSp trimR)) := by kernel_rfl
  rw [e1, List.mem_singleton] at hd
  subst hd
  rw [e3, Option.some.injEq] at hsp
  subst hsp
  exact h1.told (LOk.of _ (fun d hd => by have e2 : loopsIn (loopAt 1 (codeOf Tryd.prog 127)) = [] := by kernel_rfl
                                          rw [e2] at hd; cases hd)) tr_ok
/- the set -/
theorem set_eval (k : Out → Ans) : iAll Tryd.prog (hd (fun _ => none)) (fun _ => false) (fun f => match f with | 88 => { live := [(2, [0, 2, 4])] } | _ => {}) 60 20 88 [.str blCs] [] k = k (.ret (.tuple [.agg blSet, .bool true]) []) := by kernel_rfl
theorem noneTab_ok : HOK Tryd.prog (hd (fun _ => none)) := hd_ok (fun g s h => by simp at h)
theorem callOK_ev {spec : Hd} {known : FuncId → Bool} {fhs : FuncId → FH} {F n : Nat} {f : FuncId} {xs : List AVal} {H : Heap} {o : Out} (hs : HOK Tryd.prog spec) (hl : LoopsOK Tryd.prog fhs) (h : ∀ k, iAll Tryd.prog spec known fhs F n f xs H k = k o) : CallOK Tryd.prog f xs H o := by
  obtain ⟨o', h1, h2⟩ := mu_sound (known := known) hs hl F n f xs H some o (h some)
  cases h2
  exact h1
theorem set_ok : CallOK Tryd.prog 88 [.str blCs] [] (.ret (.tuple [.agg blSet, .bool true]) []) :=
  callOK_ev noneTab_ok (.none (fun g i => by split <;> rfl)) set_eval
noncomputable def setTold : FSp := mkF (fun _ _ => ()) (fun _ => True) (fun _ => [.str blCs]) (fun _ => []) (fun _ k => k (.ret (.tuple [.agg blSet, .bool true]) []))
noncomputable def layT2 : Lay := ((layT1.addF 88 setTold).addL 94 { heap := [5] }).addL 50 { heap := [5] } |>.addL 93 { heap := [5] }
theorem heap_ok {L : Lay} (h : L.OK Tryd.prog) {f : FuncId} {l : List Nat} (h0 : loopsIn (codeOf Tryd.prog f) = []) : (L.addL f { heap := l }).OK Tryd.prog := h.addL (LOk.of _ (fun d hd => by rw [h0] at hd; cases hd))
theorem layT2_ok : layT2.OK Tryd.prog :=
  heap_ok (heap_ok (heap_ok (layT1_ok.addF (mkF_ok fun _ _ => ⟨_, fun _ => rfl, set_ok⟩)) (by kernel_rfl)) (by kernel_rfl)) (by kernel_rfl)
abbrev cT1 : Bool := True
noncomputable abbrev tS1 : Bool := tst (True ∧ SubL [.str blCs] [.str blCs] ∧ ([] : Heap) = [])
noncomputable abbrev tS2 (s : List UInt8) : Bool := tst (s.length ≤ 1099511627776 ∧ SubTL [.str s, .ptr (.hp 0) 0] [.str s, .ptr (.hp 0) 0] ∧ ([] : List (List AVal)) = [] ∧ [Obj.var blSet] = [Obj.var blSet])
theorem trimL_fun (s : List UInt8) (k : Out → Ans) : iFun Tryd.prog (layT2.hd Tryd.prog) layT2.fhs 0 50 [.str s, .str blCs] [] k =
  cond (cond (s == []) true false) (k (.ret (.str s) [])) (cond tS1 (cond (tS2 s) (k (.ret (.str (trimL s)) [.var blSet])) none) none) := by kernel_rfl
theorem trimR_fun (s : List UInt8) (k : Out → Ans) : iFun Tryd.prog (layT2.hd Tryd.prog) layT2.fhs 0 93 [.str s, .str blCs] [] k =
  cond (cond (s == []) true false) (k (.ret (.str s) [])) (cond tS1 (cond (tS2 s) (k (.ret (.str (trimR s)) [.var blSet])) none) none) := by kernel_rfl
theorem trim_fun (s : List UInt8) (k : Out → Ans) : iFun Tryd.prog (layT2.hd Tryd.prog) layT2.fhs 0 94 [.str s, .str blCs] [] k =
  cond (cond (s == []) true false) (k (.ret (.str s) [])) (cond tS1 (cond (tS2 s) (cond (tS2 (trimR s)) (k (.ret (.str (trimL (trimR s))) [.var blSet])) none) none) none) := by kernel_rfl
theorem tS2_true {s : List UInt8} (h : s.length ≤ 1099511627776) : tS2 s = true := tstL h
theorem tS1_true : tS1 = true := tst_true ⟨trivial, .refl _, rfl⟩
theorem trimR_len (s : List UInt8) : (trimR s).length ≤ s.length := by
  unfold trimR
  rw [List.length_reverse]
  have := (List.dropWhile_suffix (p := blk) (l := s.reverse)).length_le
  rwa [List.length_reverse] at this
theorem trimL_len (s : List UInt8) : (trimL s).length ≤ s.length := (List.dropWhile_suffix (p := blk) (l := s)).length_le
def trimLTold : FSp := mkFS [.s, .c blCs] (fun xs => decide ((aS xs 0).length ≤ 1099511627776)) (fun xs k => k (.ret (.str (trimL (aS xs 0))) []))
def trimRTold : FSp := mkFS [.s, .c blCs] (fun xs => decide ((aS xs 0).length ≤ 1099511627776)) (fun xs k => k (.ret (.str (trimR (aS xs 0))) []))
def trimTold : FSp := mkFS [.s, .c blCs] (fun xs => decide ((aS xs 0).length ≤ 1099511627776)) (fun xs k => k (.ret (.str (trimL (trimR (aS xs 0)))) []))
theorem trimLTold_ok : ∀ xs H k out, trimLTold xs H k = some out → ∃ o, CallOK Tryd.prog 50 xs H o ∧ k o = some out := mkFS_ok fun ys xs e h => by
  obtain ⟨s, rfl⟩ : ∃ s, xs = [.str s, .str blCs] := ⟨_, e⟩
  replace h : s.length ≤ 1099511627776 := of_decide_eq_true h
  refine ⟨_, fun k => rfl, ?_⟩
  cases s with
  | nil => exact layT2_ok.callF rfl (fun k => by rw [trimL_fun]; rfl)
  | cons c t => exact layT2_ok.callF rfl (fun k => by rw [trimL_fun, tS1_true, tS2_true h]; rfl)
theorem trimRTold_ok : ∀ xs H k out, trimRTold xs H k = some out → ∃ o, CallOK Tryd.prog 93 xs H o ∧ k o = some out := mkFS_ok fun ys xs e h => by
  obtain ⟨s, rfl⟩ : ∃ s, xs = [.str s, .str blCs] := ⟨_, e⟩
  replace h : s.length ≤ 1099511627776 := of_decide_eq_true h
  refine ⟨_, fun k => rfl, ?_⟩
  cases s with
  | nil => exact layT2_ok.callF rfl (fun k => by rw [trimR_fun]; rfl)
  | cons c t => exact layT2_ok.callF rfl (fun k => by rw [trimR_fun, tS1_true, tS2_true h]; rfl)
theorem trimTold_ok : ∀ xs H k out, trimTold xs H k = some out → ∃ o, CallOK Tryd.prog 94 xs H o ∧ k o = some out := mkFS_ok fun ys xs e h => by
  obtain ⟨s, rfl⟩ : ∃ s, xs = [.str s, .str blCs] := ⟨_, e⟩
  replace h : s.length ≤ 1099511627776 := of_decide_eq_true h
  refine ⟨_, fun k => rfl, ?_⟩
  cases s with
  | nil => exact layT2_ok.callF rfl (fun k => by rw [trim_fun]; rfl)
  | cons c t => exact layT2_ok.callF rfl (fun k => by rw [trim_fun, tS1_true, tS2_true h, tS2_true (Nat.le_trans (trimR_len _) h)]; rfl)
end Go.Mu
