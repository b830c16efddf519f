/-
  Lemmas on the given program (part 5).
-/
import Derived.Test.YtfepcpcnfibbnaaDoorFQ4
import Derived.Test.YtfepcpcnfibbnaaDoorRows
import Derived.Lib.LaidU8
set_option linter.unusedVariables false
set_option linter.unusedSimpArgs false
set_option maxRecDepth 100000
namespace Go.Mu
open Go Go.Proofs
/- what is printed -/
def ahK (ks : List (List UInt8)) (i : Nat) : List UInt8 := if i < ks.length then ks.getD i [] ++ [58] else [58]
def alB (A : Nat → List UInt8) (R : VaD → List UInt8) (l : List VaD) (i : Nat) : List (List UInt8) := (if 0 < i then [[32]] else []) ++ [A i, R (l.getD i va0)]
def alT (A : Nat → List UInt8) (R : VaD → List UInt8) (l : List VaD) : List UInt8 := (List.range l.length).flatMap (fun i => (alB A R l i).flatten)
def prV : Nat → VaD → List UInt8
  | 0, _ => []
  | d + 1, v => if v.kind = 0 then [110, 117, 108, 108] else if v.kind = 1 then [102, 97, 108, 115, 101] else if v.kind = 2 then [116, 114, 117, 101] else if v.kind = 3 then printM v.int
    else if v.kind = 5 then [91] ++ alT (fun _ => []) (prV d) (vals v.list) ++ [93] else if v.kind = 6 then [123] ++ alT (ahK v.keys) (prV d) (vals v.list) ++ [125] else v.text
theorem printM_len (n : Int) : (printM n).length ≤ 20 := by
  unfold printM
  have := digsF_len 19 n.natAbs []
  cases decide (n < 0)
  · simp only [cond_false]; simp at this; omega
  · simp only [cond_true, List.length_cons]; simp at this; omega
theorem alB_len (A : Nat → List UInt8) (R : VaD → List UInt8) (l : List VaD) (i : Nat) : (alB A R l i).flatten.length ≤ 1 + (A i).length + (R (l.getD i va0)).length := by
  unfold alB
  by_cases h : 0 < i
  · rw [if_pos h]; simp; omega
  · rw [if_neg h]; simp
theorem take_sum {α : Type} (f : α → Nat) (l : List α) (d : α) (i : Nat) (h : i < l.length) : ((l.take (i + 1)).map f).sum = ((l.take i).map f).sum + f (l.getD i d) := by
  rw [take_map l d f i h, List.sum_append]; simp
theorem take_sum_le {α : Type} (f : α → Nat) : ∀ (l : List α) (i : Nat), ((l.take i).map f).sum ≤ (l.map f).sum
  | [], i => by simp
  | a :: l, 0 => by simp
  | a :: l, i + 1 => by
    have := take_sum_le f l i
    simp only [List.take_succ_cons, List.map_cons, List.sum_cons]
    omega
theorem alT_part (ks : List (List UInt8)) (A : Nat → List UInt8) (R : VaD → List UInt8) (S : VaD → Nat) (hA : ∀ i, (A i).length ≤ (if i < ks.length then (ks.getD i []).length else 0) + 1) (l : List VaD) (hR : ∀ v ∈ l, 4 * (R v).length + 8 ≤ S v) : ∀ i, i ≤ l.length →
    4 * ((List.range i).flatMap (fun i => (alB A R l i).flatten)).length ≤ ((l.take i).map S).sum + ((ks.take i).map (fun k => 16 + 16 * k.length)).sum := by
  intro i
  induction i with
  | zero => intro _; simp
  | succ i ih =>
    intro hi
    have ih := ih (by omega)
    rw [range_flat, List.length_append, take_sum S l va0 i (by omega)]
    have hm : l.getD i va0 ∈ l := by rw [List.getD_eq_getElem?_getD, List.getElem?_eq_getElem (by omega)]; exact List.getElem_mem _
    have h1 := hR _ hm
    have h2 := alB_len A R l i
    have h3 := hA i
    by_cases hk : i < ks.length
    · rw [take_sum (fun k : List UInt8 => 16 + 16 * k.length) ks [] i hk]
      rw [if_pos hk] at h3
      omega
    · rw [if_neg hk] at h3
      rw [List.take_of_length_le (by omega : ks.length ≤ i + 1)]
      rw [List.take_of_length_le (by omega : ks.length ≤ i)] at ih
      omega
theorem ahK_len (ks : List (List UInt8)) (i : Nat) : (ahK ks i).length ≤ (if i < ks.length then (ks.getD i []).length else 0) + 1 := by
  unfold ahK
  split
  · rw [List.length_append]; simp
  · simp
theorem alT_len (ks : List (List UInt8)) (A : Nat → List UInt8) (R : VaD → List UInt8) (S : VaD → Nat) (hA : ∀ i, (A i).length ≤ (if i < ks.length then (ks.getD i []).length else 0) + 1) (l : List VaD) (hR : ∀ v ∈ l, 4 * (R v).length + 8 ≤ S v) :
    4 * (alT A R l).length ≤ (l.map S).sum + (ks.map (fun k => 16 + 16 * k.length)).sum := by
  have h := alT_part ks A R S hA l hR l.length (Nat.le_refl _)
  rw [List.take_of_length_le (Nat.le_refl _)] at h
  have := take_sum_le (fun k : List UInt8 => 16 + 16 * k.length) ks l.length
  unfold alT
  omega
theorem prV_len : ∀ (d : Nat) (v : VaD), 4 * (prV d v).length + 8 ≤ szV d v
  | 0, v => by unfold prV szV; simp
  | d + 1, v => by
    have ih := prV_len d
    have h1 := alT_len [] (fun _ => []) (prV d) (szV d) (fun i => by simp) (vals v.list) (fun v _ => ih v)
    have h2 := alT_len v.keys (ahK v.keys) (prV d) (szV d) (ahK_len v.keys) (vals v.list) (fun v _ => ih v)
    have h3 := printM_len v.int
    unfold prV szV
    simp only [List.map_nil, List.sum_nil] at h1
    repeat' split
    all_goals first
      | (simp only [List.length_cons, List.length_nil]; omega)
      | (simp only [List.length_append, List.length_cons, List.length_nil]; omega)
      | omega
def okKind (v : VaD) : Prop := 0 ≤ v.kind ∧ v.kind ≤ 11
def kdV : Nat → VaD → Prop
  | 0, _ => False
  | d + 1, v => okKind v ∧ ∀ x ∈ vals v.list, kdV d x
def PvD (d : Nat) (x : List AVal) : Prop := WvD d x ∧ kdV d (decVa x)
def PlD (d : Nat) (x : AVal) : Prop := WlD d x ∧ ∀ v ∈ vals x, kdV d v
theorem PvD_enc {d : Nat} {v : VaD} (h : wfVal d v ∧ szV d v ≤ 16777216 ∧ kdV d v) : PvD d (encVa v) := ⟨WvD_enc h.1 h.2.1, by rw [decVa_enc]; exact h.2.2⟩
theorem PlD_mem {d : Nat} {x : AVal} (h : PlD d x) {v : VaD} (hv : v ∈ vals x) : wfVal d v ∧ szV d v ≤ 16777216 ∧ kdV d v := ⟨(WlD_mem h.1 hv).1, (WlD_mem h.1 hv).2, h.2 v hv⟩
/- all -/
def prR (d : Nat) (x : List AVal) : List UInt8 := prV d (decVa x)
theorem prR_enc (d : Nat) (v : VaD) : prR d (encVa v) = prV d v := by unfold prR; rw [decVa_enc]
def aE1 (d : Nat) : AlE1 := fun x b => b.addA 1 3 ((List.range (vals x).length).flatMap (alB (fun _ => []) (prV d) (vals x)))
def aE2 (d : Nat) : AlE2 := fun c x b => b.addA 1 3 ((List.range (vals x).length).flatMap (alB (ahK (decVa c).keys) (prV d) (vals x)))
noncomputable abbrev alTurn (d : Nat) := lturn Tryd.prog (layAl0 (PvD d) (prR d)) (alFH (PlD d) (aE1 d) (aE2 d)) 162 1 [0,2,8,9,10] [] [] []
theorem al_rd1 (d : Nat) (P0 : Obj) (y : Bld) (hy : y.can 1 3) (ht : y.t.length ≤ 1073741824) (f : Bool) (l : List VaD) (hl : l.length ≤ 1099511627776) (i : Nat) (hi : i < l.length) (hW : wfVal d (l.getD i va0) ∧ szV d (l.getD i va0) ≤ 16777216 ∧ kdV d (l.getD i va0)) (D : List (FuncId × List AVal)) (k : Kont) :
    alTurn d (stL 29 [0,2,8,9,10] [.ptr (.hp 1) 0, .func 163 [], encVas f l, .int .i64 l.length, .int .i64 (i : Nat)] [] [] (b1H.mk P0 y).heap D) k = k .normal (stL 29 [0,2,8,9,10] [.ptr (.hp 1) 0, .func 163 [], encVas f l, .int .i64 l.length, .int .i64 ((i + 1 : Nat) : Int)] [] [] (b1H.mk P0 (y.addA 1 3 (alB (fun _ => []) (prV d) l i))).heap D) := by
  have hp := prV_len d (l.getD i va0)
  have a1 : (y.add 1 3 [32]).t.length = y.t.length + 1 := by rw [Bld.add_t, List.length_append]; rfl
  have a2 : ((y.add 1 3 [32]).add 1 3 []).t.length = y.t.length + 1 := by rw [Bld.add_t, List.length_append, a1]; rfl
  have a3 : (y.add 1 3 []).t.length = y.t.length := by rw [Bld.add_t, List.length_append]; rfl
  have ep := prR_enc d (l.getD i va0)
  refine (al_step1 (PvD d) (prR d) (PlD d) (aE1 d) (aE2 d) P0 y f l.length (fun i => l.getD i va0) l.length i D k y.t rfl _ rfl _ rfl (y.add 1 3 [32]).t rfl _ rfl _ rfl ((y.add 1 3 [32]).add 1 3 []).t rfl (prV d (l.getD i va0)) ep.symm _ rfl _ rfl _ rfl (y.add 1 3 []).t rfl _ rfl).trans ?_
  have e1 : IntKind.i64.wrap ((i : Int) + 1) = ((i + 1 : Nat) : Int) := wrap_add1 (by omega)
  simp only [e1, dT (show (i : Int) < l.length by omega), dT (show (0 : Int) ≤ (i : Int) by omega), Bool.and_self, cond_true, Int.toNat_natCast]
  unfold alB
  by_cases h0 : 0 < i
  · rw [dT (show (i : Int) > 0 by omega), cond_true, if_pos h0]
    refine (congrArg (fun c => cond c _ none) (tst_true ⟨⟨hy, by omega⟩, .refl _, by trivial⟩)).trans ((cond_true _ _).trans ?_)
    refine (congrArg (fun c => cond c _ none) (tst_true ⟨⟨Bld.add_can hy [32], by omega⟩, .refl _, by trivial⟩)).trans ((cond_true _ _).trans ?_)
    refine (congrArg (fun c => cond c _ none) (tst_true ⟨PvD_enc hW, .refl _, by trivial⟩)).trans ((cond_true _ _).trans ?_)
    exact (congrArg (fun c => cond c _ none) (tst_true ⟨⟨Bld.add_can (Bld.add_can hy [32]) [], by omega⟩, .refl _, by trivial⟩)).trans rfl
  · rw [dF (show ¬ (i : Int) > 0 by omega), cond_false, if_neg h0]
    refine (congrArg (fun c => cond c _ none) (tst_true ⟨⟨hy, by omega⟩, .refl _, by trivial⟩)).trans ((cond_true _ _).trans ?_)
    refine (congrArg (fun c => cond c _ none) (tst_true ⟨PvD_enc hW, .refl _, by trivial⟩)).trans ((cond_true _ _).trans ?_)
    exact (congrArg (fun c => cond c _ none) (tst_true ⟨⟨Bld.add_can hy [], by omega⟩, .refl _, by trivial⟩)).trans rfl
theorem al_rd2 (d : Nat) (v : VaD) (hk : ∀ i, (v.keys.getD i []).length ≤ 1073741824) (y : Bld) (hy : y.can 1 3) (ht : y.t.length ≤ 1073741824) (f : Bool) (l : List VaD) (hl : l.length ≤ 1099511627776) (i : Nat) (hi : i < l.length) (hW : wfVal d (l.getD i va0) ∧ szV d (l.getD i va0) ≤ 16777216 ∧ kdV d (l.getD i va0)) (D : List (FuncId × List AVal)) (k : Kont) :
    alTurn d (stL 29 [0,2,8,9,10] [.ptr (.hp 1) 0, .func 164 [.ptr (.hp 0) 0], encVas f l, .int .i64 l.length, .int .i64 (i : Nat)] [] [] (b1H.mk (.var (encVa v)) y).heap D) k = k .normal (stL 29 [0,2,8,9,10] [.ptr (.hp 1) 0, .func 164 [.ptr (.hp 0) 0], encVas f l, .int .i64 l.length, .int .i64 ((i + 1 : Nat) : Int)] [] [] (b1H.mk (.var (encVa v)) (y.addA 1 3 (alB (ahK v.keys) (prV d) l i))).heap D) := by
  have hp := prV_len d (l.getD i va0)
  have hki := hk i
  have ek : (v.keys.getD i [] ++ [58]).length = (v.keys.getD i []).length + 1 := by rw [List.length_append]; rfl
  have a1 : (y.add 1 3 [32]).t.length = y.t.length + 1 := by rw [Bld.add_t, List.length_append]; rfl
  have a2 : ((y.add 1 3 [32]).add 1 3 (v.keys.getD i [] ++ [58])).t.length = y.t.length + 1 + ((v.keys.getD i []).length + 1) := by rw [Bld.add_t, List.length_append, a1, ek]
  have a3 : ((y.add 1 3 [32]).add 1 3 [58]).t.length = y.t.length + 1 + 1 := by rw [Bld.add_t, List.length_append, a1]; rfl
  have a4 : (y.add 1 3 (v.keys.getD i [] ++ [58])).t.length = y.t.length + ((v.keys.getD i []).length + 1) := by rw [Bld.add_t, List.length_append, ek]
  have a5 : (y.add 1 3 [58]).t.length = y.t.length + 1 := by rw [Bld.add_t, List.length_append]; rfl
  have ep := prR_enc d (l.getD i va0)
  refine (al_step2 (PvD d) (prR d) (PlD d) (aE1 d) (aE2 d) v y f l.length (fun i => l.getD i va0) l.length i D k _ rfl y.t rfl _ rfl _ rfl _ rfl (v.keys.getD i []) (by rw [Int.toNat_natCast]) _ rfl _ rfl (y.add 1 3 [32]).t rfl _ rfl (v.keys.getD i [] ++ [58]) rfl _ rfl _ rfl _ rfl ((y.add 1 3 [32]).add 1 3 (v.keys.getD i [] ++ [58])).t rfl (prV d (l.getD i va0)) ep.symm _ rfl _ rfl _ rfl ((y.add 1 3 [32]).add 1 3 [58]).t rfl _ rfl _ rfl (y.add 1 3 (v.keys.getD i [] ++ [58])).t rfl _ rfl _ rfl (y.add 1 3 [58]).t rfl _ rfl).trans ?_
  have e1 : IntKind.i64.wrap ((i : Int) + 1) = ((i + 1 : Nat) : Int) := wrap_add1 (by omega)
  simp only [e1, dT (show (i : Int) < l.length by omega), dT (show (0 : Int) ≤ (i : Int) by omega), Bool.and_self, cond_true, Int.toNat_natCast]
  unfold alB ahK
  have c12 := fun (p : Ans) => congrArg (fun c => cond c p none) (tst_true (p := PvD d (encVa (l.getD i va0)) ∧ SubL [.agg (encVa (l.getD i va0))] [.agg (encVa (l.getD i va0))] ∧ ([] : Heap) = []) ⟨PvD_enc hW, .refl _, rfl⟩)
  by_cases hkl : i < v.keys.length
  · simp only [dT (show (i : Int) < v.keys.length by omega), dT (show (v.keys.getD i []).length + 1 ≤ 4611686018427387904 by omega), Bool.and_self, cond_true, if_pos hkl]
    by_cases h0 : 0 < i
    · rw [dT (show (i : Int) > 0 by omega), cond_true, if_pos h0]
      refine (congrArg (fun c => cond c _ none) (tst_true ⟨⟨hy, by omega⟩, .refl _, by trivial⟩)).trans ((cond_true _ _).trans ?_)
      refine (congrArg (fun c => cond c _ none) (tst_true ⟨⟨Bld.add_can hy [32], by omega⟩, .refl _, by trivial⟩)).trans ((cond_true _ _).trans ?_)
      refine (congrArg (fun c => cond c _ none) (tst_true ⟨PvD_enc hW, .refl _, by trivial⟩)).trans ((cond_true _ _).trans ?_)
      exact (congrArg (fun c => cond c _ none) (tst_true ⟨⟨Bld.add_can (Bld.add_can hy [32]) _, by omega⟩, .refl _, by trivial⟩)).trans rfl
    · rw [dF (show ¬ (i : Int) > 0 by omega), cond_false, if_neg h0]
      refine (congrArg (fun c => cond c _ none) (tst_true ⟨⟨hy, by omega⟩, .refl _, by trivial⟩)).trans ((cond_true _ _).trans ?_)
      refine (congrArg (fun c => cond c _ none) (tst_true ⟨PvD_enc hW, .refl _, by trivial⟩)).trans ((cond_true _ _).trans ?_)
      exact (congrArg (fun c => cond c _ none) (tst_true ⟨⟨Bld.add_can hy _, by omega⟩, .refl _, by trivial⟩)).trans rfl
  · simp only [dF (show ¬ (i : Int) < v.keys.length by omega), cond_false, if_neg hkl]
    by_cases h0 : 0 < i
    · rw [dT (show (i : Int) > 0 by omega), cond_true, if_pos h0]
      refine (congrArg (fun c => cond c _ none) (tst_true ⟨⟨hy, by omega⟩, .refl _, by trivial⟩)).trans ((cond_true _ _).trans ?_)
      refine (congrArg (fun c => cond c _ none) (tst_true ⟨⟨Bld.add_can hy [32], by omega⟩, .refl _, by trivial⟩)).trans ((cond_true _ _).trans ?_)
      refine (congrArg (fun c => cond c _ none) (tst_true ⟨PvD_enc hW, .refl _, by trivial⟩)).trans ((cond_true _ _).trans ?_)
      exact (congrArg (fun c => cond c _ none) (tst_true ⟨⟨Bld.add_can (Bld.add_can hy [32]) _, by omega⟩, .refl _, by trivial⟩)).trans rfl
    · rw [dF (show ¬ (i : Int) > 0 by omega), cond_false, if_neg h0]
      refine (congrArg (fun c => cond c _ none) (tst_true ⟨⟨hy, by omega⟩, .refl _, by trivial⟩)).trans ((cond_true _ _).trans ?_)
      refine (congrArg (fun c => cond c _ none) (tst_true ⟨PvD_enc hW, .refl _, by trivial⟩)).trans ((cond_true _ _).trans ?_)
      exact (congrArg (fun c => cond c _ none) (tst_true ⟨⟨Bld.add_can hy _, by omega⟩, .refl _, by trivial⟩)).trans rfl
theorem al_part_len {d : Nat} {x : AVal} (h : WlD d x) (ks : List (List UInt8)) (A : Nat → List UInt8) (hA : ∀ i, (A i).length ≤ (if i < ks.length then (ks.getD i []).length else 0) + 1) (hk : (ks.map (fun k => 16 + 16 * k.length)).sum ≤ 16777216) (b : Bld) (hb : b.t.length ≤ 1) (i : Nat) (hi : i ≤ (vals x).length) :
    (b.addA 1 3 ((List.range i).flatMap (alB A (prV d) (vals x)))).t.length ≤ 1073741824 := by
  have h1 := alT_part ks A (prV d) (szV d) hA (vals x) (fun v _ => prV_len d v) i hi
  have h2 := take_sum_le (szV d) (vals x) i
  have h3 := take_sum_le (fun k : List UInt8 => 16 + 16 * k.length) ks i
  have h4 := h.2.2
  rw [Bld.addA_t, flatMap_flatten, List.length_append]
  omega
theorem alSp_ok (d : Nat) : SpOK (alTurn d) 29 [0,2,8,9,10] [] [] [] (alSp (PlD d) (aE1 d) (aE2 d)) := mkL_ok fun a h => by
  obtain ⟨⟨P0, b⟩, g, x⟩ := a
  obtain ⟨h1, h2, h3, h4⟩ := h
  simp only at h1 h2 h3 h4
  have hl := WlD_len h3.1
  have hW : ∀ i, i < (vals x).length → wfVal d ((vals x).getD i va0) ∧ szV d ((vals x).getD i va0) ≤ 16777216 ∧ kdV d ((vals x).getD i va0) := fun i hi => PlD_mem h3 (by rw [List.getD_eq_getElem?_getD, List.getElem?_eq_getElem hi]; exact List.getElem_mem hi)
  rcases h4 with rfl | ⟨rfl, v, hv, hk⟩
  · refine ⟨.exit 0, [], [], (b1H.mk P0 (aE1 d x b)).heap, fun k => rfl, ?_⟩
    exact seq_runs (turn := alTurn d) (n := 29) (l := [0,2,8,9,10]) (m := []) (lx := []) (mx := []) (fun i => [.ptr (.hp 1) 0, .func 163 [], encVas (fullOf x) (vals x), .int .i64 (vals x).length, .int .i64 (i : Nat)]) (fun _ => []) (fun i => (b1H.mk P0 (b.addA 1 3 ((List.range i).flatMap (alB (fun _ => []) (prV d) (vals x))))).heap) (vals x).length (e := .exit 0) (by simp)
      (fun i hi D k => by
        refine (al_rd1 d P0 _ (Bld.addA_can _ h1) (al_part_len h3.1 [] (fun _ => []) (fun i => by simp) (by simp) b h2 i (by omega)) (fullOf x) (vals x) (by omega) i hi (hW i hi) D k).trans ?_
        rw [range_flat, Bld.addA_app])
      (fun D k => by
        refine (al_step1 (PvD d) (prR d) (PlD d) (aE1 d) (aE2 d) P0 _ (fullOf x) (vals x).length (fun i => (vals x).getD i va0) (vals x).length (vals x).length D k _ rfl _ rfl _ rfl _ rfl _ rfl _ rfl _ rfl _ rfl _ rfl _ rfl _ rfl _ rfl _ rfl).trans ?_
        rw [dF (show ¬ ((vals x).length : Int) < (vals x).length by omega), cond_false]
        rfl)
  · have hv : P0 = .var (encVa v) := hv
    subst hv
    have hki : ∀ i, (v.keys.getD i []).length ≤ 1073741824 := fun i => by
      rw [List.getD_eq_getElem?_getD]
      by_cases hi : i < v.keys.length
      · rw [List.getElem?_eq_getElem hi]
        have := sum_mem (fun k : List UInt8 => 16 + 16 * k.length) v.keys _ (List.getElem_mem hi)
        simp only [Option.getD_some]
        omega
      · rw [List.getElem?_eq_none (by omega)]; simp
    have e2 : aE2 d (cellsO (.var (encVa v))) x b = b.addA 1 3 ((List.range (vals x).length).flatMap (alB (ahK v.keys) (prV d) (vals x))) := by
      unfold aE2 cellsO
      rw [decVa_enc]
    refine ⟨.exit 0, [], [], (b1H.mk (.var (encVa v)) (aE2 d (cellsO (.var (encVa v))) x b)).heap, fun k => rfl, ?_⟩
    rw [e2]
    exact seq_runs (turn := alTurn d) (n := 29) (l := [0,2,8,9,10]) (m := []) (lx := []) (mx := []) (fun i => [.ptr (.hp 1) 0, .func 164 [.ptr (.hp 0) 0], encVas (fullOf x) (vals x), .int .i64 (vals x).length, .int .i64 (i : Nat)]) (fun _ => []) (fun i => (b1H.mk (.var (encVa v)) (b.addA 1 3 ((List.range i).flatMap (alB (ahK v.keys) (prV d) (vals x))))).heap) (vals x).length (e := .exit 0) (by simp)
      (fun i hi D k => by
        refine (al_rd2 d v hki _ (Bld.addA_can _ h1) (al_part_len h3.1 v.keys (ahK v.keys) (ahK_len v.keys) hk b h2 i (by omega)) (fullOf x) (vals x) (by omega) i hi (hW i hi) D k).trans ?_
        rw [range_flat, Bld.addA_app])
      (fun D k => by
        refine (al_step2 (PvD d) (prR d) (PlD d) (aE1 d) (aE2 d) v _ (fullOf x) (vals x).length (fun i => (vals x).getD i va0) (vals x).length (vals x).length D k _ rfl _ rfl _ rfl _ rfl _ rfl _ rfl _ rfl _ rfl _ rfl _ rfl _ rfl _ rfl _ rfl _ rfl _ rfl _ rfl _ rfl _ rfl _ rfl _ rfl _ rfl _ rfl _ rfl _ rfl _ rfl _ rfl _ rfl).trans ?_
        rw [dF (show ¬ ((vals x).length : Int) < (vals x).length by omega), cond_false])
theorem layAl0_ok {d : Nat} (h : ∀ xs H k out, pvTold (PvD d) (prR d) xs H k = some out → ∃ o, CallOK Tryd.prog 103 xs H o ∧ k o = some out) : (layAl0 (PvD d) (prR d)).OK Tryd.prog := b1_ok ((Lay.nil_ok.addF h).addF prTold_ok)
theorem layAl_ok {d : Nat} (h : ∀ xs H k out, pvTold (PvD d) (prR d) xs H k = some out → ∃ o, CallOK Tryd.prog 103 xs H o ∧ k o = some out) : (layAl (PvD d) (prR d) (PlD d) (aE1 d) (aE2 d)).OK Tryd.prog :=
  ((layAl0_ok h).loop1 (id := 1) (by kernel_rfl) (by kernel_rfl) (by kernel_rfl) (alSp_ok d)).addN (by kernel_rfl)
theorem prv_list5 (d : Nat) (hp : ∀ xs H k out, pvTold (PvD d) (prR d) xs H k = some out → ∃ o, CallOK Tryd.prog 103 xs H o ∧ k o = some out) (n : Int) (t : List UInt8) (lf : Bool) (ln : Nat) (lr : Nat → List AVal) (kf : Bool) (ks : List (List UInt8)) (hl : PlD d (.list lf ln lr))  :
    CallOK Tryd.prog 103 [.agg (encVa ⟨5, n, t, lf, ln, lr, kf, ks⟩)] [] (.ret (.str ([91] ++ alT (fun _ => []) (prV d) (vals (.list lf ln lr)) ++ [93])) []) := by
  have c0 : (Bld.new.add 1 3 [91]).can 1 3 := Bld.add_can (Bld.new_can 1 3) [91]
  have c1 : (aE1 d (.list lf ln lr) (Bld.new.add 1 3 [91])).can 1 3 := Bld.addA_can _ c0
  have c2 := Bld.add_can c1 [93]
  have t1 : (aE1 d (.list lf ln lr) (Bld.new.add 1 3 [91])).t = [91] ++ alT (fun _ => []) (prV d) (vals (.list lf ln lr)) := by
    unfold aE1
    rw [Bld.addA_t, flatMap_flatten, Bld.add_t]; rfl
  have t2 : ((aE1 d (.list lf ln lr) (Bld.new.add 1 3 [91])).add 1 3 [93]).t = [91] ++ alT (fun _ => []) (prV d) (vals (.list lf ln lr)) ++ [93] := by rw [Bld.add_t, t1]
  have hlen := alT_len [] (fun _ => []) (prV d) (szV d) (fun i => by simp) (vals (.list lf ln lr)) (fun v _ => prV_len d v)
  have hs := hl.1.2.2
  try simp only [List.map_nil, List.sum_nil] at hlen
  have l1 : (aE1 d (.list lf ln lr) (Bld.new.add 1 3 [91])).t.length ≤ 1073741000 := by rw [t1]; simp; omega
  have l2 : ((aE1 d (.list lf ln lr) (Bld.new.add 1 3 [91])).add 1 3 [93]).t.length ≤ 1073741824 := by rw [Bld.add_t, List.length_append]; simp only [List.length_singleton]; omega
  have e : lnV (AVal.list lf ln lr) = ln := lnV_eq (d := d) hl.1
  have key := fun k => (prv_k5 (PvD d) (prR d) (PlD d) (aE1 d) (aE2 d) n t lf ln lr kf ks k (aE1 d (.list lf ln lr) (Bld.new.add 1 3 [91])).v rfl (aE1 d (.list lf ln lr) (Bld.new.add 1 3 [91])).t rfl _ rfl ((aE1 d (.list lf ln lr) (Bld.new.add 1 3 [91])).add 1 3 [93]).t rfl).trans
    ((congrArg (fun c => cond c _ none) (tst_true ⟨⟨Bld.new_can 1 3, by omega⟩, .refl _, by trivial⟩)).trans ((cond_true _ _).trans
    ((congrArg (fun c => cond c _ none) (tst_true ⟨⟨c0, Nat.le_refl _, hl, .inl rfl⟩, (by rw [e]; exact .cons (.refl _) (.cons (.refl _) (.cons (canV_sub hl.1) (.refl _)))), rfl, rfl⟩)).trans ((cond_true _ _).trans
    ((congrArg (fun c => cond c _ none) (tst_true ⟨⟨c1, by omega⟩, .refl _, by trivial⟩)).trans ((cond_true _ _).trans
    ((congrArg (fun c => cond c _ none) (tst_true ⟨⟨c2, by omega⟩, .refl _, by trivial⟩)).trans (cond_true _ _))))))))
  rw [← t2]
  exact (layAl_ok hp).callF rfl key
theorem prv_list6 (d : Nat) (hp : ∀ xs H k out, pvTold (PvD d) (prR d) xs H k = some out → ∃ o, CallOK Tryd.prog 103 xs H o ∧ k o = some out) (n : Int) (t : List UInt8) (lf : Bool) (ln : Nat) (lr : Nat → List AVal) (kf : Bool) (ks : List (List UInt8)) (hl : PlD d (.list lf ln lr)) (hk : (ks.map (fun k => 16 + 16 * k.length)).sum ≤ 16777216) :
    CallOK Tryd.prog 103 [.agg (encVa ⟨6, n, t, lf, ln, lr, kf, ks⟩)] [] (.ret (.str ([123] ++ alT (ahK ks) (prV d) (vals (.list lf ln lr)) ++ [125])) []) := by
  have c0 : (Bld.new.add 1 3 [123]).can 1 3 := Bld.add_can (Bld.new_can 1 3) [123]
  have e2 : ∀ b, aE2 d (encVa ⟨6, n, t, lf, ln, lr, kf, ks⟩) (.list lf ln lr) b = b.addA 1 3 ((List.range (vals (.list lf ln lr)).length).flatMap (alB (ahK ks) (prV d) (vals (.list lf ln lr)))) := fun b => by
    unfold aE2
    rw [decVa_enc]
  have c1 : (aE2 d (encVa ⟨6, n, t, lf, ln, lr, kf, ks⟩) (.list lf ln lr) (Bld.new.add 1 3 [123])).can 1 3 := by rw [e2]; exact Bld.addA_can _ c0
  have c2 := Bld.add_can c1 [125]
  have t1 : (aE2 d (encVa ⟨6, n, t, lf, ln, lr, kf, ks⟩) (.list lf ln lr) (Bld.new.add 1 3 [123])).t = [123] ++ alT (ahK ks) (prV d) (vals (.list lf ln lr)) := by
    rw [e2]
    rw [Bld.addA_t, flatMap_flatten, Bld.add_t]; rfl
  have t2 : ((aE2 d (encVa ⟨6, n, t, lf, ln, lr, kf, ks⟩) (.list lf ln lr) (Bld.new.add 1 3 [123])).add 1 3 [125]).t = [123] ++ alT (ahK ks) (prV d) (vals (.list lf ln lr)) ++ [125] := by rw [Bld.add_t, t1]
  have hlen := alT_len ks (ahK ks) (prV d) (szV d) (ahK_len ks) (vals (.list lf ln lr)) (fun v _ => prV_len d v)
  have hs := hl.1.2.2
  try simp only [List.map_nil, List.sum_nil] at hlen
  have l1 : (aE2 d (encVa ⟨6, n, t, lf, ln, lr, kf, ks⟩) (.list lf ln lr) (Bld.new.add 1 3 [123])).t.length ≤ 1073741000 := by rw [t1]; simp; omega
  have l2 : ((aE2 d (encVa ⟨6, n, t, lf, ln, lr, kf, ks⟩) (.list lf ln lr) (Bld.new.add 1 3 [123])).add 1 3 [125]).t.length ≤ 1073741824 := by rw [Bld.add_t, List.length_append]; simp only [List.length_singleton]; omega
  have e : lnV (AVal.list lf ln lr) = ln := lnV_eq (d := d) hl.1
  have key := fun k => (prv_k6 (PvD d) (prR d) (PlD d) (aE1 d) (aE2 d) n t lf ln lr kf ks k (aE2 d (encVa ⟨6, n, t, lf, ln, lr, kf, ks⟩) (.list lf ln lr) (Bld.new.add 1 3 [123])).v rfl (aE2 d (encVa ⟨6, n, t, lf, ln, lr, kf, ks⟩) (.list lf ln lr) (Bld.new.add 1 3 [123])).t rfl _ rfl ((aE2 d (encVa ⟨6, n, t, lf, ln, lr, kf, ks⟩) (.list lf ln lr) (Bld.new.add 1 3 [123])).add 1 3 [125]).t rfl).trans
    ((congrArg (fun c => cond c _ none) (tst_true ⟨⟨Bld.new_can 1 3, by omega⟩, .refl _, by trivial⟩)).trans ((cond_true _ _).trans
    ((congrArg (fun c => cond c _ none) (tst_true ⟨⟨c0, Nat.le_refl _, hl, .inr ⟨rfl, _, rfl, hk⟩⟩, (by rw [e]; exact .cons (.refl _) (.cons (.refl _) (.cons (canV_sub hl.1) (.refl _)))), rfl, rfl⟩)).trans ((cond_true _ _).trans
    ((congrArg (fun c => cond c _ none) (tst_true ⟨⟨c1, by omega⟩, .refl _, by trivial⟩)).trans ((cond_true _ _).trans
    ((congrArg (fun c => cond c _ none) (tst_true ⟨⟨c2, by omega⟩, .refl _, by trivial⟩)).trans (cond_true _ _))))))))
  rw [← t2]
  exact (layAl_ok hp).callF rfl key
theorem prv_ok (d : Nat) (hp : ∀ xs H k out, pvTold (PvD d) (prR d) xs H k = some out → ∃ o, CallOK Tryd.prog 103 xs H o ∧ k o = some out) (v : VaD) (hw : wfVal (d + 1) v) (hs : szV (d + 1) v ≤ 16777216) (hkd : kdV (d + 1) v) :
    CallOK Tryd.prog 103 [.agg (encVa v)] [] (.ret (.str (prV (d + 1) v)) []) := by
  have hl : PlD d v.list := ⟨wf_list hw hs, hkd.2⟩
  have hk := hkd.1
  have hks : (v.keys.map (fun k => 16 + 16 * k.length)).sum ≤ 16777216 := by unfold szV at hs; omega
  have hL := layAl_ok hp
  obtain ⟨kd, n, t, lf, ln, lr, kf, ks⟩ := v
  obtain ⟨h1, h2⟩ := hk
  obtain ⟨g1, g2, _⟩ := hw
  simp only at h1 h2 g1 g2
  obtain ⟨m, rfl⟩ : ∃ m : Nat, kd = m := ⟨kd.toNat, by omega⟩
  have hm : m < 12 := by omega
  match m, hm with
  | 0, _ => exact hL.callF rfl (fun k => prv_k0 (PvD d) (prR d) (PlD d) (aE1 d) (aE2 d) n t lf ln lr kf ks k)
  | 1, _ => exact hL.callF rfl (fun k => prv_k1 (PvD d) (prR d) (PlD d) (aE1 d) (aE2 d) n t lf ln lr kf ks k)
  | 2, _ => exact hL.callF rfl (fun k => prv_k2 (PvD d) (prR d) (PlD d) (aE1 d) (aE2 d) n t lf ln lr kf ks k)
  | 3, _ => exact hL.callF rfl (fun k => (prv_k3 (PvD d) (prR d) (PlD d) (aE1 d) (aE2 d) n t lf ln lr kf ks k).trans ((congrArg (fun c => cond c _ none) (dT ⟨g1, g2⟩)).trans (cond_true _ _)))
  | 4, _ => exact hL.callF rfl (fun k => prv_k4 (PvD d) (prR d) (PlD d) (aE1 d) (aE2 d) n t lf ln lr kf ks k)
  | 5, _ => exact prv_list5 d hp n t lf ln lr kf ks hl
  | 6, _ => exact prv_list6 d hp n t lf ln lr kf ks hl hks
  | 7, _ => exact hL.callF rfl (fun k => prv_k7 (PvD d) (prR d) (PlD d) (aE1 d) (aE2 d) n t lf ln lr kf ks k)
  | 8, _ => exact hL.callF rfl (fun k => prv_k8 (PvD d) (prR d) (PlD d) (aE1 d) (aE2 d) n t lf ln lr kf ks k)
  | 9, _ => exact hL.callF rfl (fun k => prv_k9 (PvD d) (prR d) (PlD d) (aE1 d) (aE2 d) n t lf ln lr kf ks k)
  | 10, _ => exact hL.callF rfl (fun k => prv_k10 (PvD d) (prR d) (PlD d) (aE1 d) (aE2 d) n t lf ln lr kf ks k)
  | 11, _ => exact hL.callF rfl (fun k => prv_k11 (PvD d) (prR d) (PlD d) (aE1 d) (aE2 d) n t lf ln lr kf ks k)
theorem pvTold_ok : ∀ (d : Nat) xs H k out, pvTold (PvD d) (prR d) xs H k = some out → ∃ o, CallOK Tryd.prog 103 xs H o ∧ k o = some out
  | 0 => vrTold_ok (ok := PvD 0) (post := fun x k => k (.ret (.str (prR 0 x)) [])) fun x h => absurd h.2 (by unfold kdV; exact id)
  | d + 1 => vrTold_ok (ok := PvD (d + 1)) (post := fun x k => k (.ret (.str (prR (d + 1) x)) [])) fun x h => ⟨_, fun k => rfl, by
    obtain ⟨⟨h1, h2, h3⟩, h4⟩ := h
    have h1 : x = encVa (decVa x) := h1
    have key := prv_ok d (pvTold_ok d) (decVa x) h2 h3 h4
    rw [← h1] at key
    exact key⟩
end Go.Mu
set_option linter.unusedVariables false
set_option linter.unusedSimpArgs false
set_option maxRecDepth 100000
namespace Go.Mu
open Go Go.Proofs
noncomputable def ltTold (W : List AVal → Prop) (R : List AVal → List UInt8) : FSp := vrTold W (fun x k => k (.ret (.str (R x)) []))
abbrev LtR := List AVal → AVal → List (List UInt8)
noncomputable def ltSp (V : List AVal → Prop) (Wl : AVal → Prop) (L : LtR) : LSp := mkL (fun vs bs H => (bs.getD 0 [], vs.getD 2 .undef)) (fun a => V a.1 ∧ Wl a.2) (fun a => [.ptr (.tmp 1) 0, .own 0 0 0 0 false, canV a.2, .int .i64 (lnV a.2), .int .i64 0]) (fun a => [a.1]) (fun _ => [.arr 1 [] 0])
  (fun a k => k (.exit 1) [.ptr (.tmp 1) 0, .own 0 0 (L a.1 a.2).length (L a.1 a.2).length false] [a.1] [.arr 1 ((L a.1 a.2).map encS) (L a.1 a.2).length])
noncomputable def ltFH (V : List AVal → Prop) (Wl : AVal → Prop) (L : LtR) : FH := .of [(11, loopSpec 86 [1,3,58,59,60] [1] [1,3] [1] (ltSp V Wl L))]
noncomputable def layLt0 (W : List AVal → Prop) (R : List AVal → List UInt8) (Q : List UInt8 → List UInt8) : Lay := (((Lay.nil.addF 51 (ltTold W R)).addF 96 (pescTold Q)).addF 45 sJoinTold).addF 90 prTold
theorem lt_step (W : List AVal → Prop) (R : List AVal → List UInt8) (Q : List UInt8 → List UInt8) (V : List AVal → Prop) (Wl : AVal → Prop) (L : LtR) (v : VaD) (c : Nat) (os : List (List UInt8)) (f : Bool) (q : Nat) (g : Nat → VaD) (n i : Int) (D : List (FuncId × List AVal)) (k : Kont) (c0 : Bool) (e_c0 : c0 = (decide (0 ≤ i)))
  (m1 : Nat) (e_m1 : m1 = (v.keys.length))
  (n2 : Int) (e_n2 : n2 = ((↑m1 : Int)))
  (c3 : Bool) (e_c3 : c3 = (tst
    (W
        (cellsA
          (AVal.agg
            [AVal.int IntKind.i64 (g i.toNat).kind, AVal.int IntKind.i64 (g i.toNat).int, AVal.str (g i.toNat).text,
              AVal.list (g i.toNat).lf (g i.toNat).ln (g i.toNat).lr,
              AVal.list (g i.toNat).kf (g i.toNat).keys.length fun (i_1 : Nat) =>
                [AVal.str ((g i.toNat).keys.getD i_1 [])]])) ∧
      SubL
          [AVal.agg
              [AVal.int IntKind.i64 (g i.toNat).kind, AVal.int IntKind.i64 (g i.toNat).int, AVal.str (g i.toNat).text,
                AVal.list (g i.toNat).lf (g i.toNat).ln (g i.toNat).lr,
                AVal.list (g i.toNat).kf (g i.toNat).keys.length fun (i_1 : Nat) =>
                  [AVal.str ((g i.toNat).keys.getD i_1 [])]]]
          [AVal.agg
              (cellsA
                (AVal.agg
                  [AVal.int IntKind.i64 (g i.toNat).kind, AVal.int IntKind.i64 (g i.toNat).int,
                    AVal.str (g i.toNat).text, AVal.list (g i.toNat).lf (g i.toNat).ln (g i.toNat).lr,
                    AVal.list (g i.toNat).kf (g i.toNat).keys.length fun (i_1 : Nat) =>
                      [AVal.str ((g i.toNat).keys.getD i_1 [])]]))] ∧
        ([] : Heap) = [])))
  (l4 : List UInt8) (e_l4 : l4 = (R
    (cellsA
      (AVal.agg
        [AVal.int IntKind.i64 (g i.toNat).kind, AVal.int IntKind.i64 (g i.toNat).int, AVal.str (g i.toNat).text,
          AVal.list (g i.toNat).lf (g i.toNat).ln (g i.toNat).lr,
          AVal.list (g i.toNat).kf (g i.toNat).keys.length fun (i_1 : Nat) =>
            [AVal.str ((g i.toNat).keys.getD i_1 [])]]))))
  (m5 : Nat) (e_m5 : m5 = (l4.length))
  (m6 : Nat) (e_m6 : m6 = (c + 1))
  (c7 : Bool) (e_c7 : c7 = (c == c && c == (List.map encS os).length &&
      decide ((2 * m6 + 1000) * 16 ≤ 281474976710656) &&
    true))
  (l8 : List UInt8) (e_l8 : l8 = (v.keys.getD i.toNat []))
  (l9 : List UInt8) (e_l9 : l9 = (Q l8))
  (l10 : List UInt8) (e_l10 : l10 = (l9.append [58])) : lturn Tryd.prog (layLt0 W R Q) (ltFH V Wl L) 51 11 [1,3,58,59,60] [1] [1,3] [1] (stL 86 [1,3,58,59,60] [.ptr (.tmp 1) 0, .own 0 0 c c false, .list f q (fun i => encVa (g i)), .int .i64 n, .int .i64 i] [1] [encVa v] [.arr 1 (os.map encS) c] D) k = (
  bif decide (i < n) then
  bif c0 && decide (i < (↑q : Int)) then
  bif bif v.kind != 6 then true else decide (i ≥ n2) then
  bif c3 then
  bif decide (0 + m5 ≤ 4611686018427387904) then
  bif c7 then
  k AExit.normal
  (stL 86 [1, 3, 58, 59, 60]
  [AVal.ptr (Oid.tmp 1) 0, AVal.own 0 0 m6 m6 false, AVal.list f q fun (i : Nat) => encVa (g i),
  AVal.int IntKind.i64 n, AVal.int IntKind.i64 (IntKind.i64.wrap (i + 1))]
  [1]
  [[AVal.int IntKind.i64 v.kind, AVal.int IntKind.i64 v.int, AVal.str v.text, AVal.list v.lf v.ln v.lr,
  AVal.list v.kf m1 fun (i : Nat) => [AVal.str (v.keys.getD i [])]]]
  [Obj.arr 1 ((List.map encS os).append [[AVal.str l4]]) m6] D)
  else none
  else none
  else none
  else
  bif c0 && decide (i < n2) then
  bif decide (l8.length ≤ 26843545) then
  bif decide (l9.length + 1 ≤ 4611686018427387904) then
  bif c3 then
  bif decide (l10.length + m5 ≤ 4611686018427387904) then
  bif c7 then
  k AExit.normal
  (stL 86 [1, 3, 58, 59, 60]
  [AVal.ptr (Oid.tmp 1) 0, AVal.own 0 0 m6 m6 false, AVal.list f q fun (i : Nat) => encVa (g i),
  AVal.int IntKind.i64 n, AVal.int IntKind.i64 (IntKind.i64.wrap (i + 1))]
  [1]
  [[AVal.int IntKind.i64 v.kind, AVal.int IntKind.i64 v.int, AVal.str v.text,
  AVal.list v.lf v.ln v.lr, AVal.list v.kf m1 fun (i : Nat) => [AVal.str (v.keys.getD i [])]]]
  [Obj.arr 1
  ((List.map encS os).append [[AVal.str (l10.append l4)]]) m6]
  D)
  else none
  else none
  else none
  else none
  else none
  else none
  else none
  else
  k (AExit.exit 1)
  (stL 86 [1, 3] [AVal.ptr (Oid.tmp 1) 0, AVal.own 0 0 c c false] [1]
  [[AVal.int IntKind.i64 v.kind, AVal.int IntKind.i64 v.int, AVal.str v.text, AVal.list v.lf v.ln v.lr,
  AVal.list v.kf m1 fun (i : Nat) => [AVal.str (v.keys.getD i [])]]]
        [Obj.arr 1 (List.map encS os) c] D)) := by
  subst e_c0 e_m1 e_n2 e_c3 e_l4 e_m5 e_m6 e_c7 e_l8 e_l9 e_l10
  kernel_rfl
noncomputable def layLt (W : List AVal → Prop) (R : List AVal → List UInt8) (Q : List UInt8 → List UInt8) (V : List AVal → Prop) (Wl : AVal → Prop) (L : LtR) : Lay := (layLt0 W R Q).addL 51 (ltFH V Wl L)
theorem lit_fun (W : List AVal → Prop) (R : List AVal → List UInt8) (Q : List UInt8 → List UInt8) (V : List AVal → Prop) (Wl : AVal → Prop) (L : LtR) (v : VaD) (k : Out → Ans) : iFun Tryd.prog ((layLt W R Q V Wl L).hd Tryd.prog) (layLt W R Q V Wl L).fhs 0 51 [.agg (encVa v)] [] k = (
 let c0 : Bool := decide (v.kind < 3);
 let c1 : Bool := v.kind == 3;
 let c2 : Bool := decide (-9223372036854775808 ≤ v.int ∧ v.int ≤ 9223372036854775807);
 let n3 : Int := (↑v.ln : Int);
 let m4 : Nat :=
  (L
  [AVal.int IntKind.i64 v.kind, AVal.int IntKind.i64 v.int, AVal.str v.text, AVal.list v.lf v.ln v.lr,
  AVal.list v.kf v.keys.length fun (i : Nat) => [AVal.str (v.keys.getD i [])]]
  (AVal.list v.lf v.ln v.lr)).length;
 let m5 : Nat :=
  (decL decS
  (AVal.list false m4 fun (i : Nat) =>
  (List.map encS
  (L
  [AVal.int IntKind.i64 v.kind, AVal.int IntKind.i64 v.int, AVal.str v.text, AVal.list v.lf v.ln v.lr,
  AVal.list v.kf v.keys.length fun (i : Nat) => [AVal.str (v.keys.getD i [])]]
  (AVal.list v.lf v.ln v.lr))).getD
  (0 + i) [])).length;
 let l6 : List UInt8 :=
  Lib.join
  (decL decS
  (AVal.list false m4 fun (i : Nat) =>
  (List.map encS
  (L
  [AVal.int IntKind.i64 v.kind, AVal.int IntKind.i64 v.int, AVal.str v.text, AVal.list v.lf v.ln v.lr,
  AVal.list v.kf v.keys.length fun (i : Nat) => [AVal.str (v.keys.getD i [])]]
  (AVal.list v.lf v.ln v.lr))).getD
  (0 + i) []))
  [44];
 let m7 : Nat := l6.length;
 let c8 : Bool := decide (1 + m7 ≤ 4611686018427387904);
  bif bif decide (v.kind ≥ 0) then c0 else false then
  bif decide (0 ≤ v.kind) && c0 then
  bif
  decide
  (1 ≤
  ([[AVal.str [110, 117, 108, 108]], [AVal.str [102, 97, 108, 115, 101]],
  [AVal.str [116, 114, 117, 101]]].getD
  v.kind.toNat []).length) &&
  isStr
  (([[AVal.str [110, 117, 108, 108]], [AVal.str [102, 97, 108, 115, 101]],
  [AVal.str [116, 114, 117, 101]]].getD
  v.kind.toNat []).getD
  0 AVal.undef) then
  k
  (Out.ret
  (AVal.str
  (strOf
  (([[AVal.str [110, 117, 108, 108]], [AVal.str [102, 97, 108, 115, 101]],
  [AVal.str [116, 114, 117, 101]]].getD
  v.kind.toNat []).getD
  0 AVal.undef)))
  [])
  else none
  else none
  else
  bif bif c1 then decide (v.int < 0) else false then
  bif c2 then
  bif decide (1 + (printM v.int).length ≤ 4611686018427387904) then k (Out.ret (AVal.str (32 :: printM v.int)) [])
  else none
  else none
  else
  bif c1 then bif c2 then k (Out.ret (AVal.str (printM v.int)) []) else none
  else
  bif bif v.kind != 5 then v.kind != 6 else false then
  bif decide (v.text.length ≤ 26843545) then k (Out.ret (AVal.str (Q v.text)) []) else none
  else
  bif decide (16 * n3 ≤ 281474976710656) && decide (n3 ≤ 9223372036854775807) then
  bif
  tst
  ((V
  [AVal.int IntKind.i64 v.kind, AVal.int IntKind.i64 v.int, AVal.str v.text,
  AVal.list v.lf v.ln v.lr,
  AVal.list v.kf v.keys.length fun (i : Nat) => [AVal.str (v.keys.getD i [])]] ∧
  Wl (AVal.list v.lf v.ln v.lr)) ∧
  SubTL
  [AVal.ptr (Oid.tmp 1) 0, AVal.own 0 0 0 0 false, AVal.list v.lf v.ln v.lr,
  AVal.int IntKind.i64 n3, AVal.int IntKind.i64 0]
  [AVal.ptr (Oid.tmp 1) 0, AVal.own 0 0 0 0 false, canV (AVal.list v.lf v.ln v.lr),
  AVal.int IntKind.i64 (↑(lnV (AVal.list v.lf v.ln v.lr)) : Int), AVal.int IntKind.i64 0] ∧
  [[AVal.int IntKind.i64 v.kind, AVal.int IntKind.i64 v.int, AVal.str v.text,
  AVal.list v.lf v.ln v.lr,
  AVal.list v.kf v.keys.length fun (i : Nat) => [AVal.str (v.keys.getD i [])]]] =
  [[AVal.int IntKind.i64 v.kind, AVal.int IntKind.i64 v.int, AVal.str v.text,
  AVal.list v.lf v.ln v.lr,
  AVal.list v.kf v.keys.length fun (i : Nat) => [AVal.str (v.keys.getD i [])]]] ∧
  [Obj.arr 1 [] 0] = [Obj.arr 1 [] 0]) then
  bif
  (m4 == m4 &&
  decide
  (0 + m4 ≤
  (List.map encS
  (L
  [AVal.int IntKind.i64 v.kind, AVal.int IntKind.i64 v.int, AVal.str v.text,
  AVal.list v.lf v.ln v.lr,
  AVal.list v.kf v.keys.length fun (i : Nat) => [AVal.str (v.keys.getD i [])]]
  (AVal.list v.lf v.ln v.lr))).length) &&
  (List.map encS
  (L
  [AVal.int IntKind.i64 v.kind, AVal.int IntKind.i64 v.int, AVal.str v.text,
  AVal.list v.lf v.ln v.lr,
  AVal.list v.kf v.keys.length fun (i : Nat) => [AVal.str (v.keys.getD i [])]]
  (AVal.list v.lf v.ln v.lr))).all
  fun (r : List AVal) => r.all isPure) &&
  true then
  bif
  tst
  ((m5 ≤ 140737488355328 ∧ m7 ≤ 140737488355328) ∧
  SubL
  [AVal.list false m4 fun (i : Nat) =>
  (List.map encS
  (L
  [AVal.int IntKind.i64 v.kind, AVal.int IntKind.i64 v.int, AVal.str v.text,
  AVal.list v.lf v.ln v.lr,
  AVal.list v.kf v.keys.length fun (i : Nat) => [AVal.str (v.keys.getD i [])]]
  (AVal.list v.lf v.ln v.lr))).getD
  (0 + i) [],
  AVal.str [44]]
  [AVal.list false m5 fun (i : Nat) =>
  [AVal.str
  ((decL decS
  (AVal.list false
  (L
  [AVal.int IntKind.i64 v.kind, AVal.int IntKind.i64 v.int, AVal.str v.text,
  AVal.list v.lf v.ln v.lr,
  AVal.list v.kf v.keys.length fun (i : Nat) =>
  [AVal.str (v.keys.getD i [])]]
  (AVal.list v.lf v.ln v.lr)).length
  fun (i : Nat) =>
  (List.map encS
  (L
  [AVal.int IntKind.i64 v.kind, AVal.int IntKind.i64 v.int,
  AVal.str v.text, AVal.list v.lf v.ln v.lr,
  AVal.list v.kf v.keys.length fun (i : Nat) =>
  [AVal.str (v.keys.getD i [])]]
  (AVal.list v.lf v.ln v.lr))).getD
  (0 + i) [])).getD
  i [])],
  AVal.str [44]] ∧
  ([] : Heap) = []) then
  bif v.kind == 6 then
  bif c8 then
  bif decide ((123 :: l6).length + 1 ≤ 4611686018427387904) then
  k
  (Out.ret (AVal.str (123 :: (l6 ++ [125])))
  [Obj.arr 1
  (List.map encS
  (L
  [AVal.int IntKind.i64 v.kind, AVal.int IntKind.i64 v.int, AVal.str v.text,
  AVal.list v.lf v.ln v.lr,
  AVal.list v.kf v.keys.length fun (i : Nat) => [AVal.str (v.keys.getD i [])]]
  (AVal.list v.lf v.ln v.lr)))
  m4])
  else none
  else none
  else
  bif c8 then
  bif decide ((91 :: l6).length + 1 ≤ 4611686018427387904) then
  k
  (Out.ret (AVal.str (91 :: (l6 ++ [93])))
  [Obj.arr 1
  (List.map encS
  (L
  [AVal.int IntKind.i64 v.kind, AVal.int IntKind.i64 v.int, AVal.str v.text,
  AVal.list v.lf v.ln v.lr,
  AVal.list v.kf v.keys.length fun (i : Nat) => [AVal.str (v.keys.getD i [])]]
  (AVal.list v.lf v.ln v.lr)))
  m4])
  else none
  else none
  else none
  else none
  else none
  else none) := by kernel_rfl
end Go.Mu
set_option linter.unusedVariables false
set_option linter.unusedSimpArgs false
set_option maxRecDepth 100000
namespace Go.Mu
open Go Go.Proofs
/- what is written -/
def lKey (v : VaD) (i : Nat) : List UInt8 := if v.kind = 6 ∧ i < v.keys.length then quoP (v.keys.getD i []) ++ [58] else []
def lItem (R : VaD → List UInt8) (v : VaD) (l : List VaD) (i : Nat) : List UInt8 := lKey v i ++ R (l.getD i va0)
def lItems (R : VaD → List UInt8) (v : VaD) (l : List VaD) : List (List UInt8) := (List.range l.length).map (lItem R v l)
def litL (v : VaD) (s : List UInt8) : List UInt8 := if v.kind = 6 then 123 :: (s ++ [125]) else 91 :: (s ++ [93])
def litV : Nat → VaD → List UInt8
  | 0, _ => []
  | d + 1, v => if v.kind = 0 then [110, 117, 108, 108] else if v.kind = 1 then [102, 97, 108, 115, 101] else if v.kind = 2 then [116, 114, 117, 101] else if v.kind = 3 then (if v.int < 0 then 32 :: printM v.int else printM v.int)
    else if v.kind = 5 ∨ v.kind = 6 then litL v (Lib.join (lItems (litV d) v (vals v.list)) [44]) else quoP v.text
theorem join_le (b : UInt8) : ∀ (l : List (List UInt8)), (Lib.join l [b]).length ≤ (l.map (fun x => x.length + 1)).sum
  | [] => by simp [Lib.join_nil]
  | [x] => by simp [Lib.join_one]
  | x :: y :: l => by
    have ih := join_le b (y :: l)
    have e : Lib.join (x :: y :: l) [b] = x ++ [b] ++ Lib.join (y :: l) [b] := by
      unfold Lib.join
      simp [List.intercalate, List.intersperse]
    rw [e, List.map_cons, List.sum_cons, List.length_append, List.length_append]
    simp only [List.length_singleton]
    omega
theorem lKey_len (v : VaD) (i : Nat) : (lKey v i).length ≤ if i < v.keys.length then 3 + 12 * (v.keys.getD i []).length else 0 := by
  unfold lKey
  have := quoP_len (v.keys.getD i [])
  split
  · rename_i h; rw [if_pos h.2, List.length_append]; simp only [List.length_singleton]; omega
  · simp
theorem lItems_len (v : VaD) (R : VaD → List UInt8) (S : VaD → Nat) (l : List VaD) (hR : ∀ v ∈ l, (R v).length + 8 ≤ S v) : ∀ i, i ≤ l.length →
    (((List.range i).map (lItem R v l)).map (fun x => x.length + 1)).sum ≤ ((l.take i).map S).sum + ((v.keys.take i).map (fun k => 16 + 16 * k.length)).sum := by
  intro i
  induction i with
  | zero => intro _; simp
  | succ i ih =>
    intro hi
    have ih := ih (by omega)
    rw [List.range_succ, List.map_append, List.map_append, List.sum_append, take_sum S l va0 i (by omega)]
    have hm : l.getD i va0 ∈ l := by rw [List.getD_eq_getElem?_getD, List.getElem?_eq_getElem (by omega)]; exact List.getElem_mem _
    have h1 := hR _ hm
    have h3 := lKey_len v i
    have h4 : (lItem R v l i).length = (lKey v i).length + (R (l.getD i va0)).length := List.length_append
    simp only [List.map_cons, List.map_nil, List.sum_cons, List.sum_nil]
    by_cases hk : i < v.keys.length
    · rw [take_sum (fun k : List UInt8 => 16 + 16 * k.length) v.keys [] i hk]
      rw [if_pos hk] at h3
      omega
    · rw [if_neg hk] at h3
      rw [List.take_of_length_le (by omega : v.keys.length ≤ i + 1)]
      rw [List.take_of_length_le (by omega : v.keys.length ≤ i)] at ih
      omega
theorem lJoin_len (v : VaD) (R : VaD → List UInt8) (S : VaD → Nat) (l : List VaD) (hR : ∀ v ∈ l, (R v).length + 8 ≤ S v) : (Lib.join (lItems R v l) [44]).length ≤ (l.map S).sum + (v.keys.map (fun k => 16 + 16 * k.length)).sum := by
  have h := lItems_len v R S l hR l.length (Nat.le_refl _)
  rw [List.take_of_length_le (Nat.le_refl _)] at h
  have := take_sum_le (fun k : List UInt8 => 16 + 16 * k.length) v.keys l.length
  have := join_le 44 (lItems R v l)
  unfold lItems at *
  omega
theorem litV_len : ∀ (d : Nat) (v : VaD), (litV d v).length + 8 ≤ szV d v
  | 0, v => by unfold litV szV; simp
  | d + 1, v => by
    have h1 := lJoin_len v (litV d) (szV d) (vals v.list) (fun v _ => litV_len d v)
    have h2 := quoP_len v.text
    have h3 := printM_len v.int
    unfold litV szV litL
    repeat' split
    all_goals first
      | (simp only [List.length_cons, List.length_nil]; omega)
      | (simp only [List.length_append, List.length_cons, List.length_nil]; omega)
      | omega
def ltR (d : Nat) (x : List AVal) : List UInt8 := litV d (decVa x)
theorem ltR_enc (d : Nat) (v : VaD) : ltR d (encVa v) = litV d v := by unfold ltR; rw [decVa_enc]
def lL (d : Nat) : LtR := fun c x => lItems (litV d) (decVa c) (vals x)
def kbV (x : List AVal) : Prop := isV x ∧ ((decVa x).keys.map (fun k => 16 + 16 * k.length)).sum ≤ 16777216
noncomputable abbrev ltTurn (d : Nat) := lturn Tryd.prog (layLt0 (WvD d) (ltR d) quoP) (ltFH kbV (WlD d) (lL d)) 51 11 [1,3,58,59,60] [1] [1,3] [1]
theorem lt_rd (d : Nat) (v : VaD) (hk : ∀ i, (v.keys.getD i []).length ≤ 4194304) (os : List (List UInt8)) (f : Bool) (l : List VaD) (hl : l.length ≤ 1048576) (i : Nat) (ho : os.length = i) (hi : i < l.length) (hW : wfVal d (l.getD i va0) ∧ szV d (l.getD i va0) ≤ 16777216) (D : List (FuncId × List AVal)) (k : Kont) :
    ltTurn d (stL 86 [1,3,58,59,60] [.ptr (.tmp 1) 0, .own 0 0 i i false, encVas f l, .int .i64 l.length, .int .i64 (i : Nat)] [1] [encVa v] [.arr 1 (os.map encS) i] D) k = k .normal (stL 86 [1,3,58,59,60] [.ptr (.tmp 1) 0, .own 0 0 (i + 1) (i + 1) false, encVas f l, .int .i64 l.length, .int .i64 ((i + 1 : Nat) : Int)] [1] [encVa v] [.arr 1 ((os ++ [lItem (litV d) v l i]).map encS) (i + 1)] D) := by
  have hp := litV_len d (l.getD i va0)
  have hki := hk i
  have hq := quoP_len (v.keys.getD i [])
  have el : (quoP (v.keys.getD i []) ++ [58]).length = (quoP (v.keys.getD i [])).length + 1 := by rw [List.length_append]; rfl
  have e1 : IntKind.i64.wrap ((i : Int) + 1) = ((i + 1 : Nat) : Int) := wrap_add1 (by omega)
  have hq2 : (i == (List.map encS os).length) = true := by rw [List.length_map, ho]; exact beq_self_eq_true _
  have e7 : decide ((2 * (i + 1) + 1000) * 16 ≤ 281474976710656) = true := dT (by omega)
  refine (lt_step (WvD d) (ltR d) quoP kbV (WlD d) (lL d) v i os f l.length (fun i => l.getD i va0) l.length i D k _ rfl _ rfl _ rfl _ rfl (litV d (l.getD i va0)) (ltR_enc d _).symm _ rfl (i + 1) rfl true (by rw [beq_self_eq_true, hq2, e7]; rfl) (v.keys.getD i []) (by rw [Int.toNat_natCast]) _ rfl (quoP (v.keys.getD i []) ++ [58]) rfl).trans ?_
  simp only [e1, dT (show (i : Int) < l.length by omega), dT (show (0 : Int) ≤ (i : Int) by omega), Bool.and_self, cond_true, Int.toNat_natCast]
  rw [List.map_append]
  unfold lItem lKey
  by_cases h6 : v.kind = 6 ∧ i < v.keys.length
  · have hb : (bif v.kind != 6 then true else decide ((i : Int) ≥ (v.keys.length : Int))) = false := by
      rw [h6.1, dF (show ¬ (i : Int) ≥ (v.keys.length : Int) by omega)]; rfl
    rw [hb, cond_false, if_pos h6]
    refine (congrArg (fun c => cond c _ none) (dT (show (i : Int) < (v.keys.length : Int) by omega))).trans ((cond_true _ _).trans ?_)
    refine (congrArg (fun c => cond c _ none) (dT (show (v.keys.getD i []).length ≤ 26843545 by omega))).trans ((cond_true _ _).trans ?_)
    refine (congrArg (fun c => cond c _ none) (dT (show (quoP (v.keys.getD i [])).length + 1 ≤ 4611686018427387904 by omega))).trans ((cond_true _ _).trans ?_)
    refine (congrArg (fun c => cond c _ none) (tst_true ⟨WvD_enc hW.1 hW.2, .refl _, by trivial⟩)).trans ((cond_true _ _).trans ?_)
    exact (congrArg (fun c => cond c _ none) (dT (by omega))).trans rfl
  · have hb : (bif v.kind != 6 then true else decide ((i : Int) ≥ (v.keys.length : Int))) = true := by
      by_cases h : v.kind = 6
      · rw [h, dT (show (i : Int) ≥ (v.keys.length : Int) by omega)]; rfl
      · have : (v.kind != 6) = true := by simpa using h
        rw [this]; rfl
    rw [hb, cond_true, if_neg h6]
    refine (congrArg (fun c => cond c _ none) (tst_true ⟨WvD_enc hW.1 hW.2, .refl _, by trivial⟩)).trans ((cond_true _ _).trans ?_)
    exact (congrArg (fun c => cond c _ none) (dT (by omega))).trans rfl
theorem ltSp_ok (d : Nat) : SpOK (ltTurn d) 86 [1,3,58,59,60] [1] [1,3] [1] (ltSp kbV (WlD d) (lL d)) := mkL_ok fun a h => by
  obtain ⟨c, x⟩ := a
  obtain ⟨h1, h3⟩ := h
  simp only at h1 h3
  have hl := WlD_len h3
  obtain ⟨hv, hk⟩ := h1
  have hv : c = encVa (decVa c) := hv
  generalize hvd : decVa c = v at hv hk
  subst hv
  have hW : ∀ i, i < (vals x).length → wfVal d ((vals x).getD i va0) ∧ szV d ((vals x).getD i va0) ≤ 16777216 := fun i hi => WlD_mem h3 (by rw [List.getD_eq_getElem?_getD, List.getElem?_eq_getElem hi]; exact List.getElem_mem hi)
  have hki : ∀ i, (v.keys.getD i []).length ≤ 4194304 := fun i => by
    rw [List.getD_eq_getElem?_getD]
    by_cases hi : i < v.keys.length
    · rw [List.getElem?_eq_getElem hi]
      have := sum_mem (fun k : List UInt8 => 16 + 16 * k.length) v.keys _ (List.getElem_mem hi)
      simp only [Option.getD_some]
      omega
    · rw [List.getElem?_eq_none (by omega)]; simp
  have eL : lL d (encVa v) x = (List.range (vals x).length).map (lItem (litV d) v (vals x)) := by unfold lL lItems; rw [decVa_enc]
  have eLl : (lL d (encVa v) x).length = (vals x).length := by rw [eL]; simp
  refine ⟨.exit 1, [.ptr (.tmp 1) 0, .own 0 0 (vals x).length (vals x).length false], [encVa v], [.arr 1 (((List.range (vals x).length).map (lItem (litV d) v (vals x))).map encS) (vals x).length], fun k => ?_, ?_⟩
  · show k (.exit 1) [.ptr (.tmp 1) 0, .own 0 0 (lL d (encVa v) x).length (lL d (encVa v) x).length false] [encVa v] [.arr 1 ((lL d (encVa v) x).map encS) (lL d (encVa v) x).length] = _
    rw [eLl, eL]
  exact seq_runs (turn := ltTurn d) (n := 86) (l := [1,3,58,59,60]) (m := [1]) (lx := [1,3]) (mx := [1]) (fun i => [.ptr (.tmp 1) 0, .own 0 0 i i false, encVas (fullOf x) (vals x), .int .i64 (vals x).length, .int .i64 (i : Nat)]) (fun _ => [encVa v]) (fun i => [.arr 1 (((List.range i).map (lItem (litV d) v (vals x))).map encS) i]) (vals x).length (e := .exit 1) (by simp)
      (fun i hi D k => by
        refine (lt_rd d v hki _ (fullOf x) (vals x) (by omega) i (by simp) hi (hW i hi) D k).trans ?_
        rw [List.range_succ, List.map_append (f := lItem (litV d) v (vals x))]
        rfl)
      (fun D k => by
        refine (lt_step (WvD d) (ltR d) quoP kbV (WlD d) (lL d) v (vals x).length _ (fullOf x) (vals x).length (fun i => (vals x).getD i va0) (vals x).length (vals x).length D k _ rfl _ rfl _ rfl _ rfl _ rfl _ rfl _ rfl _ rfl _ rfl _ rfl _ rfl).trans ?_
        rw [dF (show ¬ ((vals x).length : Int) < (vals x).length by omega), cond_false]
        rfl)
end Go.Mu
set_option linter.unusedVariables false
set_option linter.unusedSimpArgs false
set_option maxRecDepth 100000
namespace Go.Mu
open Go Go.Proofs
theorem dec_own (ls : List (List UInt8)) : decL decS (AVal.list false ls.length fun (i : Nat) => (List.map encS ls).getD (0 + i) []) = ls := by
  unfold decL
  simp only [Nat.zero_add]
  refine Eq.trans (List.map_congr_left (g := fun i => ls.getD i []) fun i hi => ?_) (range_getD ls [])
  have hi : i < ls.length := by simpa using hi
  rw [List.getD_eq_getElem?_getD, List.getElem?_map, List.getElem?_eq_getElem hi, List.getD_eq_getElem?_getD, List.getElem?_eq_getElem hi]
  rfl
theorem sub_own (ls : List (List UInt8)) : Sub (AVal.list false ls.length fun (i : Nat) => (List.map encS ls).getD (0 + i) []) (AVal.list false ls.length fun (i : Nat) => [AVal.str (ls.getD i [])]) := by
  refine Sub.list (fun h => h) (fun i hi => ?_)
  rw [Nat.zero_add, List.getD_eq_getElem?_getD, List.getElem?_map, List.getElem?_eq_getElem hi, List.getD_eq_getElem?_getD, List.getElem?_eq_getElem hi]
  exact .refl _
theorem all_own (ls : List (List UInt8)) : (ls.length == ls.length && decide (0 + ls.length ≤ (List.map encS ls).length) && (List.map encS ls).all (fun (r : List AVal) => r.all isPure) && true) = true := by
  rw [beq_self_eq_true, dT (show 0 + ls.length ≤ (List.map encS ls).length by rw [List.length_map]; omega)]
  have : (List.map encS ls).all (fun (r : List AVal) => r.all isPure) = true := by
    refine List.all_eq_true.2 (fun r hr => ?_)
    obtain ⟨s, _, rfl⟩ := List.mem_map.1 hr
    rfl
  rw [this]; rfl
theorem layLt0_ok {d : Nat} (h : ∀ xs H k out, ltTold (WvD d) (ltR d) xs H k = some out → ∃ o, CallOK Tryd.prog 51 xs H o ∧ k o = some out) : (layLt0 (WvD d) (ltR d) quoP).OK Tryd.prog :=
  (((Lay.nil_ok.addF h).addF quoTold_ok).addF sJoinTold_ok).addF prTold_ok
theorem layLt_ok {d : Nat} (h : ∀ xs H k out, ltTold (WvD d) (ltR d) xs H k = some out → ∃ o, CallOK Tryd.prog 51 xs H o ∧ k o = some out) : (layLt (WvD d) (ltR d) quoP kbV (WlD d) (lL d)).OK Tryd.prog :=
  (layLt0_ok h).loop1 (id := 11) (by kernel_rfl) (by kernel_rfl) (by kernel_rfl) (ltSp_ok d)
theorem lit_ok (d : Nat) (hp : ∀ xs H k out, ltTold (WvD d) (ltR d) xs H k = some out → ∃ o, CallOK Tryd.prog 51 xs H o ∧ k o = some out) (v : VaD) (hw : wfVal (d + 1) v) (hs : szV (d + 1) v ≤ 16777216) :
    CallOK Tryd.prog 51 [.agg (encVa v)] [] (.ret (.str (litV (d + 1) v)) []) := by
  have hL := layLt_ok hp
  have hl := wf_list hw hs
  have hks : (v.keys.map (fun k => 16 + 16 * k.length)).sum ≤ 16777216 := by unfold szV at hs; omega
  have hkb : kbV (encVa v) := ⟨isV_enc v, by rw [decVa_enc]; exact hks⟩
  have htx : v.text.length ≤ 26843545 := by unfold szV at hs; omega
  have hlen := lJoin_len v (litV d) (szV d) (vals v.list) (fun v _ => litV_len d v)
  have hjs : (Lib.join (lItems (litV d) v (vals v.list)) [44]).length ≤ 134217728 := by
    have := hl.2.2
    omega
  have hn := WlD_len hl
  have e : lnV (AVal.list v.lf v.ln v.lr) = v.ln := lnV_eq (d := d) hl
  have hln : v.ln ≤ 1048576 := by rw [← e]; exact hn
  have hpl := printM_len v.int
  have eL : lL d [AVal.int IntKind.i64 v.kind, AVal.int IntKind.i64 v.int, AVal.str v.text, AVal.list v.lf v.ln v.lr, AVal.list v.kf v.keys.length fun (i : Nat) => [AVal.str (v.keys.getD i [])]] (AVal.list v.lf v.ln v.lr) = lItems (litV d) v (vals v.list) := by
    show lItems (litV d) (decVa (encVa v)) (vals v.list) = _
    rw [decVa_enc]
  have hil : (lItems (litV d) v (vals v.list)).length ≤ 140737488355328 := by unfold lItems; rw [List.length_map, List.length_range]; omega
  have key := fun k => lit_fun (WvD d) (ltR d) quoP kbV (WlD d) (lL d) v k
  simp only [eL, dec_own] at key
  unfold litV
  by_cases h0 : v.kind = 0
  · rw [if_pos h0]
    refine hL.callF (G := []) rfl (fun k => (key k).trans ?_)
    rw [h0]; rfl
  rw [if_neg h0]
  by_cases h1 : v.kind = 1
  · rw [if_pos h1]
    refine hL.callF (G := []) rfl (fun k => (key k).trans ?_)
    rw [h1]; rfl
  rw [if_neg h1]
  by_cases h2 : v.kind = 2
  · rw [if_pos h2]
    refine hL.callF (G := []) rfl (fun k => (key k).trans ?_)
    rw [h2]; rfl
  rw [if_neg h2]
  have hb0 : (bif decide (v.kind ≥ 0) then decide (v.kind < 3) else false) = false := by
    by_cases hg : v.kind ≥ 0
    · rw [dF (show ¬ v.kind < 3 by omega), Bool.cond_self]
    · rw [dF hg]; rfl
  by_cases h3 : v.kind = 3
  · rw [if_pos h3]
    have hi : decide (-9223372036854775808 ≤ v.int ∧ v.int ≤ 9223372036854775807) = true := dT ⟨hw.1, hw.2.1⟩
    refine hL.callF (G := []) rfl (fun k => (key k).trans ?_)
    have e3 : (v.kind == 3) = true := by rw [h3]; rfl
    rw [hb0, e3, hi]
    by_cases hng : v.int < 0
    · rw [if_pos hng, dT hng, dT (show 1 + (printM v.int).length ≤ 4611686018427387904 by omega)]; rfl
    · rw [if_neg hng, dF hng]; rfl
  rw [if_neg h3]
  have e3 : (v.kind == 3) = false := beq_false_of_ne h3
  by_cases h56 : v.kind = 5 ∨ v.kind = 6
  · rw [if_pos h56]
    have hb5 : (bif v.kind != 5 then v.kind != 6 else false) = false := by
      rcases h56 with h | h <;> rw [h] <;> rfl
    simp only [hb0, e3, hb5, cond_false] at key
    replace key := fun k => (key k).trans
      ((congrArg (fun c => cond c _ none) (show (decide (16 * (v.ln : Int) ≤ 281474976710656) && decide ((v.ln : Int) ≤ 9223372036854775807)) = true by rw [dT (by omega), dT (by omega)]; rfl)).trans ((cond_true _ _).trans
      ((congrArg (fun c => cond c _ none) (tst_true ⟨⟨hkb, hl⟩, (by rw [e]; exact .cons (.refl _) (.cons (.refl _) (.cons (canV_sub hl) (.refl _)))), by trivial⟩)).trans ((cond_true _ _).trans
      ((congrArg (fun c => cond c _ none) (all_own _)).trans ((cond_true _ _).trans
      ((congrArg (fun c => cond c _ none) (tst_true ⟨⟨hil, by omega⟩, .cons (sub_own _) (.refl _), by trivial⟩)).trans (cond_true _ _))))))))
    unfold litL
    by_cases h6 : v.kind = 6
    · have e6 : (v.kind == 6) = true := by rw [h6]; rfl
      rw [if_pos h6]
      simp only [e6, cond_true] at key
      exact hL.callF rfl (fun k => (key k).trans ((congrArg (fun c => cond c _ none) (dT (by omega))).trans ((cond_true _ _).trans ((congrArg (fun c => cond c _ none) (dT (by rw [List.length_cons]; omega))).trans (cond_true _ _)))))
    · have e6 : (v.kind == 6) = false := beq_false_of_ne h6
      rw [if_neg h6]
      simp only [e6, cond_false] at key
      exact hL.callF rfl (fun k => (key k).trans ((congrArg (fun c => cond c _ none) (dT (by omega))).trans ((cond_true _ _).trans ((congrArg (fun c => cond c _ none) (dT (by rw [List.length_cons]; omega))).trans (cond_true _ _)))))
  · rw [if_neg h56]
    have hb5 : (bif v.kind != 5 then v.kind != 6 else false) = true := by
      have a : (v.kind != 5) = true := by simp; omega
      have b : (v.kind != 6) = true := by simp; omega
      rw [a, b]; rfl
    refine hL.callF (G := []) rfl (fun k => (key k).trans ?_)
    rw [hb0, e3, hb5, dT htx]
    rfl
theorem ltTold_ok : ∀ (d : Nat) xs H k out, ltTold (WvD d) (ltR d) xs H k = some out → ∃ o, CallOK Tryd.prog 51 xs H o ∧ k o = some out
  | 0 => vrTold_ok (ok := WvD 0) (post := fun x k => k (.ret (.str (ltR 0 x)) [])) fun x h => absurd h.2.1 (by unfold wfVal; exact id)
  | d + 1 => vrTold_ok (ok := WvD (d + 1)) (post := fun x k => k (.ret (.str (ltR (d + 1) x)) [])) fun x h => ⟨_, fun k => rfl, by
    obtain ⟨h1, h2, h3⟩ := h
    have h1 : x = encVa (decVa x) := h1
    have key := lit_ok d (ltTold_ok d) (decVa x) h2 h3
    rw [← h1] at key
    exact key⟩
end Go.Mu
set_option linter.unusedVariables false
set_option linter.unusedSimpArgs false
set_option maxRecDepth 100000
namespace Go.Mu
open Go Go.Proofs
def fSS (R : List UInt8 → List UInt8) (n : Nat) : FSp := mkFS [.s] (fun xs => decide ((aS xs 0).length ≤ n)) (fun xs k => k (.ret (.str (R (aS xs 0))) []))
def okE (s : List UInt8) : Bool := decide (s.length ≤ 17592186044416 ∧ (rpP s).length ≤ 107374182)
def fSE (R : List UInt8 → List UInt8) : FSp := mkFS [.s] (fun xs => okE (aS xs 0)) (fun xs k => k (.ret (.str (R (aS xs 0))) []))
def laySf (N : List UInt8 → List UInt8) : Lay := (Lay.nil.addF 69 schTold).addF 99 (fSS N 26843545)
theorem schF_fun (N : List UInt8 → List UInt8) (s : List UInt8) (k : Out → Ans) : iFun Tryd.prog ((laySf N).hd Tryd.prog) (laySf N).fhs 0 98 [.str s] [] k = (
 let l0 : List UInt8 := (schemeM s).fst;
  bif decide (s.length ≤ 1099511627776) then
  bif
  bif (schemeM s).snd then
  !bif bif l0 == [104, 116, 116, 112] then true else l0 == [104, 116, 116, 112, 115] then true
  else l0 == [109, 97, 105, 108, 116, 111]
  else false then
  k (Out.ret (AVal.str [35, 90, 103, 111, 116, 109, 112, 108, 90]) [])
  else bif decide (s.length ≤ 26843545) then k (Out.ret (AVal.str (N s)) []) else none
  else none) := by kernel_rfl
noncomputable def layTo (W : List AVal → Prop) (R : List AVal → List UInt8) : Lay := Lay.nil.addF 103 (pvTold W R)
theorem ftold_fun (W : List AVal → Prop) (R : List AVal → List UInt8) (v : VaD) (k : Out → Ans) : iFun Tryd.prog ((layTo W R).hd Tryd.prog) (layTo W R).fhs 0 53 [.agg (encVa v)] [] k = (
  bif v.kind == 0 then k (Out.ret (AVal.str []) [])
  else
  bif
  tst
  (W
  (cellsA
  (AVal.agg
  [AVal.int IntKind.i64 v.kind, AVal.int IntKind.i64 v.int, AVal.str v.text, AVal.list v.lf v.ln v.lr,
  AVal.list v.kf v.keys.length fun (i : Nat) => [AVal.str (v.keys.getD i [])]])) ∧
  SubL
  [AVal.agg
  [AVal.int IntKind.i64 v.kind, AVal.int IntKind.i64 v.int, AVal.str v.text, AVal.list v.lf v.ln v.lr,
  AVal.list v.kf v.keys.length fun (i : Nat) => [AVal.str (v.keys.getD i [])]]]
  [AVal.agg
  (cellsA
  (AVal.agg
  [AVal.int IntKind.i64 v.kind, AVal.int IntKind.i64 v.int, AVal.str v.text,
  AVal.list v.lf v.ln v.lr,
  AVal.list v.kf v.keys.length fun (i : Nat) => [AVal.str (v.keys.getD i [])]]))] ∧
  ([] : Heap) = []) then
  k
  (Out.ret
  (AVal.str
  (R
  (cellsA
  (AVal.agg
  [AVal.int IntKind.i64 v.kind, AVal.int IntKind.i64 v.int, AVal.str v.text, AVal.list v.lf v.ln v.lr,
  AVal.list v.kf v.keys.length fun (i : Nat) => [AVal.str (v.keys.getD i [])]]))))
  [])
  else none) := by kernel_rfl
abbrev SS := List UInt8 → List UInt8
def layPl1 (E S N P J C : SS) : Lay := (((((Lay.nil.addF 50 (fSE E)).addF 98 (fSS S 26843545)).addF 99 (fSS N 26843545)).addF 100 (fSS P 26843545)).addF 101 (fSS J 26843545)).addF 102 (fSS C 26843545)
theorem fplain_fun (E S N P J C : SS) (e : Int) (s : List UInt8) (k : Out → Ans) : iFun Tryd.prog ((layPl1 E S N P J C).hd Tryd.prog) (layPl1 E S N P J C).fhs 0 52 [.int .i64 e, .str s] [] k = (
 let c0 : Bool := e == 1;
 let c1 : Bool := decide (s.length ≤ 26843545);
 let c2 : Bool := e == 2;
  bif c0 then
  bif c0 then bif okE s then k (Out.ret (AVal.str (E s)) []) else none
  else
  bif e == 4 then bif c1 then bif okE (S s) then k (Out.ret (AVal.str (E (S s))) []) else none else none
  else
  bif e == 5 then bif c1 then bif okE (N s) then k (Out.ret (AVal.str (E (N s))) []) else none else none
  else
  bif e == 6 then bif c1 then bif okE (P s) then k (Out.ret (AVal.str (E (P s))) []) else none else none
  else
  bif e == 8 then bif c1 then k (Out.ret (AVal.str (J s)) []) else none
  else
  bif e == 10 then bif c1 then bif okE (J s) then k (Out.ret (AVal.str (E (J s))) []) else none else none
  else
  bif e == 11 then bif c1 then k (Out.ret (AVal.str (C s)) []) else none
  else
  bif e == 12 then bif c1 then bif okE (C s) then k (Out.ret (AVal.str (E (C s))) []) else none else none
  else k (Out.ret (AVal.str []) [])
  else
  bif c2 then
  bif c2 then bif okE s then k (Out.ret (AVal.str (E s)) []) else none
  else
  bif e == 4 then bif c1 then bif okE (S s) then k (Out.ret (AVal.str (E (S s))) []) else none else none
  else
  bif e == 5 then bif c1 then bif okE (N s) then k (Out.ret (AVal.str (E (N s))) []) else none else none
  else
  bif e == 6 then bif c1 then bif okE (P s) then k (Out.ret (AVal.str (E (P s))) []) else none else none
  else
  bif e == 8 then bif c1 then k (Out.ret (AVal.str (J s)) []) else none
  else
  bif e == 10 then bif c1 then bif okE (J s) then k (Out.ret (AVal.str (E (J s))) []) else none else none
  else
  bif e == 11 then bif c1 then k (Out.ret (AVal.str (C s)) []) else none
  else
  bif e == 12 then
  bif c1 then bif okE (C s) then k (Out.ret (AVal.str (E (C s))) []) else none else none
  else k (Out.ret (AVal.str []) [])
  else
  bif e == 3 then bif okE s then k (Out.ret (AVal.str (E s)) []) else none
  else
  bif e == 4 then bif c1 then bif okE (S s) then k (Out.ret (AVal.str (E (S s))) []) else none else none
  else
  bif e == 5 then bif c1 then bif okE (N s) then k (Out.ret (AVal.str (E (N s))) []) else none else none
  else
  bif e == 6 then bif c1 then bif okE (P s) then k (Out.ret (AVal.str (E (P s))) []) else none else none
  else
  bif e == 8 then bif c1 then k (Out.ret (AVal.str (J s)) []) else none
  else
  bif e == 10 then bif c1 then bif okE (J s) then k (Out.ret (AVal.str (E (J s))) []) else none else none
  else
  bif e == 11 then bif c1 then k (Out.ret (AVal.str (C s)) []) else none
  else
  bif e == 12 then
  bif c1 then bif okE (C s) then k (Out.ret (AVal.str (E (C s))) []) else none else none
  else k (Out.ret (AVal.str []) [])) := by kernel_rfl
noncomputable def layCk (W : List AVal → Prop) (N : NsT) : Lay := Lay.nil.addF 94 (nsTold W N)
theorem vchk_fun (W : List AVal → Prop) (N : NsT) (v : VaD) (k : Out → Ans) : iFun Tryd.prog ((layCk W N).hd Tryd.prog) (layCk W N).fhs 0 49 [.agg (encVa v)] [] k = (
  bif
  tst
  ((W
  (cellsA
  (AVal.agg
  [AVal.int IntKind.i64 v.kind, AVal.int IntKind.i64 v.int, AVal.str v.text, AVal.list v.lf v.ln v.lr,
  AVal.list v.kf v.keys.length fun (i : Nat) => [AVal.str (v.keys.getD i [])]])) ∧
  (0 : Int) ≤ 16 ∧ (16 : Int) ≤ 16) ∧
  SubL
  [AVal.agg
  [AVal.int IntKind.i64 v.kind, AVal.int IntKind.i64 v.int, AVal.str v.text, AVal.list v.lf v.ln v.lr,
  AVal.list v.kf v.keys.length fun (i : Nat) => [AVal.str (v.keys.getD i [])]],
  AVal.int IntKind.i64 16]
  [AVal.agg
  (cellsA
  (AVal.agg
  [AVal.int IntKind.i64 v.kind, AVal.int IntKind.i64 v.int, AVal.str v.text, AVal.list v.lf v.ln v.lr,
  AVal.list v.kf v.keys.length fun (i : Nat) => [AVal.str (v.keys.getD i [])]])),
  AVal.int IntKind.i64 16] ∧
  ([] : Heap) = []) then
  k
  (Out.ret
  (AVal.int IntKind.i64
  (N
  (cellsA
  (AVal.agg
  [AVal.int IntKind.i64 v.kind, AVal.int IntKind.i64 v.int, AVal.str v.text, AVal.list v.lf v.ln v.lr,
  AVal.list v.kf v.keys.length fun (i : Nat) => [AVal.str (v.keys.getD i [])]]))
  16))
  [])
  else none) := by kernel_rfl
/- Apply -/
noncomputable def ckTold (W : List AVal → Prop) (N : List AVal → Int) : FSp := vrTold W (fun x k => k (.ret (.int .i64 (N x)) []))
noncomputable def saTold (B : Int → Int → Bool) : FSp := mkFS [.i .i64, .i .i64] (fun xs => true) (fun xs k => k (.ret (.bool (B (aI xs 0) (aI xs 1))) []))
noncomputable def pnTold (Q : Int → SS) : FSp := mkFS [.i .i64, .s] (fun xs => decide (1 ≤ aI xs 0 ∧ aI xs 0 ≤ 12 ∧ (aS xs 1).length ≤ 4194304)) (fun xs k => k (.ret (.str (Q (aI xs 0) (aS xs 1))) []))
noncomputable def layAp (W1 W2 : List AVal → Prop) (N : List AVal → Int) (B : Int → Int → Bool) (E : SS) (L T : List AVal → List UInt8) (Q : Int → SS) : Lay :=
  (((((Lay.nil.addF 49 (ckTold W1 N)).addF 48 (saTold B)).addF 50 (fSE E)).addF 51 (ltTold W1 L)).addF 53 (pvTold W2 T)).addF 52 (pnTold Q)
theorem fapply_fun (W1 W2 : List AVal → Prop) (N : List AVal → Int) (B : Int → Int → Bool) (E : SS) (L T : List AVal → List UInt8) (Q : Int → SS) (e : Int) (v : VaD) (k : Out → Ans) : iFun Tryd.prog ((layAp W1 W2 N B E L T Q).hd Tryd.prog) (layAp W1 W2 N B E L T Q).fhs 0 20 [.int .i64 e, .agg (encVa v)] [] k = (
 let c0 : Bool :=
  tst
  (W1
  (cellsA
  (AVal.agg
  [AVal.int IntKind.i64 v.kind, AVal.int IntKind.i64 v.int, AVal.str v.text, AVal.list v.lf v.ln v.lr,
  AVal.list v.kf v.keys.length fun (i : Nat) => [AVal.str (v.keys.getD i [])]])) ∧
  SubL
  [AVal.agg
  [AVal.int IntKind.i64 v.kind, AVal.int IntKind.i64 v.int, AVal.str v.text, AVal.list v.lf v.ln v.lr,
  AVal.list v.kf v.keys.length fun (i : Nat) => [AVal.str (v.keys.getD i [])]]]
  [AVal.agg
  (cellsA
  (AVal.agg
  [AVal.int IntKind.i64 v.kind, AVal.int IntKind.i64 v.int, AVal.str v.text, AVal.list v.lf v.ln v.lr,
  AVal.list v.kf v.keys.length fun (i : Nat) => [AVal.str (v.keys.getD i [])]]))] ∧
  ([] : Heap) = []);
 let n1 : Int :=
  N
  (cellsA
  (AVal.agg
  [AVal.int IntKind.i64 v.kind, AVal.int IntKind.i64 v.int, AVal.str v.text, AVal.list v.lf v.ln v.lr,
  AVal.list v.kf v.keys.length fun (i : Nat) => [AVal.str (v.keys.getD i [])]]));
 let c2 : Bool := e == 7;
 let l3 : List UInt8 :=
  L
  (cellsA
  (AVal.agg
  [AVal.int IntKind.i64 v.kind, AVal.int IntKind.i64 v.int, AVal.str v.text, AVal.list v.lf v.ln v.lr,
  AVal.list v.kf v.keys.length fun (i : Nat) => [AVal.str (v.keys.getD i [])]]));
 let c4 : Bool := decide (1 + l3.length ≤ 4611686018427387904);
 let c5 : Bool := decide ((32 :: l3).length + 1 ≤ 4611686018427387904);
 let l6 : List UInt8 := 32 :: (l3 ++ [32]);
 let l7 : List UInt8 :=
  T
  (cellsA
  (AVal.agg
  [AVal.int IntKind.i64 v.kind, AVal.int IntKind.i64 v.int, AVal.str v.text, AVal.list v.lf v.ln v.lr,
  AVal.list v.kf v.keys.length fun (i : Nat) => [AVal.str (v.keys.getD i [])]]));
  bif bif decide (e < 1) then true else decide (e > 12) then
  k (Out.ret (AVal.tuple [AVal.str [], AVal.int IntKind.i64 4]) [])
  else
  bif c0 then
  bif n1 != 0 then k (Out.ret (AVal.tuple [AVal.str [], AVal.int IntKind.i64 n1]) [])
  else
  bif bif B e v.kind then bif bif e == 1 then true else c2 then true else e == 11 else false then
  k (Out.ret (AVal.tuple [AVal.str v.text, AVal.int IntKind.i64 0]) [])
  else
  bif B e v.kind then
  bif okE v.text then k (Out.ret (AVal.tuple [AVal.str (E v.text), AVal.int IntKind.i64 0]) []) else none
  else
  bif c2 then
  bif c0 then
  bif c4 then bif c5 then k (Out.ret (AVal.tuple [AVal.str l6, AVal.int IntKind.i64 0]) []) else none
  else none
  else none
  else
  bif e == 9 then
  bif c0 then
  bif c4 then
  bif c5 then
  bif okE l6 then k (Out.ret (AVal.tuple [AVal.str (E l6), AVal.int IntKind.i64 0]) []) else none
  else none
  else none
  else none
  else
  bif
  tst
  (W2
  (cellsA
  (AVal.agg
  [AVal.int IntKind.i64 v.kind, AVal.int IntKind.i64 v.int, AVal.str v.text,
  AVal.list v.lf v.ln v.lr,
  AVal.list v.kf v.keys.length fun (i : Nat) => [AVal.str (v.keys.getD i [])]])) ∧
  SubL
  [AVal.agg
  [AVal.int IntKind.i64 v.kind, AVal.int IntKind.i64 v.int, AVal.str v.text,
  AVal.list v.lf v.ln v.lr,
  AVal.list v.kf v.keys.length fun (i : Nat) => [AVal.str (v.keys.getD i [])]]]
  [AVal.agg
  (cellsA
  (AVal.agg
  [AVal.int IntKind.i64 v.kind, AVal.int IntKind.i64 v.int, AVal.str v.text,
  AVal.list v.lf v.ln v.lr,
  AVal.list v.kf v.keys.length fun (i : Nat) => [AVal.str (v.keys.getD i [])]]))] ∧
  ([] : Heap) = []) then
  bif decide (1 ≤ e ∧ e ≤ 12 ∧ l7.length ≤ 4194304) then
  k (Out.ret (AVal.tuple [AVal.str (Q e l7), AVal.int IntKind.i64 0]) [])
  else none
  else none
  else none) := by kernel_rfl
end Go.Mu
set_option linter.unusedVariables false
set_option linter.unusedSimpArgs false
set_option maxRecDepth 100000
namespace Go.Mu
open Go Go.Proofs
/- octets that stand for themselves -/
def ascB (c : UInt8) : Bool := decide (1 ≤ c.toNat) && decide (c.toNat < 128) && c != 60
abbrev ascL (t : List UInt8) : Prop := ∀ c ∈ t, ascB c = true
theorem ascL_app {a b : List UInt8} (ha : ascL a) (hb : ascL b) : ascL (a ++ b) := fun c hc => by
  rcases List.mem_append.1 hc with h | h
  · exact ha c h
  · exact hb c h
theorem ascL_flat {α : Type} {f : α → List UInt8} {l : List α} (h : ∀ a ∈ l, ascL (f a)) : ascL (l.flatMap f) := fun c hc => by
  obtain ⟨a, ha, hc⟩ := List.mem_flatMap.1 hc
  exact h a ha c hc
theorem ascL_of {t : List UInt8} (h : t.all ascB = true) : ascL t := fun c hc => List.all_eq_true.1 h c hc
theorem rp_asc {t : List UInt8} (h : ascL t) : rpP t = t := by
  rw [← repB_rp]
  unfold repB
  refine repF_ascii t t.length (Nat.le_refl _) (fun c hc => ?_)
  have := h c hc
  unfold ascB at this
  simp only [Bool.and_eq_true, decide_eq_true_eq] at this
  exact this.1
theorem hxC_asc (n d : Int) : ascB (hxC (hxN n d)) = true := by
  have h1 := hxN_lt n d
  have h0 : 0 ≤ hxN n d := by
    unfold hxN
    have e : ∀ x : Int, IntKind.u64.wrap x = x % 18446744073709551616 := fun x => by simp [IntKind.wrap, IntKind.signed, IntKind.bits]
    rw [e]
    omega
  obtain ⟨m, hm⟩ : ∃ m : Fin 16, hxN n d = ((m.val : Nat) : Int) := ⟨⟨(hxN n d).toNat, by omega⟩, by simp; omega⟩
  rw [hm]
  revert m
  have key : ∀ m : Fin 16, ascB (hxC ((m.val : Nat) : Int)) = true := by decide +kernel
  exact fun m _ => key m
theorem hexX_asc (n size : Int) : ascL (hexX n size) := by
  unfold hexX
  cases size == 2
  · refine ascL_of ?_
    simp [hxC_asc]
  · refine ascL_of ?_
    simp [hxC_asc]
theorem pln_oct : ∀ m : Fin 128, 0 < m.val → plnM ((m.val : Nat) : Int) = true → ascB (UInt8.ofNat (IntKind.u8.wrap ((m.val : Nat) : Int)).toNat) = true := by decide +kernel
theorem qB_asc {c : Int} (h : 0 < c) : ascL (qB c).flatten := by
  unfold qB
  have u : ascL [92, 117] := ascL_of (by decide)
  cases hp : plnM c with
  | true =>
    have hlt : c < 128 := by
      unfold plnM at hp
      by_cases h2 : c < 128
      · exact h2
      · rw [dF h2] at hp; cases hp
    obtain ⟨m, hm⟩ : ∃ m : Fin 128, c = ((m.val : Nat) : Int) := ⟨⟨c.toNat, by omega⟩, by simp; omega⟩
    subst hm
    have := pln_oct m (by omega) hp
    simp only [cond_true, List.flatten_cons, List.flatten_nil, List.append_nil]
    exact ascL_of (by simpa using this)
  | false =>
    simp only [cond_false]
    cases decide (c > 65535)
    · simp only [cond_false, List.flatten_cons, List.flatten_nil, List.append_nil]
      exact ascL_app u (hexX_asc _ _)
    · simp only [cond_true, List.flatten_cons, List.flatten_nil, List.append_nil]
      exact ascL_app u (ascL_app (hexX_asc _ _) (ascL_app u (hexX_asc _ _)))
theorem qT_asc (s : List UInt8) : ascL (qT (chP s)) := ascL_flat (fun c hc => qB_asc (chP_ok s c hc).1)
theorem jsE_asc (s : List UInt8) : ascL (jsE s) := qT_asc s
theorem quoP_asc (s : List UInt8) : ascL (quoP s) := ascL_app (ascL_app (ascL_of (by decide)) (qT_asc s)) (ascL_of (by decide))
theorem unr_oct : ∀ c : UInt8, unrI ((c.toNat : Nat) : Int) = true → ascB c = true := oct256 (p := fun c => unrI ((c.toNat : Nat) : Int) = true → ascB c = true) (by decide +kernel)
theorem res_oct : ∀ c : UInt8, ibM [33, 35, 36, 38, 42, 43, 44, 47, 58, 59, 61, 63, 64, 91, 93] ((c.toNat : Nat) : Int) ≥ 0 → ascB c = true := oct256 (p := fun c => ibM [33, 35, 36, 38, 42, 43, 44, 47, 58, 59, 61, 63, 64, 91, 93] ((c.toNat : Nat) : Int) ≥ 0 → ascB c = true) (by decide +kernel)
theorem wrT_asc {M : List UInt8 → Int → Bool} (hM : ∀ s (i : Nat), M s i = true → ascB (s.getD i 0) = true) (s : List UInt8) : ascL (wrT M s) := ascL_flat (fun i _ => by
  unfold wrG
  cases h : M s i with
  | true =>
    simp only [cond_true, List.flatten_cons, List.flatten_nil, List.append_nil]
    exact ascL_of (by simpa using hM s i h)
  | false =>
    simp only [cond_false, List.flatten_cons, List.flatten_nil, List.append_nil]
    exact ascL_app (ascL_of (by decide)) (hexX_asc _ _))
theorem pencP_asc (s : List UInt8) : ascL (pencP s) := wrT_asc (fun s i h => unr_oct _ h) _
theorem normP_asc (s : List UInt8) : ascL (normP s) := wrT_asc (fun s i h => by
  unfold mayNM at h
  simp only [Int.toNat_natCast] at h
  cases hu : unrI ((s.getD i 0).toNat : Int) with
  | true => exact unr_oct _ hu
  | false =>
    rw [hu] at h
    simp only [cond_false] at h
    cases hr : decide (ibM [33, 35, 36, 38, 42, 43, 44, 47, 58, 59, 61, 63, 64, 91, 93] ((s.getD i 0).toNat : Int) ≥ 0) with
    | true => exact res_oct _ (of_decide_eq_true hr)
    | false =>
      rw [hr] at h
      simp only [cond_false, Bool.cond_self] at h
      cases hq : (((s.getD i 0).toNat : Int) != 37) with
      | true => rw [hq] at h; cases h
      | false =>
        have h37 : ((s.getD i 0).toNat : Int) = 37 := by simpa using hq
        have : (s.getD i 0).toNat = 37 := by omega
        unfold ascB
        rw [this]
        have h60 : s.getD i 0 ≠ 60 := fun e => by rw [e] at this; cases this
        simp [bne_iff_ne, h60]
        exact (by simpa using h60)) _
/- Escape, of any text that is short enough when repaired -/
theorem escP_ok2 (s : List UInt8) (hs : s.length ≤ 17592186044416) (hr2 : (rpP s).length ≤ 107374182) : CallOK Tryd.prog 50 [.str s] [] (.ret (.str (escP s)) []) := by
  have hr := repB_rp s
  have c1 := Bld.adds_can ((repB s).map escC) (Bld.new_can 0 2)
  have t1 : (escE Bld.new (repB s)).t = escP s := by
    unfold escE
    rw [Bld.adds_t, map_flatten, hr]; rfl
  have hl2 : (escP s).length ≤ 5 * (rpP s).length := flat_len escC 5 escC_len (rpP s)
  have key := fun k => (esc_fun repB escE s k (repB s) (byt_decL false (repB s)).symm _ rfl _ rfl (escE Bld.new (repB s)).t rfl).trans
    ((congrArg (fun c => cond c _ none) (dT hs)).trans ((cond_true _ _).trans
    ((congrArg (fun c => cond c _ none) (tst_true ⟨⟨Bld.new_can 0 2, rfl, rfl, by rw [hr]; omega⟩, .refl _, by trivial⟩)).trans ((cond_true _ _).trans
    ((congrArg (fun c => cond c _ none) (tst_true ⟨⟨c1, by rw [t1]; omega⟩, .refl _, by trivial⟩)).trans (cond_true _ _))))))
  rw [← t1]
  exact layEs_ok.callF rfl key
theorem fSE_ok : ∀ xs H k out, fSE escP xs H k = some out → ∃ o, CallOK Tryd.prog 50 xs H o ∧ k o = some out := mkFS_ok fun ys xs e h => by
  obtain ⟨s, rfl⟩ : ∃ s, xs = [.str s] := ⟨_, e⟩
  obtain ⟨h1, h2⟩ : s.length ≤ 17592186044416 ∧ (rpP s).length ≤ 107374182 := of_decide_eq_true h
  exact ⟨_, fun k => rfl, escP_ok2 s h1 h2⟩
theorem fSS_ok {P : Program} {R : List UInt8 → List UInt8} {n : Nat} {f : FuncId} (h : ∀ s, s.length ≤ n → CallOK P f [.str s] [] (.ret (.str (R s)) [])) : ∀ xs H k out, fSS R n xs H k = some out → ∃ o, CallOK P f xs H o ∧ k o = some out := mkFS_ok fun ys xs e h' => by
  obtain ⟨s, rfl⟩ : ∃ s, xs = [.str s] := ⟨_, e⟩
  exact ⟨_, fun k => rfl, h s (of_decide_eq_true h')⟩
def schFP (s : List UInt8) : List UInt8 := bif (bif (schemeM s).snd then !bif bif (schemeM s).fst == [104, 116, 116, 112] then true else (schemeM s).fst == [104, 116, 116, 112, 115] then true else (schemeM s).fst == [109, 97, 105, 108, 116, 111] else false) then [35, 90, 103, 111, 116, 109, 112, 108, 90] else normP s
theorem laySf_ok : (laySf normP).OK Tryd.prog := (Lay.nil_ok.addF schTold_ok).addF (fSS_ok normP_ok)
theorem schFP_ok (s : List UInt8) (h : s.length ≤ 26843545) : CallOK Tryd.prog 98 [.str s] [] (.ret (.str (schFP s)) []) := laySf_ok.callF (G := []) rfl (fun k => (schF_fun normP s k).trans (by
  rw [dT (show s.length ≤ 1099511627776 by omega), dT h, cond_true, cond_true]
  unfold schFP
  cases (bif (schemeM s).snd then !bif bif (schemeM s).fst == [104, 116, 116, 112] then true else (schemeM s).fst == [104, 116, 116, 112, 115] then true else (schemeM s).fst == [109, 97, 105, 108, 116, 111] else false) <;> rfl))
theorem schFP_asc (s : List UInt8) : ascL (schFP s) := by
  unfold schFP
  cases (bif (schemeM s).snd then !bif bif (schemeM s).fst == [104, 116, 116, 112] then true else (schemeM s).fst == [104, 116, 116, 112, 115] then true else (schemeM s).fst == [109, 97, 105, 108, 116, 111] else false)
  · exact normP_asc s
  · show ascL [35, 90, 103, 111, 116, 109, 112, 108, 90]
    exact ascL_of (by decide)
theorem schFP_len (s : List UInt8) : (schFP s).length ≤ 12 * s.length + 9 := by
  unfold schFP
  have := normP_len s
  cases (bif (schemeM s).snd then !bif bif (schemeM s).fst == [104, 116, 116, 112] then true else (schemeM s).fst == [104, 116, 116, 112, 115] then true else (schemeM s).fst == [109, 97, 105, 108, 116, 111] else false)
  · simp only [cond_false]; omega
  · simp
theorem okE_asc {s : List UInt8} (h : ascL s) (hl : s.length ≤ 107374182) : okE s = true := by
  unfold okE
  rw [rp_asc h]
  exact dT ⟨by omega, hl⟩
theorem okE_len {s : List UInt8} (hl : s.length ≤ 26843545) : okE s = true := by
  unfold okE
  have := rpP_len s
  exact dT ⟨by omega, by omega⟩
/- Plain -/
def plP (e : Int) (s : List UInt8) : List UInt8 := if e = 1 ∨ e = 2 ∨ e = 3 then escP s else if e = 4 then escP (schFP s) else if e = 5 then escP (normP s) else if e = 6 then escP (pencP s) else if e = 8 then jsE s else if e = 10 then escP (jsE s) else if e = 11 then cssF s else if e = 12 then escP (cssF s) else []
theorem cssF_len (s : List UInt8) : (cssF s).length ≤ s.length + 8 := by
  unfold cssF
  cases plainM s
  · simp
  · simp
theorem layPl1_ok : (layPl1 escP schFP normP pencP jsE cssF).OK Tryd.prog :=
  (((((Lay.nil_ok.addF fSE_ok).addF (fSS_ok schFP_ok)).addF (fSS_ok normP_ok)).addF (fSS_ok pencP_ok)).addF (fSS_ok jsE_ok)).addF (fSS_ok (fun s h => cssF_ok s (by omega)))
theorem fplain_ok (e : Int) (s : List UInt8) (h1 : 1 ≤ e) (h12 : e ≤ 12) (hs : s.length ≤ 4194304) : CallOK Tryd.prog 52 [.int .i64 e, .str s] [] (.ret (.str (plP e s)) []) := by
  have l1 := schFP_len s
  have l2 := normP_len s
  have l3 := pencP_len s
  have l4 : (jsE s).length ≤ 12 * s.length := by
    have := qT_len (chP s)
    have := chP_len s
    unfold jsE; omega
  have l5 := cssF_len s
  have o0 : okE s = true := okE_len (by omega)
  have o1 : okE (schFP s) = true := okE_asc (schFP_asc s) (by omega)
  have o2 : okE (normP s) = true := okE_asc (normP_asc s) (by omega)
  have o3 : okE (pencP s) = true := okE_asc (pencP_asc s) (by omega)
  have o4 : okE (jsE s) = true := okE_asc (jsE_asc s) (by omega)
  have o5 : okE (cssF s) = true := okE_len (by omega)
  have hs2 : decide (s.length ≤ 26843545) = true := dT (by omega)
  refine layPl1_ok.callF (G := []) rfl (fun k => (fplain_fun escP schFP normP pencP jsE cssF e s k).trans ?_)
  simp only [o0, o1, o2, o3, o4, o5, hs2, cond_true]
  obtain ⟨m, rfl⟩ : ∃ m : Nat, e = m := ⟨e.toNat, by omega⟩
  have hm : m < 13 := by omega
  match m, hm with
  | 0, _ => omega
  | 1, _ => rfl
  | 2, _ => rfl
  | 3, _ => rfl
  | 4, _ => rfl
  | 5, _ => rfl
  | 6, _ => rfl
  | 7, _ => rfl
  | 8, _ => rfl
  | 9, _ => rfl
  | 10, _ => rfl
  | 11, _ => rfl
  | 12, _ => rfl
theorem pnTold_ok : ∀ xs H k out, pnTold plP xs H k = some out → ∃ o, CallOK Tryd.prog 52 xs H o ∧ k o = some out := mkFS_ok fun ys xs e h => by
  obtain ⟨n, s, rfl⟩ : ∃ n s, xs = [.int .i64 n, .str s] := ⟨_, _, e⟩
  have h2 : 1 ≤ n ∧ n ≤ 12 ∧ s.length ≤ 4194304 := of_decide_eq_true h
  exact ⟨_, fun k => rfl, fplain_ok n s h2.1 h2.2.1 h2.2.2⟩
theorem saTold_ok : ∀ xs H k out, saTold safeB xs H k = some out → ∃ o, CallOK Tryd.prog 48 xs H o ∧ k o = some out := mkFS_ok fun ys xs e h => by
  obtain ⟨n, m, rfl⟩ : ∃ n m, xs = [.int .i64 n, .int .i64 m] := ⟨_, _, e⟩
  exact ⟨_, fun k => rfl, fsafe_ok n m⟩
/- told -/
def toV (d : Nat) (v : VaD) : List UInt8 := if v.kind = 0 then [] else prV d v
def toR (d : Nat) (x : List AVal) : List UInt8 := toV d (decVa x)
theorem toR_enc (d : Nat) (v : VaD) : toR d (encVa v) = toV d v := by unfold toR; rw [decVa_enc]
theorem toTold_ok (d : Nat) : ∀ xs H k out, pvTold (PvD d) (toR d) xs H k = some out → ∃ o, CallOK Tryd.prog 53 xs H o ∧ k o = some out := vrTold_ok (ok := PvD d) (post := fun x k => k (.ret (.str (toR d x)) [])) fun x h => ⟨_, fun k => rfl, by
  have h1 : x = encVa (decVa x) := h.1.1
  generalize hv : decVa x = v at h1
  subst h1
  rw [toR_enc]
  refine Lay.OK.callF (L := layTo (PvD d) (prR d)) (Lay.nil_ok.addF (pvTold_ok d)) (G := []) rfl (fun k => (ftold_fun (PvD d) (prR d) v k).trans ?_)
  unfold toV
  by_cases h0 : v.kind = 0
  · rw [if_pos h0, h0]; rfl
  · rw [if_neg h0, beq_false_of_ne h0, cond_false]
    refine (congrArg (fun c => cond c _ none) (tst_true ⟨h, .refl _, rfl⟩)).trans ((cond_true _ _).trans ?_)
    show k (.ret (.str (prR d (encVa v))) []) = _
    rw [prR_enc]⟩
/- Check -/
def chkR (d : Nat) (x : List AVal) : Int := nestV d (decVa x) 16
theorem chkR_enc (d : Nat) (v : VaD) : chkR d (encVa v) = nestV d v 16 := by unfold chkR; rw [decVa_enc]
theorem ckTold_ok (d : Nat) : ∀ xs H k out, ckTold (WvD d) (chkR d) xs H k = some out → ∃ o, CallOK Tryd.prog 49 xs H o ∧ k o = some out := vrTold_ok (ok := WvD d) (post := fun x k => k (.ret (.int .i64 (chkR d x)) [])) fun x h => ⟨_, fun k => rfl, by
  have h1 : x = encVa (decVa x) := h.1
  generalize hv : decVa x = v at h1
  subst h1
  refine Lay.OK.callF (L := layCk (WvD d) (nestR d)) (Lay.nil_ok.addF (nsTold_ok d)) (G := []) rfl (fun k => (vchk_fun (WvD d) (nestR d) v k).trans ?_)
  exact (congrArg (fun c => cond c _ none) (tst_true ⟨⟨h, by decide, by decide⟩, .refl _, rfl⟩)).trans (cond_true _ _)⟩
theorem kd_of_nest : ∀ (d : Nat) (v : VaD) (c : Int), wfVal d v → nestV d v c = 0 → kdV d v
  | 0, v, c, hw, _ => absurd hw (by unfold wfVal; exact id)
  | d + 1, v, c, hw, h => by
    have body : ∀ c, nestB (nestV d) v c = 0 → kdV (d + 1) v := fun c hb => by
      unfold nestB at hb
      cases h1 : decide ((v.text.length : Int) > 4096) with
      | true => rw [h1] at hb; cases hb
      | false =>
      cases h2 : (bif decide ((v.ln : Int) > 1024) then true else decide ((v.keys.length : Int) > 1024)) with
      | true => rw [h1, h2] at hb; cases hb
      | false =>
      cases h3 : (bif !usedB v then true else !keysB v) with
      | true => rw [h1, h2, h3] at hb; cases hb
      | false =>
      rw [h1, h2, h3] at hb
      simp only [cond_false] at hb
      have hu : usedB v = true := by
        cases hu : usedB v with
        | true => rfl
        | false => rw [hu] at h3; cases h3
      refine ⟨?_, fun x hx => ?_⟩
      · unfold usedB at hu
        cases h4 : (bif decide (v.kind ≥ 0) then decide (v.kind ≤ 11) else false) with
        | false => rw [h4] at hu; simp at hu
        | true =>
          by_cases h5 : v.kind ≥ 0
          · rw [dT h5, cond_true] at h4
            exact ⟨h5, of_decide_eq_true h4⟩
          · rw [dF h5] at h4; cases h4
      · have hw2 := hw.2.2.2 x hx
        refine kd_of_nest d x c hw2 ?_
        cases h6 : (vals v.list).any (fun x => nestV d x c != 0) with
        | false =>
          have := List.any_eq_false.1 h6 x hx
          simpa using this
        | true =>
          rw [h6, cond_true] at hb
          obtain ⟨y, hy, hy2⟩ := List.any_eq_true.1 h6
          have hlt := List.findIdx_lt_length_of_exists (p := fun x => nestV d x c != 0) ⟨y, hy, hy2⟩
          have := List.findIdx_getElem (w := hlt)
          rw [List.getD_eq_getElem?_getD, List.getElem?_eq_getElem hlt, Option.getD_some] at hb
          rw [hb] at this
          simp at this
    unfold nestV at h
    cases hb : (bif v.kind == 5 then true else v.kind == 6) with
    | true =>
      rw [hb, cond_true] at h
      cases hc : decide (c - 1 < 0) with
      | true => rw [hc] at h; cases h
      | false => rw [hc] at h; exact body _ h
    | false => rw [hb, cond_false] at h; exact body _ h
end Go.Mu
set_option linter.unusedVariables false
set_option linter.unusedSimpArgs false
set_option maxRecDepth 100000
namespace Go.Mu
open Go Go.Proofs
def blnk (s : List UInt8) : List UInt8 := 32 :: (s ++ [32])
def apT (d : Nat) (e : Int) (v : VaD) : List UInt8 :=
  if safeB e v.kind = true then (if e = 1 ∨ e = 7 ∨ e = 11 then v.text else escP v.text) else if e = 7 then blnk (litV d v) else if e = 9 then escP (blnk (litV d v)) else plP e (toV d v)
def apE (d : Nat) (e : Int) (v : VaD) : Int := if e < 1 ∨ e > 12 then 4 else nestV d v 16
def apV (d : Nat) (e : Int) (v : VaD) : List UInt8 := if apE d e v = 0 then apT d e v else []
theorem layAp_ok (d : Nat) : (layAp (WvD d) (PvD d) (chkR d) safeB escP (ltR d) (toR d) plP).OK Tryd.prog :=
  (((((Lay.nil_ok.addF (ckTold_ok d)).addF saTold_ok).addF fSE_ok).addF (ltTold_ok d)).addF (toTold_ok d)).addF pnTold_ok
theorem toV_len (d : Nat) (v : VaD) (hs : szV d v ≤ 16777216) : (toV d v).length ≤ 4194304 := by
  unfold toV
  have := prV_len d v
  split
  · simp
  · omega
theorem sz_text {d : Nat} {v : VaD} (hw : wfVal d v) (hs : szV d v ≤ 16777216) : v.text.length ≤ 1048576 := by
  cases d with
  | zero => exact absurd hw (by unfold wfVal; exact id)
  | succ d => unfold szV at hs; omega
theorem apply_ok (d : Nat) (e : Int) (v : VaD) (hw : wfVal d v) (hs : szV d v ≤ 16777216) : CallOK Tryd.prog 20 [.int .i64 e, .agg (encVa v)] [] (.ret (.tuple [.str (apV d e v), .int .i64 (apE d e v)]) []) := by
  have hW := WvD_enc hw hs
  have en := chkR_enc d v
  have el := ltR_enc d v
  have et := toR_enc d v
  have hl := litV_len d v
  have ht := toV_len d v hs
  have hx := sz_text hw hs
  have key := fun k => fapply_fun (WvD d) (PvD d) (chkR d) safeB escP (ltR d) (toR d) plP e v k
  unfold apV apE
  by_cases hr : e < 1 ∨ e > 12
  · have hb : (bif decide (e < 1) then true else decide (e > 12)) = true := by
      rcases hr with h | h
      · rw [dT h]; rfl
      · rw [dT h]; simp
    rw [if_pos hr, if_neg (by decide)]
    refine (layAp_ok d).callF (G := []) rfl (fun k => (key k).trans ?_)
    rw [hb]; rfl
  have hb : (bif decide (e < 1) then true else decide (e > 12)) = false := by
    rw [dF (by omega), dF (by omega)]; rfl
  rw [if_neg hr]
  refine (layAp_ok d).callF (G := []) rfl (fun k => (key k).trans ?_)
  simp only [hb, cond_false]
  refine (congrArg (fun c => cond c _ none) (tst_true ⟨hW, .refl _, by trivial⟩)).trans ((cond_true _ _).trans ?_)
  show cond (chkR d (encVa v) != 0) (k (.ret (.tuple [.str [], .int .i64 (chkR d (encVa v))]) [])) _ = _
  rw [en]
  by_cases hn : nestV d v 16 = 0
  · rw [hn, if_pos rfl]
    show cond (bif safeB e v.kind then bif bif e == 1 then true else e == 7 then true else e == 11 else false) _ _ = _
    have hP : PvD d (encVa v) := PvD_enc ⟨hw, hs, kd_of_nest d v 16 hw hn⟩
    unfold apT
    cases hsf : safeB e v.kind with
    | true =>
      rw [if_pos rfl]
      have e3 : (bif bif e == 1 then true else e == 7 then true else e == 11) = decide (e = 1 ∨ e = 7 ∨ e = 11) := by
        by_cases h1 : e = 1
        · subst h1; rfl
        by_cases h7 : e = 7
        · subst h7; rfl
        by_cases h11 : e = 11
        · subst h11; rfl
        rw [beq_false_of_ne h1, beq_false_of_ne h7, beq_false_of_ne h11, dF (by omega)]; rfl
      rw [cond_true, e3]
      by_cases h3 : e = 1 ∨ e = 7 ∨ e = 11
      · rw [dT h3, if_pos h3]; rfl
      · rw [dF h3, if_neg h3, cond_false, cond_true]
        exact (congrArg (fun c => cond c _ none) (okE_len (s := v.text) (by omega))).trans rfl
    | false =>
      rw [cond_false, cond_false, cond_false, if_neg (by simp)]
      by_cases h7 : e = 7
      · rw [if_pos h7]
        have : (e == 7) = true := by rw [h7]; rfl
        rw [this, cond_true]
        refine (congrArg (fun c => cond c _ none) (tst_true ⟨hW, .refl _, by trivial⟩)).trans ((cond_true _ _).trans ?_)
        show cond (decide (1 + (ltR d (encVa v)).length ≤ 4611686018427387904)) (cond (decide ((32 :: ltR d (encVa v)).length + 1 ≤ 4611686018427387904)) (k (.ret (.tuple [.str (32 :: (ltR d (encVa v) ++ [32])), .int .i64 0]) [])) none) none = _
        rw [el, List.length_cons, dT (by omega), dT (by omega)]
        rfl
      · rw [if_neg h7, beq_false_of_ne h7, cond_false]
        by_cases h9 : e = 9
        · rw [if_pos h9]
          have : (e == 9) = true := by rw [h9]; rfl
          rw [this, cond_true]
          refine (congrArg (fun c => cond c _ none) (tst_true ⟨hW, .refl _, by trivial⟩)).trans ((cond_true _ _).trans ?_)
          show cond (decide (1 + (ltR d (encVa v)).length ≤ 4611686018427387904)) (cond (decide ((32 :: ltR d (encVa v)).length + 1 ≤ 4611686018427387904)) (cond (okE (32 :: (ltR d (encVa v) ++ [32]))) (k (.ret (.tuple [.str (escP (32 :: (ltR d (encVa v) ++ [32]))), .int .i64 0]) [])) none) none) none = _
          rw [el, List.length_cons, dT (by omega), dT (by omega), okE_len (by simp; omega)]
          rfl
        · rw [if_neg h9, beq_false_of_ne h9, cond_false]
          refine (congrArg (fun c => cond c _ none) (tst_true ⟨hP, .refl _, by trivial⟩)).trans ((cond_true _ _).trans ?_)
          show cond (decide (1 ≤ e ∧ e ≤ 12 ∧ (toR d (encVa v)).length ≤ 4194304)) (k (.ret (.tuple [.str (plP e (toR d (encVa v))), .int .i64 0]) [])) none = _
          rw [et, dT ⟨by omega, by omega, ht⟩]
          rfl
  · rw [if_neg hn]
    have : (nestV d v 16 != 0) = true := by simpa using hn
    rw [this]
    rfl
def canC (x : List AVal) : List AVal := encVa (decVa x)
noncomputable def apTold (W : List AVal → Prop) (A : Int → List AVal → List UInt8) (X : Int → List AVal → Int) : FSp := mkF (fun xs H => (aI xs 0, cellsA (xs.getD 1 .undef))) (fun a => W (canC a.2)) (fun a => [.int .i64 a.1, .agg (canC a.2)]) (fun _ => []) (fun a k => k (.ret (.tuple [.str (A a.1 a.2), .int .i64 (X a.1 a.2)]) []))
def apRV (d : Nat) (e : Int) (x : List AVal) : List UInt8 := apV d e (decVa x)
def apRE (d : Nat) (e : Int) (x : List AVal) : Int := apE d e (decVa x)
theorem apTold_ok (d : Nat) : ∀ xs H k out, apTold (WvD d) (apRV d) (apRE d) xs H k = some out → ∃ o, CallOK Tryd.prog 20 xs H o ∧ k o = some out := by
  unfold apTold
  exact mkF_ok fun a h => ⟨_, fun k => rfl, by
    obtain ⟨e, x⟩ := a
    have h : WvD d (encVa (decVa x)) := h
    have h2 := h.2
    rw [decVa_enc] at h2
    exact apply_ok d e (decVa x) h2.1 h2.2⟩
end Go.Mu
set_option linter.unusedVariables false
set_option linter.unusedSimpArgs false
set_option maxRecDepth 100000
namespace Go.Mu
open Go Go.Proofs
abbrev ApA := Int → List AVal → List UInt8
abbrev ApX := Int → List AVal → Int
noncomputable def layL1 (W : List AVal → Prop) (A : ApA) (X : ApX) (B : Int → Int → Bool) : Lay := (Lay.nil.addF 20 (apTold W A X)).addF 48 (saTold B)
theorem alive23_fun (W : List AVal → Prop) (A : ApA) (X : ApX) (B : Int → Int → Bool) (k : Out → Ans) : iFun Tryd.prog ((layL1 W A X B).hd Tryd.prog) (layL1 W A X B).fhs 0 19 [] [] k = (
  bif
  tst
  (W
  (canC
  (cellsA
  (AVal.agg
  [AVal.int IntKind.i64 4, AVal.int IntKind.i64 0, AVal.str [60], AVal.list true 0 fun (x : Nat) => [],
  AVal.list true 0 fun (x : Nat) => []]))) ∧
  SubL
  [AVal.int IntKind.i64 1,
  AVal.agg
  [AVal.int IntKind.i64 4, AVal.int IntKind.i64 0, AVal.str [60], AVal.list true 0 fun (x : Nat) => [],
  AVal.list true 0 fun (x : Nat) => []]]
  [AVal.int IntKind.i64 1,
  AVal.agg
  (canC
  (cellsA
  (AVal.agg
  [AVal.int IntKind.i64 4, AVal.int IntKind.i64 0, AVal.str [60],
  AVal.list true 0 fun (x : Nat) => [], AVal.list true 0 fun (x : Nat) => []])))] ∧
  ([] : Heap) = []) then
  k
  (Out.ret
  (AVal.bool
  (bif
  bif
  X 1
  (cellsA
  (AVal.agg
  [AVal.int IntKind.i64 4, AVal.int IntKind.i64 0, AVal.str [60],
  AVal.list true 0 fun (x : Nat) => [], AVal.list true 0 fun (x : Nat) => []])) ==
  0 then
  A 1
  (cellsA
  (AVal.agg
  [AVal.int IntKind.i64 4, AVal.int IntKind.i64 0, AVal.str [60],
  AVal.list true 0 fun (x : Nat) => [], AVal.list true 0 fun (x : Nat) => []])) ==
  [38, 108, 116, 59]
  else false then
  B 1 7
  else false))
  [])
  else none) := by kernel_rfl
def aliveT : FSp := mkFS [] (fun _ => true) (fun _ k => k (.ret (.bool true) []))
/- Plain -/
noncomputable def vpTold (W : List AVal → Prop) (B : List AVal → Bool) : FSp := vrTold W (fun x k => k (.ret (.bool (B x)) []))
noncomputable def vpSp (V : List AVal → Prop) (L : List AVal → Bool) : LSp := mkL (fun vs bs H => bs.getD 0 []) (fun x => V x) (fun x => [.ptr (.tmp 1) 0, .int .i64 0]) (fun x => [x]) (fun _ => [])
  (fun x k => cond (L x) (k .ret [.ptr (.tmp 1) 0, .bool false] [x] []) (k (.exit 0) [.ptr (.tmp 1) 0, .undef] [x] []))
noncomputable def vpFH (V : List AVal → Prop) (L : List AVal → Bool) : FH := .of [(2, loopSpec 21 [1,3] [1] [1,2] [1] (vpSp V L))]
noncomputable def layVp0 (W : List AVal → Prop) (B : List AVal → Bool) : Lay := Lay.nil.addF 25 (vpTold W B)
theorem vp_step (W : List AVal → Prop) (B : List AVal → Bool) (V : List AVal → Prop) (L : List AVal → Bool) (kd n : Int) (t : List UInt8) (f : Bool) (q : Nat) (g : Nat → VaD) (kf : Bool) (ks : List (List UInt8)) (i : Int) (D : List (FuncId × List AVal)) (k : Kont) : lturn Tryd.prog (layVp0 W B) (vpFH V L) 25 2 [1,3] [1] [1,2] [1] (stL 21 [1,3] [.ptr (.tmp 1) 0, .int .i64 i] [1] [encVa ⟨kd, n, t, f, q, fun i => encVa (g i), kf, ks⟩] [] D) k = (
 let c0 : Bool := decide (i < (↑q : Int));
  bif c0 then
  bif decide (0 ≤ i) && c0 then
  bif
  tst
  (W
  (cellsA
  (AVal.agg
  [AVal.int IntKind.i64 (g i.toNat).kind, AVal.int IntKind.i64 (g i.toNat).int,
  AVal.str (g i.toNat).text, AVal.list (g i.toNat).lf (g i.toNat).ln (g i.toNat).lr,
  AVal.list (g i.toNat).kf (g i.toNat).keys.length fun (i_1 : Nat) =>
  [AVal.str ((g i.toNat).keys.getD i_1 [])]])) ∧
  SubL
  [AVal.agg
  [AVal.int IntKind.i64 (g i.toNat).kind, AVal.int IntKind.i64 (g i.toNat).int,
  AVal.str (g i.toNat).text, AVal.list (g i.toNat).lf (g i.toNat).ln (g i.toNat).lr,
  AVal.list (g i.toNat).kf (g i.toNat).keys.length fun (i_1 : Nat) =>
  [AVal.str ((g i.toNat).keys.getD i_1 [])]]]
  [AVal.agg
  (cellsA
  (AVal.agg
  [AVal.int IntKind.i64 (g i.toNat).kind, AVal.int IntKind.i64 (g i.toNat).int,
  AVal.str (g i.toNat).text, AVal.list (g i.toNat).lf (g i.toNat).ln (g i.toNat).lr,
  AVal.list (g i.toNat).kf (g i.toNat).keys.length fun (i_1 : Nat) =>
  [AVal.str ((g i.toNat).keys.getD i_1 [])]]))] ∧
  ([] : Heap) = []) then
  bif
  !B
  (cellsA
  (AVal.agg
  [AVal.int IntKind.i64 (g i.toNat).kind, AVal.int IntKind.i64 (g i.toNat).int,
  AVal.str (g i.toNat).text, AVal.list (g i.toNat).lf (g i.toNat).ln (g i.toNat).lr,
  AVal.list (g i.toNat).kf (g i.toNat).keys.length fun (i_1 : Nat) =>
  [AVal.str ((g i.toNat).keys.getD i_1 [])]])) then
  k AExit.ret
  (stL 21 [1, 2] [AVal.ptr (Oid.tmp 1) 0, AVal.bool false] [1]
  [[AVal.int IntKind.i64 kd, AVal.int IntKind.i64 n, AVal.str t, AVal.list f q fun (i : Nat) => encVa (g i),
  AVal.list kf ks.length fun (i : Nat) => [AVal.str (ks.getD i [])]]]
  [] D)
  else
  k AExit.normal
  (stL 21 [1, 3] [AVal.ptr (Oid.tmp 1) 0, AVal.int IntKind.i64 (IntKind.i64.wrap (i + 1))] [1]
  [[AVal.int IntKind.i64 kd, AVal.int IntKind.i64 n, AVal.str t, AVal.list f q fun (i : Nat) => encVa (g i),
  AVal.list kf ks.length fun (i : Nat) => [AVal.str (ks.getD i [])]]]
  [] D)
  else none
  else none
  else
  k (AExit.exit 0)
  (stL 21 [1, 2] [AVal.ptr (Oid.tmp 1) 0, AVal.undef] [1]
  [[AVal.int IntKind.i64 kd, AVal.int IntKind.i64 n, AVal.str t, AVal.list f q fun (i : Nat) => encVa (g i),
  AVal.list kf ks.length fun (i : Nat) => [AVal.str (ks.getD i [])]]]
        [] D)) := by kernel_rfl
noncomputable def layVp (W : List AVal → Prop) (B : List AVal → Bool) (V : List AVal → Prop) (L : List AVal → Bool) : Lay := (layVp0 W B).addL 25 (vpFH V L)
theorem vp_fun (W : List AVal → Prop) (B : List AVal → Bool) (V : List AVal → Prop) (L : List AVal → Bool) (v : VaD) (k : Out → Ans) : iFun Tryd.prog ((layVp W B V L).hd Tryd.prog) (layVp W B V L).fhs 0 25 [.agg (encVa v)] [] k = (
  bif
  tst
  (V
  [AVal.int IntKind.i64 v.kind, AVal.int IntKind.i64 v.int, AVal.str v.text, AVal.list v.lf v.ln v.lr,
  AVal.list v.kf v.keys.length fun (i : Nat) => [AVal.str (v.keys.getD i [])]] ∧
  SubTL [AVal.ptr (Oid.tmp 1) 0, AVal.int IntKind.i64 0] [AVal.ptr (Oid.tmp 1) 0, AVal.int IntKind.i64 0] ∧
  [[AVal.int IntKind.i64 v.kind, AVal.int IntKind.i64 v.int, AVal.str v.text, AVal.list v.lf v.ln v.lr,
  AVal.list v.kf v.keys.length fun (i : Nat) => [AVal.str (v.keys.getD i [])]]] =
  [[AVal.int IntKind.i64 v.kind, AVal.int IntKind.i64 v.int, AVal.str v.text, AVal.list v.lf v.ln v.lr,
  AVal.list v.kf v.keys.length fun (i : Nat) => [AVal.str (v.keys.getD i [])]]] ∧
  ([] : Heap) = []) then
  bif
  L
  [AVal.int IntKind.i64 v.kind, AVal.int IntKind.i64 v.int, AVal.str v.text, AVal.list v.lf v.ln v.lr,
  AVal.list v.kf v.keys.length fun (i : Nat) => [AVal.str (v.keys.getD i [])]] then
  k (Out.ret (AVal.bool false) [])
  else k (Out.ret (AVal.bool (decide (v.kind < 7))) [])
  else none) := by kernel_rfl
/- Quiet -/
noncomputable def quSpQ (R : Int → List UInt8 → Bool) : LSp := mkL (fun vs bs H => (aI vs 0, aS vs 1)) (fun a => a.2.length ≤ 1099511627776) (fun a => [.int .i64 a.1, .str a.2, .int .i64 0]) (fun _ => []) (fun _ => [])
  (fun a k => cond (R a.1 a.2) (k (.exit 0) [.undef] [] []) (k .ret [.bool false] [] []))
noncomputable def quFHQ (R : Int → List UInt8 → Bool) : FH := .of [(7, loopSpec 75 [0,5,7] [] [4] [] (quSpQ R))]
noncomputable def layL3 (W : List AVal → Prop) (A : ApA) (X : ApX) (V : List AVal → Prop) (B : List AVal → Bool) : Lay := ((Lay.nil.addF 20 (apTold W A X)).addF 25 (vpTold V B)).addF 19 aliveT
theorem quq_step (W : List AVal → Prop) (A : ApA) (X : ApX) (V : List AVal → Prop) (B : List AVal → Bool) (R : Int → List UInt8 → Bool) (e : Int) (s : List UInt8) (i : Int) (D : List (FuncId × List AVal)) (k : Kont) : lturn Tryd.prog (layL3 W A X V B) (quFHQ R) 6 7 [0,5,7] [] [4] [] (stL 75 [0,5,7] [.int .i64 e, .str s, .int .i64 i] [] [] [] D) k = (
 let c0 : Bool := decide (i < (↑s.length : Int));
 let c1 : Bool := decide (0 ≤ i) && c0;
 let n2 : Int := (↑(s.getD i.toNat 0).toNat : Int);
 let c3 : Bool := n2 == 60;
 let c4 : Bool :=
  bif bif bif bif decide (e ≥ 3) then decide (e ≤ 6) else false then true else e == 9 then true else e == 10 then true
  else e == 12;
 let c5 : Bool := !c3 && c4;
 let c6 : Bool := n2 == 34;
  bif c0 then
  bif c1 then
  bif c1 || !c5 then
  bif c1 || !(c5 && !c6) then
  bif bif c3 then true else bif c4 then bif c6 then true else n2 == 39 else false then
  k AExit.ret (stL 75 [4] [AVal.bool false] [] [] [] D)
  else
  k AExit.normal
  (stL 75 [0, 5, 7] [AVal.int IntKind.i64 e, AVal.str s, AVal.int IntKind.i64 (IntKind.i64.wrap (i + 1))] []
  [] [] D)
  else none
  else none
  else none
  else k (AExit.exit 0) (stL 75 [4] [AVal.undef] [] [] [] D)) := by kernel_rfl
noncomputable def layL4 (W : List AVal → Prop) (A : ApA) (X : ApX) (V : List AVal → Prop) (B : List AVal → Bool) (R : Int → List UInt8 → Bool) : Lay := (layL3 W A X V B).addL 6 (quFHQ R)
theorem law23q_fun (W : List AVal → Prop) (A : ApA) (X : ApX) (V : List AVal → Prop) (B : List AVal → Bool) (R : Int → List UInt8 → Bool) (e : Int) (v : VaD) (k : Out → Ans) : iFun Tryd.prog ((layL4 W A X V B R).hd Tryd.prog) (layL4 W A X V B R).fhs 0 6 [.int .i64 e, .agg (encVa v)] [] k = (
 let n0 : Int :=
  X e
  (cellsA
  (AVal.agg
  [AVal.int IntKind.i64 v.kind, AVal.int IntKind.i64 v.int, AVal.str v.text, AVal.list v.lf v.ln v.lr,
  AVal.list v.kf v.keys.length fun (i : Nat) => [AVal.str (v.keys.getD i [])]]));
 let l1 : List UInt8 :=
  A e
  (cellsA
  (AVal.agg
  [AVal.int IntKind.i64 v.kind, AVal.int IntKind.i64 v.int, AVal.str v.text, AVal.list v.lf v.ln v.lr,
  AVal.list v.kf v.keys.length fun (i : Nat) => [AVal.str (v.keys.getD i [])]]));
  bif
  tst
  (W
  (canC
  (cellsA
  (AVal.agg
  [AVal.int IntKind.i64 v.kind, AVal.int IntKind.i64 v.int, AVal.str v.text, AVal.list v.lf v.ln v.lr,
  AVal.list v.kf v.keys.length fun (i : Nat) => [AVal.str (v.keys.getD i [])]]))) ∧
  SubL
  [AVal.int IntKind.i64 e,
  AVal.agg
  [AVal.int IntKind.i64 v.kind, AVal.int IntKind.i64 v.int, AVal.str v.text, AVal.list v.lf v.ln v.lr,
  AVal.list v.kf v.keys.length fun (i : Nat) => [AVal.str (v.keys.getD i [])]]]
  [AVal.int IntKind.i64 e,
  AVal.agg
  (canC
  (cellsA
  (AVal.agg
  [AVal.int IntKind.i64 v.kind, AVal.int IntKind.i64 v.int, AVal.str v.text,
  AVal.list v.lf v.ln v.lr,
  AVal.list v.kf v.keys.length fun (i : Nat) => [AVal.str (v.keys.getD i [])]])))] ∧
  ([] : Heap) = []) then
  bif
  tst
  (V
  (cellsA
  (AVal.agg
  [AVal.int IntKind.i64 v.kind, AVal.int IntKind.i64 v.int, AVal.str v.text, AVal.list v.lf v.ln v.lr,
  AVal.list v.kf v.keys.length fun (i : Nat) => [AVal.str (v.keys.getD i [])]])) ∧
  SubL
  [AVal.agg
  [AVal.int IntKind.i64 v.kind, AVal.int IntKind.i64 v.int, AVal.str v.text, AVal.list v.lf v.ln v.lr,
  AVal.list v.kf v.keys.length fun (i : Nat) => [AVal.str (v.keys.getD i [])]]]
  [AVal.agg
  (cellsA
  (AVal.agg
  [AVal.int IntKind.i64 v.kind, AVal.int IntKind.i64 v.int, AVal.str v.text,
  AVal.list v.lf v.ln v.lr,
  AVal.list v.kf v.keys.length fun (i : Nat) => [AVal.str (v.keys.getD i [])]]))] ∧
  ([] : Heap) = []) then
  bif
  bif n0 != 0 then true
  else
  !B
  (cellsA
  (AVal.agg
  [AVal.int IntKind.i64 v.kind, AVal.int IntKind.i64 v.int, AVal.str v.text, AVal.list v.lf v.ln v.lr,
  AVal.list v.kf v.keys.length fun (i : Nat) => [AVal.str (v.keys.getD i [])]])) then
  k (Out.ret (AVal.bool (bif n0 == 0 then true else l1 == [])) [])
  else
  bif
  tst
  (l1.length ≤ 1099511627776 ∧
  SubTL [AVal.int IntKind.i64 e, AVal.str l1, AVal.int IntKind.i64 0]
  [AVal.int IntKind.i64 e, AVal.str l1, AVal.int IntKind.i64 0] ∧
  ([] : List (List AVal)) = [] ∧ ([] : Heap) = []) then
  bif R e l1 then k (Out.ret (AVal.bool true) []) else k (Out.ret (AVal.bool false) [])
  else none
  else none
  else none) := by kernel_rfl
end Go.Mu
set_option linter.unusedVariables false
set_option linter.unusedSimpArgs false
set_option maxRecDepth 100000
namespace Go.Mu
open Go Go.Proofs
def leafV (kd : Int) (s : List UInt8) : VaD := ⟨kd, 0, s, true, 0, fun _ => [], true, []⟩
abbrev leafK (kd : Int) : Prop := kd = 4 ∨ 7 ≤ kd ∧ kd ≤ 11
theorem leaf_vals (kd : Int) (s : List UInt8) : vals (leafV kd s).list = [] := rfl
theorem leaf_wf (kd : Int) (s : List UInt8) : wfVal 1 (leafV kd s) := by
  refine ⟨by show (-9223372036854775808 : Int) ≤ 0; omega, by show (0 : Int) ≤ 9223372036854775807; omega, rfl, fun x hx => ?_⟩
  rw [leaf_vals] at hx
  cases hx
theorem leaf_sz (kd : Int) (s : List UInt8) : szV 1 (leafV kd s) = 96 + 16 * s.length := by
  unfold szV
  rw [leaf_vals]
  simp [leafV]
theorem leaf_nest {kd : Int} {s : List UInt8} (hk : leafK kd) (hs : s.length ≤ 4096) (c : Int) : nestV 1 (leafV kd s) c = 0 := by
  have hu : usedB (leafV kd s) = true := by
    unfold usedB
    obtain rfl | rfl | rfl | rfl | rfl | rfl : kd = 4 ∨ kd = 7 ∨ kd = 8 ∨ kd = 9 ∨ kd = 10 ∨ kd = 11 := by omega
    all_goals rfl
  have hy : keysB (leafV kd s) = true := by
    unfold keysB
    obtain rfl | rfl | rfl | rfl | rfl | rfl : kd = 4 ∨ kd = 7 ∨ kd = 8 ∨ kd = 9 ∨ kd = 10 ∨ kd = 11 := by omega
    all_goals rfl
  have h56 : (bif (leafV kd s).kind == 5 then true else (leafV kd s).kind == 6) = false := by
    obtain rfl | rfl | rfl | rfl | rfl | rfl : kd = 4 ∨ kd = 7 ∨ kd = 8 ∨ kd = 9 ∨ kd = 10 ∨ kd = 11 := by omega
    all_goals rfl
  have hb : decide (((leafV kd s).text.length : Int) > 4096) = false := dF (by show ¬ (s.length : Int) > 4096; omega)
  unfold nestV nestB
  rw [h56, hb, hu, hy, leaf_vals]
  rfl
theorem leaf_to {kd : Int} {s : List UInt8} (hk : leafK kd) : toV 1 (leafV kd s) = s := by
  have k : (leafV kd s).kind = kd := rfl
  unfold toV prV
  rw [if_neg (by omega), if_neg (by omega), if_neg (by omega), if_neg (by omega), if_neg (by omega), if_neg (by omega), if_neg (by omega)]
  rfl
theorem leaf_lit {kd : Int} {s : List UInt8} (hk : leafK kd) : litV 1 (leafV kd s) = quoP s := by
  have k : (leafV kd s).kind = kd := rfl
  unfold litV
  rw [if_neg (by omega), if_neg (by omega), if_neg (by omega), if_neg (by omega), if_neg (by omega)]
  rfl
theorem leaf_ap {kd e : Int} {s : List UInt8} (hk : leafK kd) (hs : s.length ≤ 4096) (h1 : 1 ≤ e) (h12 : e ≤ 12) : apE 1 e (leafV kd s) = 0 ∧ apV 1 e (leafV kd s) = (if safeB e kd = true then (if e = 1 ∨ e = 7 ∨ e = 11 then s else escP s) else if e = 7 then blnk (quoP s) else if e = 9 then escP (blnk (quoP s)) else plP e s) := by
  have hE : apE 1 e (leafV kd s) = 0 := by unfold apE; rw [if_neg (by omega), leaf_nest hk hs]
  refine ⟨hE, ?_⟩
  unfold apV apT
  rw [hE, if_pos rfl, leaf_to hk, leaf_lit hk]
  rfl
theorem layL1_ok (d : Nat) : (layL1 (WvD d) (apRV d) (apRE d) safeB).OK Tryd.prog := (Lay.nil_ok.addF (apTold_ok d)).addF saTold_ok
abbrev leafR (kd : Int) (s : List UInt8) : List AVal := [.int .i64 kd, .int .i64 0, .str s, .list true 0 (fun _ => []), .list true 0 (fun _ => [])]
theorem leaf_dec (kd : Int) (s : List UInt8) : decVa (leafR kd s) = leafV kd s := rfl
theorem leaf_sub (kd : Int) (s : List UInt8) : Sub (.agg (leafR kd s)) (.agg (canC (leafR kd s))) := .agg (.cons (.refl _) (.cons (.refl _) (.cons (.refl _) (.cons (.refl _) (.cons (Sub.list (fun h => h) (fun i hi => by omega)) .nil)))))
theorem leaf_W (kd : Int) (s : List UInt8) (hs : s.length ≤ 4096) : WvD 1 (canC (leafR kd s)) := WvD_enc (v := leafV kd s) (leaf_wf kd s) (by rw [leaf_sz]; omega)
theorem alive23_ok : CallOK Tryd.prog 19 [] [] (.ret (.bool true) []) := by
  obtain ⟨a1, a2⟩ := leaf_ap (kd := 4) (e := 1) (s := [60]) (.inl rfl) (by simp) (by omega) (by omega)
  have e1 : apRE 1 1 (leafR 4 [60]) = 0 := by unfold apRE; rw [leaf_dec]; exact a1
  have e2 : apRV 1 1 (leafR 4 [60]) = [38, 108, 116, 59] := by
    unfold apRV
    rw [leaf_dec, a2]
    have : rpP [60] = [60] := by
      rw [← repB_rp]
      unfold repB
      exact repF_ascii [60] 1 (by simp) (fun c hc => by simp at hc; subst hc; decide)
    unfold plP escP
    rw [this]
    decide
  refine (layL1_ok 1).callF (G := []) rfl (fun k => (alive23_fun (WvD 1) (apRV 1) (apRE 1) safeB k).trans ?_)
  refine (congrArg (fun c => cond c _ none) (tst_true ⟨leaf_W 4 [60] (by simp), .cons (.refl _) (.cons (leaf_sub 4 [60]) .nil), rfl⟩)).trans ((cond_true _ _).trans ?_)
  show k (.ret (.bool (bif bif apRE 1 1 (leafR 4 [60]) == 0 then apRV 1 1 (leafR 4 [60]) == [38, 108, 116, 59] else false then safeB 1 7 else false)) []) = _
  rw [e1, e2]
  rfl
theorem aliveT_ok : ∀ xs H k out, aliveT xs H k = some out → ∃ o, CallOK Tryd.prog 19 xs H o ∧ k o = some out := mkFS_ok fun ys xs e h => by
  subst e
  exact ⟨_, fun k => rfl, alive23_ok⟩
end Go.Mu
set_option linter.unusedVariables false
set_option linter.unusedSimpArgs false
set_option maxRecDepth 100000
namespace Go.Mu
open Go Go.Proofs
/- what is written as a literal -/
theorem ascL_cons {c : UInt8} {t : List UInt8} (hc : ascB c = true) (ht : ascL t) : ascL (c :: t) := fun x hx => by
  rcases List.mem_cons.1 hx with rfl | h
  · exact hc
  · exact ht x h
theorem digsF_asc : ∀ (f u : Nat) (t : List UInt8), ascL t → ascL (digsF f u t)
  | 0, u, t, h => h
  | f + 1, u, t, h => by
    have hd : ascB (UInt8.ofNat (48 + u % 10)) = true := by
      have key : ∀ m : Fin 10, ascB (UInt8.ofNat (48 + m.val)) = true := by decide
      exact key ⟨u % 10, by omega⟩
    unfold digsF
    cases u / 10 == 0
    · exact digsF_asc f (u / 10) _ (ascL_cons hd h)
    · exact ascL_cons hd h
theorem printM_asc (n : Int) : ascL (printM n) := by
  unfold printM
  cases decide (n < 0)
  · exact digsF_asc _ _ _ (ascL_of (by decide))
  · exact ascL_cons (by decide) (digsF_asc _ _ _ (ascL_of (by decide)))
theorem join_asc (b : UInt8) (hb : ascB b = true) : ∀ (l : List (List UInt8)), (∀ x ∈ l, ascL x) → ascL (Lib.join l [b])
  | [], _ => by rw [Lib.join_nil]; exact ascL_of (by decide)
  | [x], h => by rw [Lib.join_one]; exact h x (by simp)
  | x :: y :: l, h => by
    have ih := join_asc b hb (y :: l) (fun z hz => h z (List.mem_cons_of_mem _ hz))
    have e : Lib.join (x :: y :: l) [b] = x ++ [b] ++ Lib.join (y :: l) [b] := by
      unfold Lib.join
      simp [List.intercalate, List.intersperse]
    rw [e]
    exact ascL_app (ascL_app (h x (by simp)) (ascL_cons hb (ascL_of (by decide)))) ih
theorem litV_asc : ∀ (d : Nat) (v : VaD), ascL (litV d v)
  | 0, v => by unfold litV; exact ascL_of (by decide)
  | d + 1, v => by
    have hi : ∀ x ∈ lItems (litV d) v (vals v.list), ascL x := fun x hx => by
      unfold lItems at hx
      obtain ⟨i, _, rfl⟩ := List.mem_map.1 hx
      unfold lItem lKey
      refine ascL_app ?_ (litV_asc d _)
      split
      · exact ascL_app (quoP_asc _) (ascL_of (by decide))
      · exact ascL_of (by decide)
    have hj := join_asc 44 (by decide) _ hi
    unfold litV litL
    repeat' split
    all_goals first
      | exact ascL_of (by decide)
      | exact printM_asc _
      | exact quoP_asc _
      | exact ascL_cons (by decide) (printM_asc _)
      | exact ascL_cons (by decide) (ascL_app hj (ascL_of (by decide)))
/- which octets may not stand -/
def attrE (e : Int) : Bool := bif bif bif bif decide (e ≥ 3) then decide (e ≤ 6) else false then true else e == 9 then true else e == 10 then true else e == 12
def hitQ (e : Int) (c : UInt8) : Bool := bif c == 60 then true else bif attrE e then (bif c == 34 then true else c == 39) else false
theorem escC_no : ∀ c : UInt8, (escC c).all (fun x => x != 60 && x != 34 && x != 39) = true := oct256 (p := fun c => (escC c).all (fun x => x != 60 && x != 34 && x != 39) = true) (by decide +kernel)
theorem escP_no (s : List UInt8) : ∀ c ∈ escP s, c ≠ 60 ∧ c ≠ 34 ∧ c ≠ 39 := fun c hc => by
  unfold escP escT at hc
  obtain ⟨a, _, hc⟩ := List.mem_flatMap.1 hc
  have := List.all_eq_true.1 (escC_no a) c hc
  simp only [Bool.and_eq_true, bne_iff_ne, ne_eq] at this
  exact ⟨this.1.1, this.1.2, this.2⟩
theorem hit_esc (e : Int) (s : List UInt8) : ∀ c ∈ escP s, hitQ e c = false := fun c hc => by
  obtain ⟨h1, h2, h3⟩ := escP_no s c hc
  unfold hitQ
  rw [beq_false_of_ne h1, beq_false_of_ne h2, beq_false_of_ne h3]
  cases attrE e <;> rfl
theorem hit_asc {e : Int} (he : attrE e = false) {s : List UInt8} (h : ascL s) : ∀ c ∈ s, hitQ e c = false := fun c hc => by
  have := h c hc
  unfold ascB at this
  simp only [Bool.and_eq_true, bne_iff_ne, ne_eq] at this
  unfold hitQ
  rw [beq_false_of_ne this.2, he]
  rfl
theorem cp60 : cpP (lowC 60) = true := by decide +kernel
theorem cssF_no (s : List UInt8) : ∀ c ∈ cssF s, c ≠ 60 := fun c hc h60 => by
  subst h60
  unfold cssF at hc
  cases hp : plainM s with
  | false =>
    rw [hp] at hc
    simp at hc
  | true =>
    rw [hp] at hc
    have hc : (60 : UInt8) ∈ s := hc
    have : (lowM s).any cpP = true := by
      unfold lowM
      rw [List.any_map]
      exact List.any_eq_true.2 ⟨60, hc, cp60⟩
    unfold plainM at hp
    rw [this] at hp
    simp at hp
theorem ap_quiet (d : Nat) (e : Int) (v : VaD) (h1 : 1 ≤ e) (h12 : e ≤ 12) (hk : v.kind < 7) : ∀ c ∈ apT d e v, hitQ e c = false := by
  have hs : safeB e v.kind = false := by
    unfold safeB
    rw [beq_false_of_ne (show v.kind ≠ 7 by omega), beq_false_of_ne (show v.kind ≠ 8 by omega), beq_false_of_ne (show v.kind ≠ 9 by omega), beq_false_of_ne (show v.kind ≠ 10 by omega), beq_false_of_ne (show v.kind ≠ 11 by omega)]
    rfl
  unfold apT
  rw [hs, if_neg (by simp)]
  by_cases h7 : e = 7
  · subst h7
    rw [if_pos rfl]
    exact hit_asc rfl (ascL_cons (by decide) (ascL_app (litV_asc d v) (ascL_of (by decide))))
  rw [if_neg h7]
  by_cases h9 : e = 9
  · rw [if_pos h9]; exact hit_esc e _
  rw [if_neg h9]
  unfold plP
  by_cases h8 : e = 8
  · subst h8
    exact hit_asc rfl (jsE_asc _)
  by_cases h11 : e = 11
  · subst h11
    intro c hc
    have hc : c ∈ cssF (toV d v) := hc
    unfold hitQ
    rw [beq_false_of_ne (cssF_no _ c hc)]
    rfl
  by_cases ha : e = 1 ∨ e = 2 ∨ e = 3
  · rw [if_pos ha]; exact hit_esc e _
  rw [if_neg ha]
  by_cases h4 : e = 4
  · rw [if_pos h4]; exact hit_esc e _
  rw [if_neg h4]
  by_cases h5 : e = 5
  · rw [if_pos h5]; exact hit_esc e _
  rw [if_neg h5]
  by_cases h6 : e = 6
  · rw [if_pos h6]; exact hit_esc e _
  rw [if_neg h6, if_neg h8]
  by_cases h10 : e = 10
  · rw [if_pos h10]; exact hit_esc e _
  rw [if_neg h10, if_neg h11, if_pos (by omega)]
  exact hit_esc e _
/- Plain -/
def vplV : Nat → VaD → Bool
  | 0, _ => true
  | d + 1, v => !(vals v.list).any (fun x => !vplV d x) && decide (v.kind < 7)
def vplR (d : Nat) (x : List AVal) : Bool := vplV d (decVa x)
theorem vplR_enc (d : Nat) (v : VaD) : vplR d (encVa v) = vplV d v := by unfold vplR; rw [decVa_enc]
def canA (v : VaD) : VaD := { v with ln := (vals v.list).length, lr := fun i => encVa ((vals v.list).getD i va0) }
theorem canA_sub {d : Nat} {v : VaD} (h : WlD d v.list) : Sub (.agg (encVa v)) (.agg (encVa (canA v))) := by
  have hq : Sub v.list (encL (fullOf v.list) encVa va0 (vals v.list)) := sub_encL h.1 (fun r hr => by
    have h3 : r = encVa (decVa r) := of_tst hr
    have : SubL r r := .refl _
    rw [h3] at this
    rw [h3]
    rw [decVa_enc]
    exact .refl _)
  exact .agg (.cons (.refl _) (.cons (.refl _) (.cons (.refl _) (.cons hq (.refl _)))))
theorem canA_vals (v : VaD) : vals (canA v).list = vals v.list := decL_encL (f := encVa) (d := va0) (full := v.lf) decVa_enc (vals v.list)
def vplL (d : Nat) (x : List AVal) : Bool := (vals (decVa x).list).any (fun v => !vplV d v)
def PcD (d : Nat) (x : List AVal) : Prop := ∃ v : VaD, x = encVa (canA v) ∧ WlD d v.list
noncomputable abbrev vpTurn (d : Nat) := lturn Tryd.prog (layVp0 (WvD d) (vplR d)) (vpFH (PcD d) (vplL d)) 25 2 [1,3] [1] [1,2] [1]
theorem vp_rd (d : Nat) (v : VaD) (h : WlD d v.list) (i : Nat) (hi : i < (vals v.list).length) (D : List (FuncId × List AVal)) (k : Kont) :
    vpTurn d (stL 21 [1,3] [.ptr (.tmp 1) 0, .int .i64 (i : Nat)] [1] [encVa (canA v)] [] D) k = cond (!vplV d ((vals v.list).getD i va0)) (k .ret (stL 21 [1,2] [.ptr (.tmp 1) 0, .bool false] [1] [encVa (canA v)] [] D)) (k .normal (stL 21 [1,3] [.ptr (.tmp 1) 0, .int .i64 ((i + 1 : Nat) : Int)] [1] [encVa (canA v)] [] D)) := by
  have hl := WlD_len h
  have hm : (vals v.list).getD i va0 ∈ vals v.list := by rw [List.getD_eq_getElem?_getD, List.getElem?_eq_getElem hi]; exact List.getElem_mem hi
  obtain ⟨w1, w2⟩ := WlD_mem h hm
  refine (vp_step (WvD d) (vplR d) (PcD d) (vplL d) v.kind v.int v.text v.lf (vals v.list).length (fun i => (vals v.list).getD i va0) v.kf v.keys i D k).trans ?_
  have e1 : IntKind.i64.wrap ((i : Int) + 1) = ((i + 1 : Nat) : Int) := wrap_add1 (by omega)
  simp only [e1, dT (show (i : Int) < ((vals v.list).length : Nat) by omega), dT (show (0 : Int) ≤ (i : Int) by omega), Bool.and_self, cond_true, Int.toNat_natCast]
  refine (congrArg (fun b => cond b _ none) (tst_true ⟨WvD_enc w1 w2, .refl _, by trivial⟩)).trans ((cond_true _ _).trans ?_)
  show cond (!vplR d (encVa ((vals v.list).getD i va0))) _ _ = _
  rw [vplR_enc]
  rfl
theorem vpSp_ok (d : Nat) : SpOK (vpTurn d) 21 [1,3] [1] [1,2] [1] (vpSp (PcD d) (vplL d)) := mkL_ok fun x h => by
  obtain ⟨v, rfl, hw⟩ := h
  have hl := WlD_len hw
  have eL : vplL d (encVa (canA v)) = (vals v.list).any (fun v => !vplV d v) := by unfold vplL; rw [decVa_enc, canA_vals]
  show ∃ e vs bs H', (∀ k : AExit → List AVal → List (List AVal) → Heap → Ans, cond (vplL d (encVa (canA v))) _ _ = k e vs bs H') ∧ _
  rw [eL]
  have hf := find_getD (fun v => !vplV d v) (vals v.list) va0
  have hN : ∀ D k, vpTurn d (stL 21 [1,3] [.ptr (.tmp 1) 0, .int .i64 ((vals v.list).length : Nat)] [1] [encVa (canA v)] [] D) k = k (.exit 0) (stL 21 [1,2] [.ptr (.tmp 1) 0, .undef] [1] [encVa (canA v)] [] D) := fun D k => by
    refine (vp_step (WvD d) (vplR d) (PcD d) (vplL d) v.kind v.int v.text v.lf (vals v.list).length (fun i => (vals v.list).getD i va0) v.kf v.keys (vals v.list).length D k).trans ?_
    rw [dF (show ¬ ((vals v.list).length : Int) < ((vals v.list).length : Nat) by omega), cond_false]
    rfl
  cases ha : (vals v.list).any (fun v => !vplV d v) with
  | false =>
    rw [ha] at hf
    exact ⟨_, _, _, _, fun k => rfl, none_runs (fun i => [.ptr (.tmp 1) 0, .int .i64 (i : Nat)]) [encVa (canA v)] [] _ (vals v.list).length (by simp) (fun i hi D k => vp_rd d v hw i hi D k) hN hf⟩
  | true =>
    rw [ha] at hf
    exact ⟨_, _, _, _, fun k => rfl, find_runs (fun i => [.ptr (.tmp 1) 0, .int .i64 (i : Nat)]) [encVa (canA v)] [] _ (vals v.list).length (v1 := fun _ => [.ptr (.tmp 1) 0, .bool false]) (b1 := fun _ => [encVa (canA v)]) (H1 := fun _ => []) (by simp) (fun i hi D k => vp_rd d v hw i hi D k) hf⟩
theorem vpTold_ok : ∀ (d : Nat) xs H k out, vpTold (WvD d) (vplR d) xs H k = some out → ∃ o, CallOK Tryd.prog 25 xs H o ∧ k o = some out
  | 0 => vrTold_ok (ok := WvD 0) (post := fun x k => k (.ret (.bool (vplR 0 x)) [])) fun x h => absurd h.2.1 (by unfold wfVal; exact id)
  | d + 1 => vrTold_ok (ok := WvD (d + 1)) (post := fun x k => k (.ret (.bool (vplR (d + 1) x)) [])) fun x h => ⟨_, fun k => rfl, by
    obtain ⟨h1, h2, h3⟩ := h
    have h1 : x = encVa (decVa x) := h1
    generalize decVa x = v at h1 h2 h3
    subst h1
    rw [vplR_enc]
    have hl := wf_list h2 h3
    have hL : (layVp (WvD d) (vplR d) (PcD d) (vplL d)).OK Tryd.prog := Lay.OK.loop1 (Lay.nil_ok.addF (vpTold_ok d)) (id := 2) (by kernel_rfl) (by kernel_rfl) (by kernel_rfl) (vpSp_ok d)
    have eL : vplL d (encVa (canA v)) = (vals v.list).any (fun v => !vplV d v) := by unfold vplL; rw [decVa_enc, canA_vals]
    have key : CallOK Tryd.prog 25 [.agg (encVa (canA v))] [] (.ret (.bool (vplV (d + 1) v)) []) := hL.callF (G := []) rfl (fun k => (vp_fun (WvD d) (vplR d) (PcD d) (vplL d) (canA v) k).trans (by
      refine (congrArg (fun b => cond b _ none) (tst_true ⟨⟨v, rfl, hl⟩, .refl _, by trivial⟩)).trans ((cond_true _ _).trans ?_)
      show cond (vplL d (encVa (canA v))) _ _ = _
      rw [eL, show vplV (d + 1) v = (!(vals v.list).any (fun x => !vplV d x) && decide (v.kind < 7)) from rfl]
      cases (vals v.list).any (fun v => !vplV d v) <;> rfl))
    exact key.subArgs (.cons (canA_sub hl) .nil)⟩
/- the law -/
def quR (e : Int) (s : List UInt8) : Bool := !s.any (hitQ e)
noncomputable abbrev quTurnQ (d : Nat) := lturn Tryd.prog (layL3 (WvD d) (apRV d) (apRE d) (WvD d) (vplR d)) (quFHQ quR) 6 7 [0,5,7] [] [4] []
theorem quq_rd (d : Nat) (e : Int) (s : List UInt8) (hs : s.length ≤ 1099511627776) (i : Nat) (hi : i < s.length) (D : List (FuncId × List AVal)) (k : Kont) :
    quTurnQ d (stL 75 [0,5,7] [.int .i64 e, .str s, .int .i64 (i : Nat)] [] [] [] D) k = cond (hitQ e (s.getD i 0)) (k .ret (stL 75 [4] [.bool false] [] [] [] D)) (k .normal (stL 75 [0,5,7] [.int .i64 e, .str s, .int .i64 ((i + 1 : Nat) : Int)] [] [] [] D)) := by
  refine (quq_step (WvD d) (apRV d) (apRE d) (WvD d) (vplR d) quR e s i D k).trans ?_
  have e1 : IntKind.i64.wrap ((i : Int) + 1) = ((i + 1 : Nat) : Int) := wrap_add1 (by omega)
  have q60 : (((s.getD i 0).toNat : Int) == 60) = (s.getD i 0 == 60) := eqc (by decide)
  have q34 : (((s.getD i 0).toNat : Int) == 34) = (s.getD i 0 == 34) := eqc (by decide)
  have q39 : (((s.getD i 0).toNat : Int) == 39) = (s.getD i 0 == 39) := eqc (by decide)
  simp only [e1, q60, q34, q39, dT (show (i : Int) < s.length by omega), dT (show (0 : Int) ≤ (i : Int) by omega), Bool.and_self, Bool.true_or, cond_true, Int.toNat_natCast]
  unfold hitQ attrE
  rfl
theorem quqSp_ok (d : Nat) : SpOK (quTurnQ d) 75 [0,5,7] [] [4] [] (quSpQ quR) := mkL_ok fun a h => by
  obtain ⟨e, s⟩ := a
  have h : s.length ≤ 1099511627776 := h
  show ∃ x vs bs H', (∀ k : AExit → List AVal → List (List AVal) → Heap → Ans, cond (quR e s) _ _ = k x vs bs H') ∧ _
  have hf := find_getD (hitQ e) s 0
  have hN : ∀ D k, quTurnQ d (stL 75 [0,5,7] [.int .i64 e, .str s, .int .i64 (s.length : Nat)] [] [] [] D) k = k (.exit 0) (stL 75 [4] [.undef] [] [] [] D) := fun D k => by
    refine (quq_step (WvD d) (apRV d) (apRE d) (WvD d) (vplR d) quR e s s.length D k).trans ?_
    rw [dF (show ¬ (s.length : Int) < s.length by omega), cond_false]
  unfold quR
  cases ha : s.any (hitQ e) with
  | false =>
    rw [ha] at hf
    exact ⟨_, _, _, _, fun k => rfl, none_runs (fun i => [.int .i64 e, .str s, .int .i64 (i : Nat)]) [] [] _ s.length (by simp) (fun i hi D k => quq_rd d e s h i hi D k) hN hf⟩
  | true =>
    rw [ha] at hf
    exact ⟨_, _, _, _, fun k => rfl, find_runs (fun i => [.int .i64 e, .str s, .int .i64 (i : Nat)]) [] [] _ s.length (v1 := fun _ => [.bool false]) (b1 := fun _ => []) (H1 := fun _ => []) (by simp) (fun i hi D k => quq_rd d e s h i hi D k) hf⟩
theorem layL3_ok (d : Nat) : (layL3 (WvD d) (apRV d) (apRE d) (WvD d) (vplR d)).OK Tryd.prog := ((Lay.nil_ok.addF (apTold_ok d)).addF (vpTold_ok d)).addF aliveT_ok
theorem layL4_ok (d : Nat) : (layL4 (WvD d) (apRV d) (apRE d) (WvD d) (vplR d) quR).OK Tryd.prog := (layL3_ok d).loop1 (id := 7) (by kernel_rfl) (by kernel_rfl) (by kernel_rfl) (quqSp_ok d)
theorem escP_le (s : List UInt8) : (escP s).length ≤ 20 * s.length := by
  have := flat_len escC 5 escC_len (rpP s)
  have := rpP_len s
  unfold escP escT; omega
theorem jsE_le (s : List UInt8) : (jsE s).length ≤ 12 * s.length := by
  have := qT_len (chP s)
  have := chP_len s
  unfold jsE; omega
theorem plP_le (e : Int) (s : List UInt8) : (plP e s).length ≤ 240 * s.length + 200 := by
  unfold plP
  split
  · have := escP_le s; omega
  split
  · have := escP_le (schFP s); have := schFP_len s; omega
  split
  · have := escP_le (normP s); have := normP_len s; omega
  split
  · have := escP_le (pencP s); have := pencP_len s; omega
  split
  · have := jsE_le s; omega
  split
  · have := escP_le (jsE s); have := jsE_le s; omega
  split
  · have := cssF_len s; omega
  split
  · have := escP_le (cssF s); have := cssF_len s; omega
  · simp
theorem apT_le (d : Nat) (e : Int) (v : VaD) (hw : wfVal d v) (hs : szV d v ≤ 16777216) : (apT d e v).length ≤ 1099511627776 := by
  have l1 := litV_len d v
  have l2 := toV_len d v hs
  have l3 := sz_text hw hs
  have b3 : (blnk (litV d v)).length = (litV d v).length + 2 := by unfold blnk; simp
  unfold apT
  split
  · split
    · omega
    · have := escP_le v.text; omega
  split
  · omega
  split
  · have := escP_le (blnk (litV d v)); omega
  · have := plP_le e (toV d v); omega
theorem apV_len (d : Nat) (e : Int) (v : VaD) (hw : wfVal d v) (hs : szV d v ≤ 16777216) : (apV d e v).length ≤ 1099511627776 := by
  have := apT_le d e v hw hs
  unfold apV
  split
  · exact this
  · simp
theorem law23q_ok (d : Nat) (e : Int) (v : VaD) (hw : wfVal (d + 1) v) (hs : szV (d + 1) v ≤ 16777216) : CallOK Tryd.prog 6 [.int .i64 e, .agg (encVa v)] [] (.ret (.bool true) []) := by
  have hW := WvD_enc hw hs
  have hcan : WvD (d + 1) (canC (encVa v)) := by unfold canC; rw [decVa_enc]; exact hW
  have ecan : canC (encVa v) = encVa v := by unfold canC; rw [decVa_enc]
  have hsub : SubL [.int .i64 e, .agg (encVa v)] [.int .i64 e, .agg (canC (encVa v))] := by rw [ecan]; exact .refl _
  have hL := apV_len (d + 1) e v hw hs
  have xE : apRE (d + 1) e (encVa v) = apE (d + 1) e v := by unfold apRE; rw [decVa_enc]
  have xV : apRV (d + 1) e (encVa v) = apV (d + 1) e v := by unfold apRV; rw [decVa_enc]
  have xP := vplR_enc (d + 1) v
  refine (layL4_ok (d + 1)).callF (G := []) rfl (fun k => (law23q_fun (WvD (d + 1)) (apRV (d + 1)) (apRE (d + 1)) (WvD (d + 1)) (vplR (d + 1)) quR e v k).trans ?_)
  refine (congrArg (fun b => cond b _ none) (tst_true ⟨hcan, hsub, by trivial⟩)).trans ((cond_true _ _).trans ?_)
  refine (congrArg (fun b => cond b _ none) (tst_true ⟨hW, .refl _, by trivial⟩)).trans ((cond_true _ _).trans ?_)
  show cond (bif apRE (d + 1) e (encVa v) != 0 then true else !vplR (d + 1) (encVa v)) (k (.ret (.bool (bif apRE (d + 1) e (encVa v) == 0 then true else apRV (d + 1) e (encVa v) == [])) [])) (cond (tst ((apRV (d + 1) e (encVa v)).length ≤ 1099511627776 ∧ SubTL [.int .i64 e, .str (apRV (d + 1) e (encVa v)), .int .i64 0] [.int .i64 e, .str (apRV (d + 1) e (encVa v)), .int .i64 0] ∧ _ ∧ _)) (cond (quR e (apRV (d + 1) e (encVa v))) (k (.ret (.bool true) [])) (k (.ret (.bool false) []))) none) = _
  rw [xE, xV, xP]
  by_cases h0 : apE (d + 1) e v = 0
  · rw [h0]
    cases hp : vplV (d + 1) v with
    | false => rfl
    | true =>
      have hk : v.kind < 7 := by
        unfold vplV at hp
        rw [Bool.and_eq_true] at hp
        exact of_decide_eq_true hp.2
      have he : 1 ≤ e ∧ e ≤ 12 := by
        unfold apE at h0
        by_cases hr : e < 1 ∨ e > 12
        · rw [if_pos hr] at h0; omega
        · omega
      have hq : quR e (apV (d + 1) e v) = true := by
        have eV : apV (d + 1) e v = apT (d + 1) e v := by unfold apV; rw [if_pos h0]
        rw [eV]
        unfold quR
        have := ap_quiet (d + 1) e v he.1 he.2 hk
        rw [Bool.not_eq_true', List.any_eq_false]
        intro c hc
        rw [this c hc]
        simp
      refine (congrArg (fun b => cond b _ none) (tst_true ⟨hL, .refl _, by trivial⟩)).trans ((cond_true _ _).trans ?_)
      rw [hq]
      rfl
  · have hb : (apE (d + 1) e v != 0) = true := by simpa using h0
    have hv : apV (d + 1) e v = [] := by unfold apV; rw [if_neg h0]
    rw [hb, hv, beq_false_of_ne h0]
    rfl
end Go.Mu
set_option linter.unusedVariables false
set_option linter.unusedSimpArgs false
set_option maxRecDepth 100000
namespace Go.Mu
open Go Go.Proofs
def vsOf : T → List UInt8
  | .s x => x
  | _ => []
def viOf : T → Int
  | .i _ n => n
  | _ => 0
def vlOf : T → List T
  | .l _ es => es
  | _ => []
def vfOf : T → Bool
  | .l f _ => f
  | _ => true
def vrAt (t : T) (j : Nat) : T := match t with
  | .r fs => fs.getD j (.r [])
  | _ => .r []
theorem vsub_T {α : Type} {conv : T → α} {E : α → List AVal} {d : α} {f : Bool} {es : List T} (h : ∀ t ∈ es, SubL t.enc (E (conv t))) : Sub (.list f es.length (T.encAt es)) (encL f E d (es.map conv)) := by
  unfold encL
  rw [List.length_map]
  refine Sub.list (fun h => h) (fun i hi => ?_)
  rw [T.encAt_get es i es[i] (List.getElem?_eq_getElem hi)]
  have : (es.map conv).getD i d = conv es[i] := by simp [List.getD_eq_getElem?_getD, List.getElem?_eq_getElem hi]
  rw [this]
  exact h _ (List.getElem_mem hi)
def valOf : Nat → T → VaD
  | 0, _ => va0
  | d + 1, t => ⟨viOf (vrAt t 0), viOf (vrAt t 1), vsOf (vrAt t 2), vfOf (vrAt t 3), (vlOf (vrAt t 3)).length, fun i => encVa (valOf d ((vlOf (vrAt t 3)).getD i (.r []))), vfOf (vrAt t 4), (vlOf (vrAt t 4)).map vsOf⟩
theorem valOf_vals (d : Nat) (t : T) : vals (valOf (d + 1) t).list = (vlOf (vrAt t 3)).map (valOf d) := by
  show decL decVa (.list _ (vlOf (vrAt t 3)).length (fun i => encVa (valOf d ((vlOf (vrAt t 3)).getD i (.r []))))) = _
  unfold decL
  simp only [decVa_enc]
  apply List.ext_getElem
  · simp
  · intro i h1 h2
    have hi : i < (vlOf (vrAt t 3)).length := by simpa using h1
    simp [List.getD_eq_getElem?_getD, List.getElem?_eq_getElem hi]
theorem sizes_sum : ∀ (es : List T), T.sizes es = (es.map T.size).sum
  | [] => rfl
  | t :: es => by rw [T.sizes, sizes_sum es, List.map_cons, List.sum_cons]
theorem sum_le_of {α : Type} (f g : α → Nat) : ∀ (l : List α), (∀ a ∈ l, f a ≤ g a) → (l.map f).sum ≤ (l.map g).sum
  | [], _ => Nat.le_refl _
  | a :: l, h => by
    have := sum_le_of f g l (fun b hb => h b (by simp [hb]))
    have := h a (by simp)
    simp only [List.map_cons, List.sum_cons]
    omega
theorem sum_mul (c : Nat) : ∀ (l : List Nat), (l.map (fun x => c * x)).sum = c * l.sum
  | [] => by simp
  | a :: l => by rw [List.map_cons, List.sum_cons, sum_mul c l, List.sum_cons, Nat.mul_add]
theorem str_Ts {t : T} (h : HasT Tryd.prog 9 t) : SubL t.enc (encS (vsOf t)) ∧ t.size = (vsOf t).length + 1 := by
  obtain ⟨s, rfl⟩ := h.str_inv (by kernel_rfl)
  exact ⟨by simp only [T.enc, vsOf, encS]; exact .refl _, rfl⟩
theorem val_T : ∀ (d : Nat) (t : T), HasT Tryd.prog 50 t → t.size ≤ d → SubL t.enc (encVa (valOf d t)) ∧ wfVal d (valOf d t) ∧ szV d (valOf d t) ≤ 16 * t.size
  | 0, t, h, hs => by have := t.size_pos; omega
  | d + 1, t, h, hs => by
    obtain ⟨parts, rfl, hp⟩ := h.struct_inv Tryd.underlying50
    obtain ⟨x0, xs, rfl, h0, hp⟩ := HasTs.cons_inv hp
    obtain ⟨x1, xs, rfl, h1, hp⟩ := HasTs.cons_inv hp
    obtain ⟨x2, xs, rfl, h2, hp⟩ := HasTs.cons_inv hp
    obtain ⟨x3, xs, rfl, h3, hp⟩ := HasTs.cons_inv hp
    obtain ⟨x4, xs, rfl, h4, hp⟩ := HasTs.cons_inv hp
    obtain rfl := HasTs.nil_inv hp
    obtain ⟨kd, rfl, _⟩ := h0.int_inv (k := .i64) (by kernel_rfl)
    obtain ⟨n, rfl, wn⟩ := h1.int_inv (k := .i64) (by kernel_rfl)
    obtain ⟨tx, rfl⟩ := h2.str_inv (by kernel_rfl)
    obtain ⟨f, es, rfl, hes⟩ := h3.slice_inv (e := 50) (by kernel_rfl)
    obtain ⟨kf, ks, rfl, hks⟩ := h4.slice_inv (e := 9) (by kernel_rfl)
    have rn : -9223372036854775808 ≤ n ∧ n ≤ 9223372036854775807 := by simpa [Lit.wf, IntKind.min, IntKind.max, IntKind.signed, IntKind.bits, IntKind.wrap] using wn
    simp only [T.size, T.sizes] at hs
    have ih := fun e (he : e ∈ es) => val_T d e (hes e he) (by have := T.size_mem es e he; omega)
    have ev : ∀ t : T, vlOf (vrAt (.r [.i .i64 kd, .i .i64 n, .s tx, .l f es, .l kf ks]) 3) = es := fun _ => rfl
    have hv : vals (valOf (d + 1) (.r [.i .i64 kd, .i .i64 n, .s tx, .l f es, .l kf ks])).list = es.map (valOf d) := valOf_vals d _
    refine ⟨?_, ⟨rn.1, rn.2, ?_, fun x hx => ?_⟩, ?_⟩
    · simp only [T.enc, T.encAll, List.append_nil, List.singleton_append, List.cons_append, List.nil_append]
      refine .cons (.refl _) (.cons (.refl _) (.cons (.refl _) (.cons (Sub.list (fun h => h) (fun i hi => ?_)) (.cons (vsub_T (fun t ht => (str_Ts (hks t ht)).1)) .nil))))
      rw [T.encAt_get es i es[i] (List.getElem?_eq_getElem hi)]
      have e : (vlOf (vrAt (.r [.i .i64 kd, .i .i64 n, .s tx, .l f es, .l kf ks]) 3)).getD i (.r []) = es[i] := by
        show es.getD i (.r []) = _
        rw [List.getD_eq_getElem?_getD, List.getElem?_eq_getElem hi]; rfl
      show SubL es[i].enc (encVa (valOf d ((vlOf (vrAt (.r [.i .i64 kd, .i .i64 n, .s tx, .l f es, .l kf ks]) 3)).getD i (.r []))))
      rw [e]
      exact (ih _ (List.getElem_mem hi)).1
    · show (List.range es.length).all (fun i => wfVa (encVa (valOf d (es.getD i (.r []))))) = true
      refine List.all_eq_true.2 (fun i _ => ?_)
      unfold wfVa
      exact tst_true (by rw [decVa_enc])
    · rw [hv] at hx
      obtain ⟨e, he, rfl⟩ := List.mem_map.1 hx
      exact (ih e he).2.1
    · unfold szV
      rw [hv]
      show 96 + 16 * tx.length + ((ks.map vsOf).map (fun k => 16 + 16 * k.length)).sum + ((es.map (valOf d)).map (szV d)).sum ≤ 16 * (T.size (.r _))
      simp only [T.size, T.sizes]
      have a1 : ((es.map (valOf d)).map (szV d)).sum ≤ 16 * T.sizes es := by
        rw [List.map_map, sizes_sum, ← sum_mul, List.map_map]
        exact sum_le_of _ _ es (fun e he => (ih e he).2.2)
      have a2 : ((ks.map vsOf).map (fun k => 16 + 16 * k.length)).sum ≤ 16 * T.sizes ks := by
        rw [List.map_map, sizes_sum, ← sum_mul, List.map_map]
        refine sum_le_of _ _ ks (fun e he => ?_)
        have := (str_Ts (hks e he)).2
        show 16 + 16 * (vsOf e).length ≤ 16 * e.size
        omega
      omega
end Go.Mu
set_option linter.unusedVariables false
namespace Go.Mu
open Go
variable {H : Type}
mutual
theorem size_bulk : ∀ d : DataW H, (tOf d).size ≤ Go.Proofs.YtfepcpcnfibbnaaDoor.Rows.uptoBulk d
  | .lit (.bool _) => by simp [tOf, T.size, Go.Proofs.YtfepcpcnfibbnaaDoor.Rows.uptoBulk]
  | .lit (.int _ _) => by simp [tOf, T.size, Go.Proofs.YtfepcpcnfibbnaaDoor.Rows.uptoBulk]
  | .lit (.string _) => by simp [tOf, T.size, Go.Proofs.YtfepcpcnfibbnaaDoor.Rows.uptoBulk]
  | .lit (.float _ _) => by simp [tOf, T.size, T.sizes, Go.Proofs.YtfepcpcnfibbnaaDoor.Rows.uptoBulk]
  | .lit .nil => by simp [tOf, T.size, T.sizes, Go.Proofs.YtfepcpcnfibbnaaDoor.Rows.uptoBulk]
  | .nil => by simp [tOf, T.size, T.sizes, Go.Proofs.YtfepcpcnfibbnaaDoor.Rows.uptoBulk]
  | .ptr d => by simp [tOf, T.size, T.sizes, Go.Proofs.YtfepcpcnfibbnaaDoor.Rows.uptoBulk]
  | .slice es sp => by
    have := size_bulks es
    simp only [tOf, T.size, Go.Proofs.YtfepcpcnfibbnaaDoor.Rows.uptoBulk]
    omega
  | .agg ps => by
    have := size_bulks ps
    simp only [tOf, T.size, Go.Proofs.YtfepcpcnfibbnaaDoor.Rows.uptoBulk]
    omega
  | .iface _ d => by simp [tOf, T.size, T.sizes, Go.Proofs.YtfepcpcnfibbnaaDoor.Rows.uptoBulk]
  | .map _ => by simp [tOf, T.size, T.sizes, Go.Proofs.YtfepcpcnfibbnaaDoor.Rows.uptoBulk]
  | .held _ => by simp [tOf, T.size, T.sizes, Go.Proofs.YtfepcpcnfibbnaaDoor.Rows.uptoBulk]
theorem size_bulks : ∀ ds : List (DataW H), T.sizes (tOfs ds) ≤ Go.Proofs.YtfepcpcnfibbnaaDoor.Rows.uptoBulkAll ds
  | [] => by simp [tOfs, T.sizes, Go.Proofs.YtfepcpcnfibbnaaDoor.Rows.uptoBulkAll]
  | d :: ds => by
    have := size_bulk d
    have := size_bulks ds
    simp only [tOfs, T.sizes, Go.Proofs.YtfepcpcnfibbnaaDoor.Rows.uptoBulkAll]
    omega
end
theorem small_size {ds : List (DataW H)} (h : Go.Proofs.YtfepcpcnfibbnaaDoor.Rows.uptoSmall H ds = true) : T.sizes (tOfs ds) ≤ 1048576 := by
  unfold Go.Proofs.YtfepcpcnfibbnaaDoor.Rows.uptoSmall at h
  have := size_bulks ds
  have := of_decide_eq_true h
  omega
end Go.Mu
set_option linter.unusedVariables false
set_option linter.unusedSimpArgs false
set_option maxRecDepth 100000
namespace Go.Proofs
open Go.Shelf
theorem Tryd.uRen_260 : Lays.n260 Tryd.prog Tryd.uRen := { Tryd.uRen_197 with }
theorem Tryd.u8Extra : U8Extra Tryd.prog Tryd.uRen where
  n3 := by kernel_rfl
  n4 := by kernel_rfl
  y3 := by kernel_rfl
  y4 := by kernel_rfl
  c5 := by kernel_rfl
  c119 := by kernel_rfl
  c138 := by kernel_rfl
end Go.Proofs
namespace Go.Mu
open Go Go.Proofs
theorem tabs_glob {W : World} {laid : List (String × DataW Unit)} (hl : laidMet Tryd.prog laid W) (h1 : ("unicode/utf8.first", Lib.firstData) ∈ laid) (h2 : ("unicode/utf8.acceptRanges", Lib.acceptData) ∈ laid) : ∀ g cells, gvals g = some cells → RepP W (oldB W) (.rptr cells) (.pointer (some ⟨g, 0, none⟩)) := by
  have hT : Lib.Utf8Tabs 1 2 W := utf8Tabs_of_reads Tryd.uRen_260 Tryd.u8Extra (Lib.laidMet.reads hl h1) (Lib.laidMet.reads hl h2)
  obtain ⟨t1, t2⟩ := hT
  have lt : ∀ {g j v}, W.cell? ⟨g, j, none⟩ = some v → oldB W g := fun {g j v} h => by
    show g < W.heap.size
    unfold World.cell? at h
    by_cases hlt : g < W.heap.size
    · exact hlt
    · have hle : W.heap.size ≤ (Addr.mk g j none).block := by show W.heap.size ≤ g; omega
      rw [Array.getElem?_eq_none hle] at h
      simp at h
  intro g cells hg
  unfold gvals at hg
  split at hg
  · rename_i e
    have e : g = 1 := by simpa using e
    subst e
    simp only [Option.some.injEq] at hg
    subst hg
    refine .rptr _ _ 0 (fun j => .int .u8 (Lib.firstT j)) (lt (t1 0 (by omega))) (fun j hj => ?_) (fun j hj => ?_)
    · simp only [List.length_map, List.length_range] at hj
      rw [Nat.zero_add]
      exact ⟨t1 j hj, rfl⟩
    · simp only [List.length_map, List.length_range] at hj
      rw [List.getD_eq_getElem?_getD, List.getElem?_map, List.getElem?_range hj]
      exact .int _ _
  · split at hg
    · rename_i e
      have e : g = 2 := by simpa using e
      subst e
      simp only [Option.some.injEq] at hg
      subst hg
      refine .rptr _ _ 0 (fun j => .int .u8 ((if j % 2 = 0 then Lib.accLo (j / 2) else Lib.accHi (j / 2) : Nat) : Int)) (lt (t2 0 (by omega)).1) (fun j hj => ?_) (fun j hj => ?_)
      · simp only [List.length_map, List.length_range] at hj
        rw [Nat.zero_add]
        refine ⟨?_, rfl⟩
        have h3 := t2 (j / 2) (by omega)
        by_cases hp : j % 2 = 0
        · rw [if_pos hp]
          have : 2 * (j / 2) = j := by omega
          rw [this] at h3
          exact h3.1
        · rw [if_neg hp]
          have : 2 * (j / 2) + 1 = j := by omega
          rw [this] at h3
          exact h3.2
      · simp only [List.length_map, List.length_range] at hj
        rw [List.getD_eq_getElem?_getD, List.getElem?_map, List.getElem?_range hj]
        simp only [Option.map_some, Option.getD_some]
        split <;> exact .int _ _
    · cases hg
end Go.Mu
