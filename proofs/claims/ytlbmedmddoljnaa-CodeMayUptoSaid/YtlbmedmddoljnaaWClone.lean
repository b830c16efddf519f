/-
  What slices.Clone makes of texts, and of arguments.
-/
import Derived.Test.YtlbmedmddoljnaaMuMelt
import Derived.Test.YtlbmedmddoljnaaPSameR
import Derived.Test.YtlbmedmddoljnaaProg
import Derived.KernelRfl
set_option linter.unusedVariables false
set_option linter.unusedSimpArgs false
set_option maxRecDepth 100000
namespace Go.Mu
open Go Go.Proofs
section
variable {P : Program} {w w' : World} {E E' : Env} {H H' : Heap}
/-- an empty slice is nil, or not -/
theorem CallOK.split0 {f : FuncId} {full : Bool} {row : Nat → List AVal} {o : Out} (h1 : CallOK P f [.nilS] H o) (h2 : CallOK P f [.nonS] H o) : CallOK P f [.list full 0 row] H o := by
  intro w E cs sim hl hr
  obtain ⟨a, cap, e, _⟩ := rep_list (hr 0 (by simp))
  have go : ∀ v : AVal, Rep w E H v (cs.getD 0 undef) → ∀ j, j < [v].length → Rep w E H ([v].getD j .undef) (cs.getD j undef) := fun v hv j hj => by
    have : j = 0 := by simpa using hj
    subst this; exact hv
  cases a with
  | none => exact h1 w E cs sim hl (go _ (by rw [e]; exact .pure _ _ (.nilS cap)))
  | some ad => exact h2 w E cs sim hl (go _ (by rw [e]; exact .pure _ _ (.nonS ad cap)))
/-- nil as an array of its own, without a block -/
theorem CallOK.ghost {f : FuncId} {xs : List AVal} {r : Nat → List AVal} {sz : Nat} (h : CallOK P f xs H (.ret (.list true 0 r) H')) (hsz : 0 < sz) : CallOK P f xs H (.ret (.own H'.length 0 0 0 false) (H' ++ [.arr sz [] 0])) := by
  intro w E cs sim hlen hr
  refine Calls.mono (h w E cs sim hlen hr) (fun e w' hp => ?_)
  cases e with
  | panicked _ => exact hp.elim
  | outgrown => exact hp.elim
  | returned c =>
    obtain ⟨E', ev, s, hrep⟩ := hp
    obtain ⟨a, cap, rfl, hle, hfull, _⟩ := rep_list hrep
    obtain rfl := hfull rfl
    have hl : ∀ k, live (pushEnv E' H'.length 0 0) (H' ++ [.arr sz [] 0]) k → live E' H' k ∧ k < H'.length := by
      intro k hk
      rcases live_append hk with h | rfl
      · exact h
      · rcases hk with hk | ⟨_, hk⟩
        · simp [isVar] at hk
        · simp [pushEnv] at hk
    have φe : ∀ k, k < H'.length → (pushEnv E' H'.length 0 0).φ k = E'.φ k := fun k hk => by simp only [pushEnv]; rw [upd_other _ _ (by omega)]
    have ce : ∀ k, k < H'.length → (pushEnv E' H'.length 0 0).cap k = E'.cap k := fun k hk => by simp only [pushEnv]; rw [upd_other _ _ (by omega)]
    have e1 : Evo No w' E' H' w' (pushEnv E' H'.length 0 0) (H' ++ [.arr sz [] 0]) := by
      refine ⟨Nat.le_refl _, fun _ _ _ _ => rfl, fun b hb => ⟨hb, rfl⟩, fun b hb => .inl hb, fun k hk => ?_, fun k sz u hk => ?_, fun k hk => ?_, by simp, rfl, rfl, rfl⟩
      · have := isVar_lt hk
        exact ⟨by rw [isVar_append this]; exact hk, φe k this⟩
      · have := arrInfo_lt hk
        exact ⟨u, by rw [arrInfo_append this]; exact hk, Nat.le_refl _, fun _ => ⟨ce k this, fun _ => φe k this⟩⟩
      · obtain ⟨h1, h2⟩ := hl k hk
        exact .inr ⟨h1, φe k h2⟩
    have hs := e1.sees
    have hcap : (pushEnv E' H'.length 0 0).cap H'.length = 0 := by simp [pushEnv]
    refine ⟨_, ev.trans e1 (fun x hx => hx.elim), ?_, .own _ _ _ _ _ _ _ sz 0 (by simp [arrInfo]) (Nat.le_refl _) (fun _ => ⟨Nat.le_refl _, fun _ => rfl, fun _ _ => hcap.symm, Nat.zero_le _, fun hc => absurd hcap hc⟩)⟩
    refine ⟨s.immLt, fun k cs hc => ?_, fun k sz' rows u hc => ?_, fun k hk => ?_, fun k l hk hl' he => ?_⟩
    · rcases Nat.lt_or_ge k H'.length with g | g
      · rw [List.getElem?_append_left g] at hc
        rw [φe k g]
        exact (s.var k cs hc).mono hs rfl
      · have hk : k = H'.length := by have := get_lt hc; simp at this; omega
        subst hk; simp at hc
    · rcases Nat.lt_or_ge k H'.length with g | g
      · rw [List.getElem?_append_left g] at hc
        rw [φe k g, ce k g]
        obtain ⟨h1, h2, h3, h4⟩ := s.arr k sz' rows u hc
        exact ⟨h1, h2, h3, fun hcap => (h4 hcap).mono hs rfl⟩
      · have hk : k = H'.length := by have := get_lt hc; simp at this; omega
        subst hk
        simp only [List.getElem?_append_right (Nat.le_refl _), Nat.sub_self, List.getElem?_cons_zero, Option.some.injEq, Obj.arr.injEq] at hc
        obtain ⟨rfl, rfl, rfl⟩ := hc
        exact ⟨hsz, Nat.zero_le _, fun r hr => by simp at hr, fun hcap => by simp [pushEnv] at hcap⟩
    · obtain ⟨h1, h2⟩ := hl k hk
      rw [φe k h2]; exact s.apart k h1
    · obtain ⟨h1, h2⟩ := hl k hk
      obtain ⟨g1, g2⟩ := hl l hl'
      rw [φe k h2, φe l g2] at he
      exact s.inj k l h1 g1 he
theorem freezeW {H : Heap} {k sz off len u d : Nat} {clip : Bool} {rows rows' : List (List AVal)} (hk : H[k]? = some (.arr sz rows u)) (hl : off + len ≤ rows.length) (hr : ((rows.drop off).take len).mapM (fun r => r.mapM (freezeV H d)) = some rows') : freezeV H (d + 1) (.own k off len u clip) = some (.list false len (fun i => rows'.getD i [])) := by
  unfold freezeV
  simp only [hk]
  rw [if_pos (by simp [hl]), hr]
theorem freeze_pures (H : Heap) (d : Nat) : ∀ rows : List (List AVal), (∀ r ∈ rows, r.mapM (freezeV H (d + 1)) = some r) → rows.mapM (fun r => r.mapM (freezeV H (d + 1))) = some rows
  | [], _ => rfl
  | r :: rows, h => by
    have ih := freeze_pures H d rows (fun x hx => h x (by simp [hx]))
    rw [List.mapM_cons, h r (by simp), ih]
    rfl
end
/- of texts -/
def rowsE {α : Type} (E : α → List AVal) (l : List α) : List (List AVal) := l.map E
theorem range_rows {α : Type} (E : α → List AVal) (d : α) (l : List α) : (List.range l.length).map (fun i => E (l.getD i d)) = rowsE E l := by
  conv => rhs; rw [← range_getD l d]
  simp [rowsE]
theorem clS_fun (full : Bool) (n : Nat) (row : Nat → List AVal) (k : Out → Ans) : iFun Try.prog (Lay.nil.hd Try.prog) Lay.nil.fhs 0 88 [.list full (n + 1) row] [] k =
    cond ((decide ((row 0).length = 1) || n + 1 == 0) && true && (decide (0 < ((List.range (n + 1)).map row).length) || true) && decide ((2 * (0 + ((List.range (n + 1)).map row).length) + 1000) * 16 ≤ 281474976710656))
      (k (.ret (.own 0 0 (0 + ((List.range (n + 1)).map row).length) 0 false) [.arr 1 ((List.range (n + 1)).map row) 0])) none := by kernel_rfl
theorem clS0_nil (k : Out → Ans) : iFun Try.prog (Lay.nil.hd Try.prog) Lay.nil.fhs 0 88 [.nilS] [] k = k (.ret nilList []) := by kernel_rfl
theorem clS0_non (k : Out → Ans) : iFun Try.prog (Lay.nil.hd Try.prog) Lay.nil.fhs 0 88 [.nonS] [] k = k (.ret (.own 0 0 0 0 false) [.arr 1 [] 0]) := by kernel_rfl
theorem clS_ok (full : Bool) (l : List (List UInt8)) (hl : l.length ≤ 1099511627776) : CallOK Try.prog 88 [encSs full l] [] (.ret (encSs false l) []) := by
  cases l with
  | nil =>
    refine CallOK.split0 ?_ ?_
    · exact ((Lay.nil_ok.call clS0_nil).freeze (d := 2) (v' := nilList) rfl).sub (.refl _) ⟨Sub.list (fun h => by cases h) (fun i hi => by simp at hi), rfl⟩
    · refine ((Lay.nil_ok.call clS0_non).freeze (d := 2) (v' := .list false 0 (fun i => ([] : List (List AVal)).getD i [])) ?_).sub (.refl _) ⟨Sub.list (fun h => by cases h) (fun i hi => by simp at hi), rfl⟩
      rfl
  | cons s l =>
    have e0 : (List.range (l.length + 1)).map (fun i => encS ((s :: l).getD i [])) = rowsE encS (s :: l) := range_rows encS [] (s :: l)
    have h1 : CallOK Try.prog 88 [encSs full (s :: l)] [] (.ret (.own 0 0 (0 + (rowsE encS (s :: l)).length) 0 false) [.arr 1 (rowsE encS (s :: l)) 0]) := Lay.nil_ok.call (fun k => by
      have := clS_fun full l.length (fun i => encS ((s :: l).getD i [])) k
      rw [e0] at this
      refine this.trans ?_
      have e1 : (rowsE encS (s :: l)).length = l.length + 1 := by simp [rowsE]
      simp only [List.length_cons] at hl
      rw [e1, decide_eq_true (show (2 * (0 + (l.length + 1)) + 1000) * 16 ≤ 281474976710656 by omega), decide_eq_true (show 0 < l.length + 1 by omega)]
      rfl)
    refine (h1.freeze (d := 3) (v' := .list false (0 + (rowsE encS (s :: l)).length) (fun i => (rowsE encS (s :: l)).getD i [])) ?_).sub (.refl _) ⟨?_, rfl⟩
    · exact freezeW (H := [.arr 1 (rowsE encS (s :: l)) 0]) rfl (by omega) (by
        rw [List.drop_zero, Nat.zero_add, List.take_of_length_le (Nat.le_refl _)]
        exact freeze_pures _ 1 _ (fun r hr => by
          obtain ⟨x, _, rfl⟩ := List.mem_map.1 hr
          rfl))
    · have e1 : 0 + (rowsE encS (s :: l)).length = (s :: l).length := by simp [rowsE]
      rw [e1]
      refine Sub.list (fun h => h) (fun i hi => ?_)
      have : (rowsE encS (s :: l)).getD i [] = encS ((s :: l).getD i []) := by
        simp only [rowsE, List.getD_eq_getElem?_getD, List.getElem?_map, List.getElem?_eq_getElem hi, Option.map_some, Option.getD_some]
      rw [this]; exact .refl _
def clSTold : FSp := fun xs H k => match xs, H with
  | [x], [] => cond (wfL wfS x && decide (lenL x ≤ 1099511627776)) (k (.ret (encSs false (decL decS x)) [])) none
  | _, _ => none
theorem clSTold_ok (xs : List AVal) (H : Heap) (k : Out → Ans) (out : Out) (ho : clSTold xs H k = some out) : ∃ o, CallOK Try.prog 88 xs H o ∧ k o = some out := by
  unfold clSTold at ho
  split at ho
  · rename_i x
    rw [Bool.cond_eq_ite] at ho
    split at ho
    · rename_i hc
      simp only [Bool.and_eq_true, decide_eq_true_eq] at hc
      have hn := hc.2
      rw [← lenL_decL (g := decS) hc.1] at hn
      exact ⟨_, (clS_ok (fullOf x) _ hn).subArgs (.cons (sub_encL hc.1 wfS_sub) .nil), ho⟩
    · simp at ho
  · simp at ho
/- of arguments, in the heap -/
theorem clA_fun (full : Bool) (n : Nat) (row : Nat → List AVal) (X : Obj) (k : Out → Ans) : iFun Try.prog (Lay.nil.hd Try.prog) Lay.nil.fhs 0 87 [.list full (n + 1) row] [X] k =
    cond ((decide ((row 0).length = 5) || n + 1 == 0) && true && (decide (0 < ((List.range (n + 1)).map row).length) || true) && decide ((2 * (0 + ((List.range (n + 1)).map row).length) + 1000) * 72 ≤ 281474976710656))
      (k (.ret (.own 1 0 (0 + ((List.range (n + 1)).map row).length) 0 false) ([X, .arr 5 ((List.range (n + 1)).map row) 0]))) none := by kernel_rfl
theorem clA0_nil (X : Obj) (k : Out → Ans) : iFun Try.prog (Lay.nil.hd Try.prog) Lay.nil.fhs 0 87 [.nilS] [X] k = k (.ret nilList [X]) := by kernel_rfl
theorem clA0_non (X : Obj) (k : Out → Ans) : iFun Try.prog (Lay.nil.hd Try.prog) Lay.nil.fhs 0 87 [.nonS] [X] k = k (.ret (.own 1 0 0 0 false) [X, .arr 5 [] 0]) := by kernel_rfl
theorem clA_ok (full : Bool) (l : List ArgD) (X : Obj) (hl : l.length ≤ 1073741824) : CallOK Try.prog 87 [encAs full l] [X] (.ret (.own 1 0 l.length 0 false) [X, .arr 5 (rowsE encArg l) 0]) := by
  cases l with
  | nil => exact CallOK.split0 (CallOK.ghost (Lay.nil_ok.call (clA0_nil X)) (by omega)) (Lay.nil_ok.call (clA0_non X))
  | cons s l =>
    have e0 : (List.range (l.length + 1)).map (fun i => encArg ((s :: l).getD i argD0)) = rowsE encArg (s :: l) := range_rows encArg argD0 (s :: l)
    refine Lay.nil_ok.call (fun k => ?_)
    have := clA_fun full l.length (fun i => encArg ((s :: l).getD i argD0)) X k
    rw [e0] at this
    refine this.trans ?_
    have e1 : (rowsE encArg (s :: l)).length = l.length + 1 := by simp [rowsE]
    simp only [List.length_cons] at hl ⊢
    rw [e1, decide_eq_true (show (2 * (0 + (l.length + 1)) + 1000) * 72 ≤ 281474976710656 by omega), decide_eq_true (show 0 < l.length + 1 by omega), Nat.zero_add]
    rfl
noncomputable def clATold : FSp := fun xs H k => match xs, H with
  | [x], [X] => cond (tst (x = encAs (fullOf x) (decL decArg x) ∧ (decL decArg x).length ≤ 1073741824)) (k (.ret (.own 1 0 (decL decArg x).length 0 false) [X, .arr 5 (rowsE encArg (decL decArg x)) 0])) none
  | _, _ => none
theorem clATold_ok (xs : List AVal) (H : Heap) (k : Out → Ans) (out : Out) (ho : clATold xs H k = some out) : ∃ o, CallOK Try.prog 87 xs H o ∧ k o = some out := by
  unfold clATold at ho
  split at ho
  · rename_i x X
    rw [Bool.cond_eq_ite] at ho
    split at ho
    · rename_i hc
      obtain ⟨hx, hn⟩ := of_tst hc
      generalize fullOf x = full at hx
      generalize decL decArg x = l at hx hn ho
      subst hx
      exact ⟨_, clA_ok full l X hn, ho⟩
    · simp at ho
  · simp at ho
end Go.Mu
