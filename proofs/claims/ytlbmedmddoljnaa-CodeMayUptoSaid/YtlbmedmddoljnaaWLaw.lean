/-
  code.Code, told.
-/
import Derived.Test.YtlbmedmddoljnaaWCode
import Derived.Test.YtlbmedmddoljnaaCodeLaw
set_option linter.unusedVariables false
set_option linter.unusedSimpArgs false
set_option maxRecDepth 100000
namespace Go.Mu
open Go Go.Proofs
/-- units whose code is told -/
def okUb (d : Nat) (l : List UnD) : Prop := okUs d l ∧ (l.map (fun u => 1 + cntW d u.body)).sum ≤ 1073741824
/-- the code -/
def codeR (d : Nat) (l : List UnD) : CodeD := cond (execE d l == 0) ⟨false, (codeM d l [] []).2, false, (codeM d l [] []).1⟩ ⟨false, [], false, []⟩
abbrev dd (u : UnD) : UnD := decUn (encUn u)
theorem codeM_dd (d : Nat) : ∀ (l : List UnD) (us : List Int) (ops : List OpD), codeM d (l.map dd) us ops = codeM d l us ops
  | [], us, ops => rfl
  | u :: l, us, ops => codeM_dd d l _ _
theorem execE_dd (d : Nat) (full : Bool) (l : List UnD) : execE d (unitsU (encUns full l)) = execE d l := by
  unfold execE
  rw [any_units full l (deep d) (fun u => rfl), any_units full l (badU d _) (fun u => rfl), unitsU_enc, List.length_map]
theorem okUb_dd {d : Nat} {full : Bool} {l : List UnD} (h : okUb d l) : okUb d (unitsU (encUns full l)) := by
  rw [unitsU_enc]
  refine ⟨⟨by rw [List.length_map]; exact h.1.1, fun u hu => ?_⟩, ?_⟩
  · obtain ⟨v, hv, rfl⟩ := List.mem_map.1 hu
    exact h.1.2 v hv
  · rw [List.map_map]
    exact h.2
theorem codeR_ok {d : Nat} {full : Bool} {l : List UnD} (h : okUb d l) : CallOK Try.prog 18 [encUns full l] [] (.ret (.tuple [.agg (encCode (codeR d l)), .int .i64 (execE d l)]) []) := by
  have hu := okUb_dd (full := full) h
  have e1 := execE_dd d full l
  have e2 : codeM d (unitsU (encUns full l)) [] [] = codeM d l [] [] := by rw [unitsU_enc]; exact codeM_dd d l [] []
  have el : lenL (encUns full l) = l.length := rfl
  cases he : execE d l == 0 with
  | false =>
    have h1 : CallOK Try.prog 18 [encUns full l] [] (.ret (.tuple [.agg [nilList, nilList], .int .i64 (execE d l)]) []) := (layCd1_ok d).call (fun k => by
      rw [cd_fun, e1, tst_true ⟨wf_units full l, hu.1⟩, bne, he]; rfl)
    unfold codeR
    rw [he]
    refine h1.sub (.refl _) ⟨Sub.tuple (.cons (Sub.agg ?_) (.cons (.refl _) .nil)), rfl⟩
    exact .cons (Sub.list (fun h => by cases h) (fun i hi => by simp at hi)) (.cons (Sub.list (fun h => by cases h) (fun i hi => by simp at hi)) .nil)
  | true =>
    have hne : unitsU (encUns full l) ≠ [] := fun hn => by
      rw [unitsU_enc, List.map_eq_nil_iff] at hn
      subst hn
      simp [execE] at he
    have e0 : execE d l = 0 := by simpa using he
    have h1 : CallOK Try.prog 18 [encUns full l] [] (.ret (.tuple [.agg [.own 2 0 (codeM d l [] []).2.length ((codeM d l [] []).2.length - 1) false, .own 1 0 (codeM d l [] []).1.length ((codeM d l [] []).1.length - 1) false], .int .i64 0]) (HwN (Uu (codeM d l [] []).1) (codeM d l [] []).2)) := (layCd1_ok d).call (fun k => by
      rw [cd_fun, e1, tst_true ⟨wf_units full l, hu.1⟩, bne, he, tst_true ⟨rfl, rfl, rfl, wf_units full l, hu.1, hne, hu.2, by rw [el], rfl⟩]
      unfold cR
      rw [e2]; rfl)
    unfold codeR
    rw [he, e0]
    generalize codeM d l [] [] = c at *
    obtain ⟨us, ops⟩ := c
    simp only at h1 ⊢
    have lo : (rowsE encOp ops).length = ops.length := by simp [rowsE]
    have lu : (rowsE encI us).length = us.length := by simp [rowsE]
    have f1 : freezeV (HwN (Uu us) ops) 3 (.own 2 0 ops.length (ops.length - 1) false) = some (.list false ops.length (fun i => (rowsE encOp ops).getD i [])) :=
      freezeW (H := HwN (Uu us) ops) rfl (by rw [lo]; omega) (by
        rw [List.drop_zero, ← lo, List.take_length]
        exact freeze_pures _ 1 _ (fun r hr => by
          obtain ⟨x, _, rfl⟩ := List.mem_map.1 hr
          rfl))
    have f2 : freezeV (HwN (Uu us) ops) 3 (.own 1 0 us.length (us.length - 1) false) = some (.list false us.length (fun i => (rowsE encI us).getD i [])) :=
      freezeW (H := HwN (Uu us) ops) rfl (by rw [lu]; omega) (by
        rw [List.drop_zero, ← lu, List.take_length]
        exact freeze_pures _ 1 _ (fun r hr => by
          obtain ⟨x, _, rfl⟩ := List.mem_map.1 hr
          rfl))
    have f3 : freezeV (HwN (Uu us) ops) 4 (.agg [.own 2 0 ops.length (ops.length - 1) false, .own 1 0 us.length (us.length - 1) false]) = some (.agg [.list false ops.length (fun i => (rowsE encOp ops).getD i []), .list false us.length (fun i => (rowsE encI us).getD i [])]) := by
      unfold freezeV
      simp only [List.mapM_cons, List.mapM_nil, f1, f2]
      rfl
    have f4 : freezeV (HwN (Uu us) ops) 5 (.tuple [.agg [.own 2 0 ops.length (ops.length - 1) false, .own 1 0 us.length (us.length - 1) false], .int .i64 0]) = some (.tuple [.agg [.list false ops.length (fun i => (rowsE encOp ops).getD i []), .list false us.length (fun i => (rowsE encI us).getD i [])], .int .i64 0]) := by
      unfold freezeV
      simp only [List.mapM_cons, List.mapM_nil, f3]
      rfl
    refine (h1.freeze (d := 5) f4).sub (.refl _) ⟨Sub.tuple (.cons (Sub.agg ?_) (.cons (.refl _) .nil)), rfl⟩
    refine .cons (Sub.list (fun h => h) (fun i hi => ?_)) (.cons (Sub.list (fun h => h) (fun i hi => ?_)) .nil)
    · have : (rowsE encOp ops).getD i [] = encOp (ops.getD i opD0) := by
        simp only [rowsE, List.getD_eq_getElem?_getD, List.getElem?_map, List.getElem?_eq_getElem hi, Option.map_some, Option.getD_some]
      rw [this]; exact .refl _
    · have : (rowsE encI us).getD i [] = encI (us.getD i 0) := by
        simp only [rowsE, List.getD_eq_getElem?_getD, List.getElem?_map, List.getElem?_eq_getElem hi, Option.map_some, Option.getD_some]
      rw [this]; exact .refl _
noncomputable def codeTold (d : Nat) : FSp := fun xs H k => match xs, H with
  | [x], [] => cond (tst (wfL wfUn x = true ∧ okUb d (unitsU x))) (k (.ret (.tuple [.agg (encCode (codeR d (unitsU x))), .int .i64 (execE d (unitsU x))]) [])) none
  | _, _ => none
theorem codeTold_ok (d : Nat) (xs : List AVal) (H : Heap) (k : Out → Ans) (out : Out) (ho : codeTold d xs H k = some out) : ∃ o, CallOK Try.prog 18 xs H o ∧ k o = some out := by
  unfold codeTold at ho
  split at ho
  · rename_i x
    rw [Bool.cond_eq_ite] at ho
    split at ho
    · rename_i hc
      obtain ⟨hx, hok⟩ := of_tst hc
      exact ⟨_, (codeR_ok (full := fullOf x) hok).subArgs (.cons (sub_encL hx wfUn_sub) .nil), ho⟩
    · simp at ho
  · simp at ho
noncomputable def layCm (d : Nat) : Lay := ((Lay.nil.addF 17 alive42Told).addF 18 (codeTold d)).addF 20 codeChkTold
theorem layCm_ok (d : Nat) : (layCm d).OK Try.prog := ((Lay.nil_ok.addF alive42Told_ok).addF (codeTold_ok d)).addF codeChkTold_ok
end Go.Mu
/-
  A code made of units that may be may be: in plain Lean.
-/
namespace Go.Mu
open Go Go.Proofs
theorem callB_cp (c : CallD) (b : Bool) : callB (cpCall c) b = callB c b := by
  have e1 : (cpCall c).args.length = c.args.length := by simp [cpCall]
  have e2 : cBad (cpCall c) = cBad c := by
    unfold cBad cpCall
    simp only
    rw [List.any_map]
    rfl
  unfold callB cCnt
  rw [e1, e2]
  rfl
theorem pipeB_cp (l : List CallD) : pipeB (l.map cpCall) = pipeB l := by
  unfold pipeB
  rw [List.length_map]
  congr 2
  rw [Bool.eq_iff_iff, List.any_eq_true, List.any_eq_true]
  have key : ∀ i ∈ List.range l.length, cHit (l.map cpCall) i = cHit l i := fun i hi => by
    have hi := List.mem_range.1 hi
    unfold cHit
    have : (l.map cpCall).getD i callD0 = cpCall (l.getD i callD0) := by
      simp only [List.getD_eq_getElem?_getD, List.getElem?_map, List.getElem?_eq_getElem hi, Option.map_some, Option.getD_some]
    rw [this, callB_cp]
  exact ⟨fun ⟨i, h1, h2⟩ => ⟨i, h1, by rw [← key i h1]; exact h2⟩, fun ⟨i, h1, h2⟩ => ⟨i, h1, by rw [key i h1]; exact h2⟩⟩
theorem opB_cp (x : OpD) (m nu : Int) : opB (cpOp x) m nu = opB x m nu := by
  unfold opB cpOp
  simp only [pipeB_cp, List.length_map]
theorem opB_mono {x : OpD} {m m' nu : Int} (h : opB x m nu = true) (hm : m ≤ m') : opB x m' nu = true := by
  unfold opB at *
  have key : decide (x.a < m) = true → decide (x.a < m') = true := fun h => decide_eq_true (by have := of_decide_eq_true h; omega)
  generalize (x.kind == 1) = b1 at h ⊢
  generalize (x.kind == 7) = b2 at h ⊢
  generalize (x.kind == 11) = b3 at h ⊢
  generalize (x.kind == 2) = b4 at h ⊢
  generalize (x.kind == 3) = b5 at h ⊢
  generalize (x.kind == 4 || x.kind == 5 || x.kind == 6) = b6 at h ⊢
  generalize (x.kind == 8 || x.kind == 9) = b7 at h ⊢
  generalize decide (x.a < m) = c1 at h key
  generalize decide (x.a < m') = c2 at key ⊢
  cases b1 <;> cases b2 <;> cases b3 <;> cases b4 <;> cases b5 <;> cases b6 <;> cases b7 <;> simp only [cond_true, cond_false, Bool.and_eq_true] at h ⊢ <;> first | exact h | exact ⟨h.1, h.2.1, key h.2.2⟩ | exact ⟨h.1, key h.2⟩
theorem okPipe_cp {l : List CallD} (h : okPipe l) : okPipe (l.map cpCall) := by
  refine ⟨by rw [List.length_map]; exact h.1, fun c hc => ?_⟩
  obtain ⟨x, hx, rfl⟩ := List.mem_map.1 hc
  have hk := h.2 x hx
  refine ⟨by simp only [cpCall, List.length_map]; exact hk.1, fun a ha => ?_, hk.2.2⟩
  simp only [cpCall] at ha
  obtain ⟨y, hy, rfl⟩ := List.mem_map.1 ha
  exact hk.2.1 y hy
/-- steps that may be, where places may be the end -/
def AllB (nu : Int) (ops : List OpD) : Prop := ∀ op ∈ ops, opB op ((ops.length : Int) + 1) nu = true ∧ okPipe op.pipe
structure Good (nu : Int) (f : List OpD → List OpD) : Prop where
  len : ∀ ops, ops.length ≤ (f ops).length
  ok : ∀ ops, AllB nu ops → AllB nu (f ops)
  kind : ∀ ops i, i < ops.length → ((f ops).getD i opD0).kind = (ops.getD i opD0).kind
theorem Good.comp {nu : Int} {f g : List OpD → List OpD} (hf : Good nu f) (hg : Good nu g) : Good nu (fun ops => g (f ops)) :=
  ⟨fun ops => Nat.le_trans (hf.len ops) (hg.len _), fun ops h => hg.ok _ (hf.ok _ h), fun ops i hi => by rw [hg.kind _ i (Nat.lt_of_lt_of_le hi (hf.len ops)), hf.kind _ i hi]⟩
theorem Good.id (nu : Int) : Good nu (fun ops => ops) := ⟨fun _ => Nat.le_refl _, fun _ h => h, fun _ _ _ => rfl⟩
theorem putM_all {nu : Int} {ops : List OpD} {x : OpD} (h : AllB nu ops) (hx : opB x ((ops.length : Int) + 1) nu = true) (hp : okPipe x.pipe) : AllB nu (putM ops x) := by
  intro op ho
  rw [putM_len]
  rcases List.mem_append.1 ho with h1 | h1
  · exact ⟨opB_mono (h op h1).1 (by omega), (h op h1).2⟩
  · obtain rfl := List.mem_singleton.1 h1
    exact ⟨by rw [opB_cp]; exact opB_mono hx (by omega), okPipe_cp hp⟩
theorem putM_kind {ops : List OpD} {x : OpD} {i : Nat} (hi : i < ops.length) : ((putM ops x).getD i opD0).kind = (ops.getD i opD0).kind := by
  unfold putM
  rw [List.getD_eq_getElem?_getD, List.getD_eq_getElem?_getD, List.getElem?_append_left hi]
theorem putM_at {ops : List OpD} {x : OpD} : ((putM ops x).getD ops.length opD0).kind = x.kind := by
  unfold putM
  simp [List.getD_eq_getElem?_getD, cpOp]
theorem setA_kind {ops : List OpD} {i j : Nat} {a : Int} : ((setA ops i a).getD j opD0).kind = (ops.getD j opD0).kind := by
  unfold setA
  simp only [List.getD_eq_getElem?_getD, List.getElem?_set]
  by_cases h : i = j
  · subst h
    by_cases h2 : i < ops.length
    · simp [h2]
    · simp [h2]
  · simp [h]
theorem setA_all {nu : Int} {ops : List OpD} {i : Nat} {a : Int} (h : AllB nu ops) (hi : i < ops.length) (hk : (ops.getD i opD0).kind = 4 ∨ (ops.getD i opD0).kind = 5 ∨ (ops.getD i opD0).kind = 6 ∨ (ops.getD i opD0).kind = 8) (h0 : 0 ≤ a) (h1 : a ≤ ops.length) : AllB nu (setA ops i a) := by
  have hm : ops.getD i opD0 ∈ ops := by
    rw [List.getD_eq_getElem?_getD, List.getElem?_eq_getElem hi]; exact List.getElem_mem hi
  have hx := h _ hm
  intro op ho
  rw [setA_len]
  rcases List.mem_or_eq_of_mem_set ho with h2 | rfl
  · exact h op h2
  · generalize ops.getD i opD0 = x at *
    refine ⟨?_, hx.2⟩
    have hx1 := hx.1
    unfold opB at hx1 ⊢
    have d1 : decide (a ≥ 0) = true := decide_eq_true h0
    have d2 : decide (a < (ops.length : Int) + 1) = true := decide_eq_true (by omega)
    rcases hk with hk | hk | hk | hk <;> rw [hk] at hx1 ⊢ <;> simp only [d1, d2] <;> simp at hx1 ⊢ <;> first | exact hx1.1 | trivial
section
variable {nu : Int} {w1 w2 : List OpD → List OpD} {n : NdE}
theorem okPipe_nil : okPipe [] := ⟨Nat.zero_le _, fun c hc => (by cases hc)⟩
theorem tailM_good (h2 : Good nu w2) {h : Nat} {o3 : List OpD} (ha : AllB nu o3) (hh : h < o3.length) (hk : (o3.getD h opD0).kind = 4 ∨ (o3.getD h opD0).kind = 5 ∨ (o3.getD h opD0).kind = 6) :
    AllB nu (tailM w2 n h o3) ∧ (∀ i, i < o3.length → ((tailM w2 n h o3).getD i opD0).kind = (o3.getD i opD0).kind) := by
  have l4 := putM_len o3 ⟨7, 0, [], true, [], n.at_⟩
  have a4 : AllB nu (putM o3 ⟨7, 0, [], true, [], n.at_⟩) := putM_all ha rfl okPipe_nil
  have k4 : ∀ i, i < o3.length → ((putM o3 ⟨7, 0, [], true, [], n.at_⟩).getD i opD0).kind = (o3.getD i opD0).kind := fun i hi => putM_kind hi
  unfold tailM
  simp only
  generalize putM o3 ⟨7, 0, [], true, [], n.at_⟩ = o4 at *
  have l5 := putM_len o4 ⟨8, 0, [], true, [], n.at_⟩
  have a5 : AllB nu (putM o4 ⟨8, 0, [], true, [], n.at_⟩) := putM_all a4 (by
    show (decide ((0 : Int) ≥ 0) && decide ((0 : Int) < (o4.length : Int) + 1)) = true
    rw [decide_eq_true (show (0 : Int) < (o4.length : Int) + 1 by omega)]; rfl) okPipe_nil
  have k5 : ∀ i, i < o4.length → ((putM o4 ⟨8, 0, [], true, [], n.at_⟩).getD i opD0).kind = (o4.getD i opD0).kind := fun i hi => putM_kind hi
  have k5' : ((putM o4 ⟨8, 0, [], true, [], n.at_⟩).getD o4.length opD0).kind = 8 := putM_at
  generalize putM o4 ⟨8, 0, [], true, [], n.at_⟩ = o5 at *
  have l6 := setA_len o5 h o5.length
  have a6 : AllB nu (setA o5 h o5.length) := setA_all a5 (by omega) (by
    rw [k5 h (by omega), k4 h hh]
    rcases hk with hk | hk | hk
    · exact .inl hk
    · exact .inr (.inl hk)
    · exact .inr (.inr (.inl hk))) (by omega) (by omega)
  have k6 : ∀ i, ((setA o5 h o5.length).getD i opD0).kind = (o5.getD i opD0).kind := fun i => setA_kind
  generalize setA o5 h o5.length = o6 at *
  have l7 := h2.len o6
  have a7 := h2.ok o6 a6
  have k7 := h2.kind o6
  generalize w2 o6 = o7 at *
  have l8 := putM_len o7 ⟨7, 0, [], true, [], n.at_⟩
  have a8 : AllB nu (putM o7 ⟨7, 0, [], true, [], n.at_⟩) := putM_all a7 rfl okPipe_nil
  have k8 : ∀ i, i < o7.length → ((putM o7 ⟨7, 0, [], true, [], n.at_⟩).getD i opD0).kind = (o7.getD i opD0).kind := fun i hi => putM_kind hi
  generalize putM o7 ⟨7, 0, [], true, [], n.at_⟩ = o8 at *
  refine ⟨setA_all a8 (by omega) (.inr (.inr (.inr ?_))) (by omega) (by omega), fun i hi => ?_⟩
  · rw [k8 _ (by omega), k7 _ (by omega), k6, k5']
  · rw [setA_kind, k8 i (by omega), k7 i (by omega), k6, k5 i (by omega), k4 i hi]
theorem tailM_kind (h2 : Good nu w2) {h : Nat} {o3 : List OpD} {i : Nat} (hi : i < o3.length) : ((tailM w2 n h o3).getD i opD0).kind = (o3.getD i opD0).kind := by
  unfold tailM
  simp only
  have l4 := putM_len o3 ⟨7, 0, [], true, [], n.at_⟩
  have l5 := putM_len (putM o3 ⟨7, 0, [], true, [], n.at_⟩) ⟨8, 0, [], true, [], n.at_⟩
  have l6 := setA_len (putM (putM o3 ⟨7, 0, [], true, [], n.at_⟩) ⟨8, 0, [], true, [], n.at_⟩) h (putM (putM o3 ⟨7, 0, [], true, [], n.at_⟩) ⟨8, 0, [], true, [], n.at_⟩).length
  have l7 := h2.len (setA (putM (putM o3 ⟨7, 0, [], true, [], n.at_⟩) ⟨8, 0, [], true, [], n.at_⟩) h (putM (putM o3 ⟨7, 0, [], true, [], n.at_⟩) ⟨8, 0, [], true, [], n.at_⟩).length)
  rw [setA_kind, putM_kind (by omega), h2.kind _ i (by omega), setA_kind, putM_kind (by omega), putM_kind hi]
theorem blockM_good (h1 : Good nu w1) (h2 : Good nu w2) {q : Int} (hq : q = 4 ∨ q = 5 ∨ q = 6) (hp : pipeB n.pipe = true) (hk : okPipe n.pipe) : Good nu (blockM w1 w2 q n) := by
  have key : ∀ ops, ops.length ≤ (blockM w1 w2 q n ops).length ∧ (AllB nu ops → AllB nu (blockM w1 w2 q n ops)) ∧ (∀ i, i < ops.length → ((blockM w1 w2 q n ops).getD i opD0).kind = (ops.getD i opD0).kind) := fun ops => by
    rw [blockM_tail]
    have l1 := putM_len ops ⟨q, 0, [], n.pf, n.pipe, n.at_⟩
    have a1 : AllB nu ops → AllB nu (putM ops ⟨q, 0, [], n.pf, n.pipe, n.at_⟩) := fun h => putM_all h (by
      have d0 : decide ((0 : Int) < (ops.length : Int) + 1) = true := decide_eq_true (by omega)
      unfold opB
      rcases hq with rfl | rfl | rfl <;> simp [hp, d0]) hk
    have k1 : ∀ i, i < ops.length → ((putM ops ⟨q, 0, [], n.pf, n.pipe, n.at_⟩).getD i opD0).kind = (ops.getD i opD0).kind := fun i hi => putM_kind hi
    have k1' : ((putM ops ⟨q, 0, [], n.pf, n.pipe, n.at_⟩).getD ops.length opD0).kind = q := putM_at
    generalize putM ops ⟨q, 0, [], n.pf, n.pipe, n.at_⟩ = o1 at *
    have l2 := h1.len o1
    have a2 := h1.ok o1
    have k2 := h1.kind o1
    generalize w1 o1 = o2 at *
    have l3 := putM_len o2 ⟨9, (ops.length : Int) + 1, [], true, [], n.at_⟩
    have a3 : AllB nu o2 → AllB nu (putM o2 ⟨9, (ops.length : Int) + 1, [], true, [], n.at_⟩) := fun h => putM_all h (by
      show (decide ((ops.length : Int) + 1 ≥ 0) && decide ((ops.length : Int) + 1 < (o2.length : Int) + 1)) = true
      rw [decide_eq_true (show (ops.length : Int) + 1 ≥ 0 by omega), decide_eq_true (show (ops.length : Int) + 1 < (o2.length : Int) + 1 by omega)]; rfl) okPipe_nil
    have k3 : ∀ i, i < o2.length → ((putM o2 ⟨9, (ops.length : Int) + 1, [], true, [], n.at_⟩).getD i opD0).kind = (o2.getD i opD0).kind := fun i hi => putM_kind hi
    have hq' : (o2.getD ops.length opD0).kind = 4 ∨ (o2.getD ops.length opD0).kind = 5 ∨ (o2.getD ops.length opD0).kind = 6 := by
      rw [k2 _ (by omega), k1']; exact hq
    have ln : ∀ o3, o3.length ≤ (tailM w2 n ops.length o3).length := fun o3 => by
      unfold tailM
      simp only [setA_len, putM_len]
      have := h2.len (setA (putM (putM o3 ⟨7, 0, [], true, [], n.at_⟩) ⟨8, 0, [], true, [], n.at_⟩) ops.length ((o3.length + 1 + 1 : Nat) : Int))
      simp only [setA_len, putM_len] at this
      omega
    cases q == 6
    · simp only [cond_false]
      have := ln o2
      refine ⟨by omega, fun h => (tailM_good h2 (a2 (a1 h)) (by omega) hq').1, fun i hi => ?_⟩
      -- kinds need no bound on what there is
      rw [show ((tailM w2 n ops.length o2).getD i opD0).kind = (o2.getD i opD0).kind from tailM_kind h2 (by omega), k2 i (by omega), k1 i hi]
    · simp only [cond_true]
      have := ln (putM o2 ⟨9, (ops.length : Int) + 1, [], true, [], n.at_⟩)
      refine ⟨by omega, fun h => (tailM_good h2 (a3 (a2 (a1 h))) (by omega) (by rw [k3 _ (by omega)]; exact hq')).1, fun i hi => ?_⟩
      rw [show ((tailM w2 n ops.length (putM o2 ⟨9, (ops.length : Int) + 1, [], true, [], n.at_⟩)).getD i opD0).kind = ((putM o2 ⟨9, (ops.length : Int) + 1, [], true, [], n.at_⟩).getD i opD0).kind from tailM_kind h2 (by omega), k3 i (by omega), k2 i (by omega), k1 i hi]
  exact ⟨fun ops => (key ops).1, fun ops => (key ops).2.1, fun ops => (key ops).2.2⟩
end
end Go.Mu
/-
  muslinlaw42.CodeMay answers true.
-/
namespace Go.Mu
open Go Go.Proofs
section
variable {nu : Int}
theorem put_good {x : OpD} (hx : ∀ m : Int, 1 ≤ m → opB x m nu = true) (hp : okPipe x.pipe) : Good nu (fun ops => putM ops x) :=
  ⟨fun ops => by rw [putM_len]; omega, fun ops h => putM_all h (hx _ (by omega)) hp, fun ops i hi => putM_kind hi⟩
theorem nodeM_good {w1 w2 : List OpD → List OpD} {n : NdE} {b e : Bool} (h1 : b = false → Good nu w1) (h2 : e = false → Good nu w2) (hn : nodeOk n nu b e = true) (hp : okPipe n.pipe) : Good nu (nodeM w1 w2 n) := by
  obtain ⟨kind, text, name, pf, pipe, bf, bn, br, ef, en, er, at_, esc, unit⟩ := n
  unfold nodeOk at hn
  simp only at hn hp
  have hb : b = false ∧ e = false := by
    cases b <;> cases e <;> first | exact ⟨rfl, rfl⟩ | (simp at hn)
  obtain ⟨rfl, rfl⟩ := hb
  have g1 := h1 rfl
  have g2 := h2 rfl
  have hk : 1 ≤ kind ∧ kind ≤ 7 := by
    by_cases c1 : kind < 1
    · simp [c1] at hn
    · by_cases c2 : kind > 7
      · simp [c2] at hn
      · omega
  have : kind = 1 ∨ kind = 2 ∨ kind = 3 ∨ kind = 4 ∨ kind = 5 ∨ kind = 6 ∨ kind = 7 := by omega
  unfold nodeM
  rcases this with rfl | rfl | rfl | rfl | rfl | rfl | rfl
  · exact put_good (fun m hm => rfl) okPipe_nil
  · refine put_good (fun m hm => ?_) hp
    simp at hn
    simp [opB, hn]
    try omega
  · exact blockM_good g1 g2 (.inl rfl) (by simpa using hn) hp
  · exact blockM_good g1 g2 (.inr (.inr rfl)) (by simpa using hn) hp
  · exact blockM_good g1 g2 (.inr (.inl rfl)) (by simpa using hn) hp
  · refine put_good (fun m hm => ?_) hp
    simp at hn
    simp only [opB]
    simp
    by_cases hp2 : pipe = []
    · subst hp2; simp; omega
    · simp [hp2] at hn
      simp [hn]
  · refine put_good (fun m hm => ?_) hp
    simp at hn
    simp [opB, hn]
theorem fold_good {α : Type} {f : α → List OpD → List OpD} : ∀ l : List α, (∀ n ∈ l, Good nu (f n)) → Good nu (fun ops => l.foldl (fun ops n => f n ops) ops)
  | [], _ => Good.id nu
  | n :: l, h => (h n (by simp)).comp (fold_good l (fun x hx => h x (by simp [hx])))
theorem writeM_good : ∀ (d : Nat) (x : AVal), wfW d x → badL d nu x = false → Good nu (writeM d x)
  | 0, x, _, _ => Good.id nu
  | d + 1, x, hw, hb => by
    refine fold_good (f := fun n ops => nodeM (writeM d n.body) (writeM d n.els) n ops) (nodesE x) (fun n hn => ?_)
    have hw1 := hw.2.2 n hn
    unfold badL at hb
    have hb1 := List.any_eq_false.1 hb n hn
    have hb2 : nodeOk n nu (badL d nu n.body) (badL d nu n.els) = true := by
      cases h : nodeOk n nu (badL d nu n.body) (badL d nu n.els) with
      | true => rfl
      | false => rw [h] at hb1; simp at hb1
    exact nodeM_good (fun h => writeM_good d n.body hw1.2.1 h) (fun h => writeM_good d n.els hw1.2.2 h) hb2 hw1.1.1
theorem codeM_good {d : Nat} : ∀ (l : List UnD) (us : List Int) (ops : List OpD), (∀ u ∈ l, wfW d u.body ∧ badL d nu u.body = false) → (∀ op ∈ ops, opB op ops.length nu = true ∧ okPipe op.pipe) → (∀ s ∈ us, 0 ≤ s ∧ s < ops.length) →
    (∀ op ∈ (codeM d l us ops).2, opB op (codeM d l us ops).2.length nu = true ∧ okPipe op.pipe) ∧ (∀ s ∈ (codeM d l us ops).1, 0 ≤ s ∧ s < (codeM d l us ops).2.length) ∧ (codeM d l us ops).1.length = us.length + l.length ∧ (codeM d l us ops).2.length ≤ ops.length + (l.map (fun u => 1 + cntW d u.body)).sum
  | [], us, ops, _, ho, hu => ⟨ho, hu, by simp [codeM], by simp [codeM]⟩
  | u :: l, us, ops, hl, ho, hu => by
    rw [codeM_cons]
    have h1 := hl u (by simp)
    have g := writeM_good (nu := nu) d u.body h1.1 h1.2
    have lo := g.len ops
    have hi := (writeM_adds d u.body).hi ops
    have lp := putM_len (writeM d u.body ops) ⟨11, 0, [], true, [], 0⟩
    have ha : AllB nu (writeM d u.body ops) := g.ok ops (fun op hm => ⟨opB_mono (ho op hm).1 (by omega), (ho op hm).2⟩)
    have r := codeM_good l (us ++ [(ops.length : Int)]) (putM (writeM d u.body ops) ⟨11, 0, [], true, [], 0⟩) (fun x hx => hl x (by simp [hx])) (fun op hm => by
        rw [lp]
        rcases List.mem_append.1 hm with h | h
        · exact ⟨opB_mono (ha op h).1 (by omega), (ha op h).2⟩
        · obtain rfl := List.mem_singleton.1 h
          exact ⟨rfl, okPipe_nil⟩) (fun s hs => by
        rcases List.mem_append.1 hs with h | h
        · have := hu s h; omega
        · obtain rfl := List.mem_singleton.1 h
          omega)
    refine ⟨r.1, r.2.1, ?_, ?_⟩
    · rw [r.2.2.1]; simp; omega
    · have := r.2.2.2
      simp only [List.map_cons, List.sum_cons]
      omega
end
theorem codeR_may {d : Nat} {l : List UnD} (h : okUb d l) : okCode (codeR d l) ∧ codeE (codeR d l) = cond (execE d l == 0) 0 71 := by
  unfold codeR
  cases he : execE d l == 0 with
  | false => exact ⟨⟨by simp, by simp, fun o ho => (by cases ho)⟩, rfl⟩
  | true =>
    have he2 : ((l.length : Int) == 0) = false ∧ l.any (badU d (l.length : Int)) = false := by
      unfold execE at he
      revert he
      cases (l.length : Int) == 0 <;> cases l.any (deep d) <;> cases l.any (badU d (l.length : Int)) <;> simp
    have hl : l.length ≠ 0 := by
      intro h0; have := he2.1; rw [h0] at this; simp at this
    have g := codeM_good (nu := (l.length : Int)) (d := d) l [] [] (fun u hu => ⟨h.1.2 u hu, by
      have := List.any_eq_false.1 he2.2 u hu
      simpa [badU] using this⟩) (fun op ho => (by cases ho)) (fun s hs => (by cases hs))
    have hs := h.2
    have h1 := h.1.1
    simp only [cond_true]
    generalize codeM d l [] [] = c at *
    obtain ⟨us, ops⟩ := c
    simp only [List.length_nil, Nat.zero_add] at g
    obtain ⟨g1, g2, g3, g4⟩ := g
    refine ⟨⟨by simp only; omega, by simp only; omega, fun o ho => (g1 o ho).2⟩, ?_⟩
    unfold codeE
    simp only
    have e1 : (us.length == 0) = false := beq_eq_false_iff_ne.2 (by omega)
    have e2 : us.any (unBad ⟨false, ops, false, us⟩) = false := List.any_eq_false.2 (fun s hs => by
      have := g2 s hs
      unfold unBad
      rw [decide_eq_false (show ¬ s < 0 by omega), decide_eq_false (show ¬ s ≥ ((⟨false, ops, false, us⟩ : CodeD).ops.length : Int) by simp only; omega)]
      simp)
    have e3 : ops.any (opBad ⟨false, ops, false, us⟩) = false := List.any_eq_false.2 (fun o ho => by
      have := (g1 o ho).1
      unfold opBad
      simp only [g3]
      rw [this]; simp)
    rw [e1, e2, e3]; rfl
theorem law_funM (d : Nat) (full : Bool) (l : List UnD) (k : Out → Ans) : iFun Try.prog ((layCm d).hd Try.prog) (layCm d).fhs 0 6 [encUns full l] [] k =
    cond (tst (wfL wfUn (encUns full l) = true ∧ okUb d (unitsU (encUns full l)))) (cond (tst (encCode (codeR d (unitsU (encUns full l))) = encCode (decCode (encCode (codeR d (unitsU (encUns full l))))) ∧ okCode (decCode (encCode (codeR d (unitsU (encUns full l)))))))
      (cond (tst (encCode (codeR d (unitsU (encUns full l))) = encCode (decCode (encCode (codeR d (unitsU (encUns full l))))) ∧ okCode (decCode (encCode (codeR d (unitsU (encUns full l)))))))
        (k (.ret (.bool (cond (cond (execE d (unitsU (encUns full l)) != 0) (codeE (decCode (encCode (codeR d (unitsU (encUns full l))))) == 71) false) true (cond (execE d (unitsU (encUns full l)) == 0) (codeE (decCode (encCode (codeR d (unitsU (encUns full l))))) == 0) false))) [])) none) none) none := by kernel_rfl
theorem law_callM {d : Nat} {full : Bool} {l : List UnD} (h : okUb d l) (k : Out → Ans) : iFun Try.prog ((layCm d).hd Try.prog) (layCm d).fhs 0 6 [encUns full l] [] k = k (.ret (.bool true) []) := by
  have hu := okUb_dd (full := full) h
  have ⟨g1, g2⟩ := codeR_may hu
  rw [law_funM, decCode_enc, tst_true ⟨wf_units full l, hu⟩, tst_true ⟨rfl, g1⟩, g2, bne]
  generalize (execE d (unitsU (encUns full l)) == 0) = b
  cases b <;> rfl
end Go.Mu
