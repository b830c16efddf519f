/-
  Mu: an operation's writes, and where else it may run.
-/
import Derived.Test.YtlbmedmddoljnaaDoorMuFrame
set_option linter.unusedVariables false
set_option linter.unusedSimpArgs false
namespace Go.Mu
open Go
variable {P : Program} {fh : FH} {ops : List Oper} {w w' : World} {a : Act} {E E' : Env} {H H' : Heap} {β β' : Nat → Option Nat} {T T' : List AVal} {B B' : Boxes} {G : Tags} {q : SR} {s s' s2 : RS} {o : Oper} {i : Nat} {recs : List Rec}

structure Wr where
  dst : Option Nat
  v : AVal
  c : Option (Nat × Bool)
  g : Bool
  wb : Option (Nat × List AVal)
  wh : Option Heap
def Wr.app (W : Wr) (s : RS) : RS :=
  { T := setDst s.T W.dst W.v, B := match W.wb with | some (d, c) => bset s.B d c | none => s.B, H := match W.wh with | some h => h | none => s.H, D := s.D, G := addTag s.G W.dst W.c W.g }

structure Fits (P : Program) (ops : List Oper) (i : Nat) (o : Oper) (s : RS) (recs : List Rec) (s2 : RS) : Prop where
  lenB : s2.B.length = s.B.length
  names : ∀ t, t ∈ namesOf ops o → s2.T.getD t .undef = s.T.getD t .undef ∧ s2.G.getD t none = s.G.getD t none
  free : freeDst s2.G o.dst = true
  use : Rec.use i ∈ recs → s2.H = s.H
  eff : ∀ B0 H0 B1 H1, Rec.eff i none B0 H0 B1 H1 ∈ recs → s2.H = s.H
  box : ∀ d B0 H0 B1 H1, Rec.eff i (some d) B0 H0 B1 H1 ∈ recs → s2.B.getD d [] = s.B.getD d []
  al : gvOf s (guardDst ops o) = true → ∀ d, Rec.al i d ∈ recs → s2.T.any (pointsTo d) = false
  rd : gvOf s (guardDst ops o) = true → ∀ t p v, Rec.rd i t p v ∈ recs → loadA P s2.B s2.H t p = some (true, v)

theorem aeval_fit (hf : ∀ t, t ∈ namesOf ops o → s2.T.getD t .undef = s.T.getD t .undef ∧ s2.G.getD t none = s.G.getD t none) {x : Operand} (hx : x ∈ o.op.operands.toList) : aeval s2.T x = aeval s.T x := by
  cases x with
  | tmp t =>
    exact (hf t (by
      unfold namesOf
      exact List.mem_append_left _ (List.mem_append_right _ (List.mem_filterMap.2 ⟨_, hx, rfl⟩)))).1
  | _ => rfl
theorem valid_fit (hf : ∀ t, t ∈ namesOf ops o → s2.T.getD t .undef = s.T.getD t .undef ∧ s2.G.getD t none = s.G.getD t none) {t : Nat} (ht : t ∈ namesOf ops o) : valid s2.G t = valid s.G t := by
  unfold valid; rw [(hf t ht).2]
theorem tmp_names {t : Nat} (h : t ∈ tmpsOf o.op.operands.toList) : t ∈ namesOf ops o := by
  unfold namesOf; exact List.mem_append_left _ (List.mem_append_right _ h)
theorem guard_names {d : Nat} {q : Bool} (h : guardDst ops o = some (d, q)) : d ∈ namesOf ops o := by
  unfold namesOf; rw [h]; exact List.mem_append_right _ (by simp)
theorem okOp_fit (hf : ∀ t, t ∈ namesOf ops o → s2.T.getD t .undef = s.T.getD t .undef ∧ s2.G.getD t none = s.G.getD t none) (h : okOp s.T s.G o) : okOp s2.T s2.G o := by
  unfold okOp at h ⊢
  split
  · rename_i c x y e
    rw [e] at h
    simp only at h
    have mem : ∀ {z : Operand} {t : Nat}, z = .tmp t → z ∈ o.op.operands.toList → t ∈ namesOf ops o := fun e hm => by
      subst e; exact tmp_names (List.mem_filterMap.2 ⟨_, hm, rfl⟩)
    have m1 : c ∈ o.op.operands.toList := by rw [e]; simp [Op.operands]
    have m2 : x ∈ o.op.operands.toList := by rw [e]; simp [Op.operands]
    have m3 : y ∈ o.op.operands.toList := by rw [e]; simp [Op.operands]
    rw [aeval_fit hf m1]
    exact ⟨fun t ht => by rw [valid_fit hf (mem ht m1)]; exact h.1 t ht, fun hc t ht => by rw [valid_fit hf (mem ht m2)]; exact h.2.1 hc t ht, fun hc t ht => by rw [valid_fit hf (mem ht m3)]; exact h.2.2 hc t ht⟩
  · rename_i hn
    split at h
    · rename_i c x y e; exact absurd e (hn c x y)
    · exact fun t ht => by rw [valid_fit hf (tmp_names ht)]; exact h t ht
theorem gv_fit (hf : ∀ t, t ∈ namesOf ops o → s2.T.getD t .undef = s.T.getD t .undef ∧ s2.G.getD t none = s.G.getD t none) : gvOf s2 (guardDst ops o) = gvOf s (guardDst ops o) := by
  cases hg : guardDst ops o with
  | none => rfl
  | some c =>
    obtain ⟨d, q⟩ := c
    have hm := guard_names hg
    simp only [gvOf, gval_eq]
    rw [(hf d hm).1, valid_fit hf hm]
theorem guard_fit (hf : ∀ t, t ∈ namesOf ops o → s2.T.getD t .undef = s.T.getD t .undef ∧ s2.G.getD t none = s.G.getD t none) (hfree : freeDst s2.G o.dst = true) (h : guardGo ops s o) : guardGo ops s2 o := by
  refine ⟨h.1, hfree, ?_⟩
  have h3 := h.2.2
  cases hg : guardDst ops o with
  | none => rfl
  | some c =>
    obtain ⟨d, q⟩ := c
    have hm := guard_names hg
    rw [hg] at h3
    simp only [guardOk] at h3 ⊢
    rw [(hf d hm).1, valid_fit hf hm]; exact h3

theorem al_ok {d : Nat} (ha : isAl o = true) (hw : writes o fh T = some (some d)) (h : stepOp P fh T B H o = some q) (hok : q.ok = true) : T.any (pointsTo d) = false := by
  obtain ⟨dst, op, type, pos, after, guard⟩ := o
  cases op <;> simp only [isAl] at ha <;> try contradiction
  case alloc t =>
    simp only [stepOp, writes] at h hw
    split at h
    · rename_i d' z hz
      simp only [Option.getD_some] at hw
      split at h
      · rename_i hc; rw [if_pos hc] at hw; simp at hw
      · rename_i hc
        rw [if_neg hc] at hw
        simp only [Option.some.injEq] at hw; subst hw
        split at h
        · simp only [Option.some.injEq] at h; subst h
          simpa using hok
        · simp at h
    · simp at h
  case box t x =>
    simp only [stepOp, writes] at h hw
    split at h
    · rename_i d' z hz
      simp only [Option.getD_some] at hw
      split at h
      · rename_i hc; rw [if_pos hc] at hw; simp at hw
      · rename_i hc
        rw [if_neg hc] at hw
        simp only [Option.some.injEq] at hw; subst hw
        split at h
        · simp only [Option.some.injEq] at h; subst h
          simp only [Bool.and_eq_true, Bool.not_eq_true'] at hok
          exact hok.2
        · simp at h
    · simp at h
theorem step_eff (h : stepOp P fh T B H o = some q) (hok : q.ok = true) : Same o fh T B H q q := by
  obtain ⟨q', h1, h2⟩ := step_frame (T' := T) (B' := B) (H' := H) (fun _ _ => rfl) rfl (fun ha d hw => al_ok ha hw h hok) (fun _ => rfl) (fun _ _ _ => rfl) (fun _ _ _ => rfl) h hok
  rw [h] at h1
  cases Option.some.inj h1
  exact h2

theorem mem_recOf_eff {b : Option Nat} (hw : writes o fh T = some b) : Rec.eff i b B H q.B q.H ∈ recOf i o fh T B H q := by
  unfold recOf; rw [hw]; simp
theorem mem_recOf_use (hu : usesH o T = true) : Rec.use i ∈ recOf i o fh T B H q := by
  unfold recOf; rw [hu]; simp
theorem mem_recOf_al {d : Nat} (ha : isAl o = true) (hw : writes o fh T = some (some d)) : Rec.al i d ∈ recOf i o fh T B H q := by
  have : Rec.al i d ∈ alOf i o fh T := by
    unfold alOf isAl at *
    split at ha
    · rename_i e; rw [e, hw]; simp
    · rename_i e; rw [e, hw]; simp
    · simp at ha
  unfold recOf; simp [this]
theorem mem_recOf_rd {t : TypeId} {x : Operand} (he : o.op = .load t x) : Rec.rd i t (aeval T x) q.v ∈ recOf i o fh T B H q := by
  unfold recOf; rw [he]; simp
theorem mem_recOf_ptv {d off : Nat} (hv : q.v = .ptr (.tmp d) off) : Rec.ptv i d ∈ recOf i o fh T B H q := by
  unfold recOf; rw [hv]; simp [ptvOf]

theorem opRun_wr (hr : OpRun P fh ops i o s recs s') (hbad : Rec.bad ∉ recs) : ∃ W : Wr, s' = W.app s ∧ W.dst = o.dst ∧ W.c = guardDst ops o ∧ (∀ d c, W.wb = some (d, c) → Rec.eff i (some d) s.B s.H s'.B s'.H ∈ recs) ∧
    (W.wh.isSome = true → Rec.eff i none s.B s.H s'.B s'.H ∈ recs) ∧ (∀ d off, W.v = .ptr (.tmp d) off → Rec.ptv i d ∈ recs) ∧ ∀ s2, Fits P ops i o s recs s2 → ∃ recs2, OpRun P fh ops i o s2 recs2 (W.app s2) := by
  cases hr with
  | void c v _ hg hc hgv hpt =>
    refine ⟨⟨o.dst, v, some c, false, none, none⟩, rfl, rfl, hc.symm, fun d c h => by simp at h, fun h => by simp at h, hpt, fun s2 hf => ?_⟩
    have := gv_fit hf.names
    rw [hc] at this
    exact ⟨recs, .void c v recs (guard_fit hf.names hf.free hg) hc (this.trans hgv) hpt⟩
  | run q hg hgv htag hst hok hw =>
    have se := step_eff hst hok
    refine ⟨⟨o.dst, q.v, guardDst ops o, true, match writes o fh s.T with | some (some d) => some (d, q.B.getD d []) | _ => none, match writes o fh s.T with | some none => some q.H | _ => none⟩, ?_, rfl, rfl, fun d c h => ?_, fun h => ?_, fun d off h => mem_recOf_ptv h, fun s2 hf => ?_⟩
    · have e1 := se.B
      have e2 := se.H
      simp only [Wr.app]
      congr 1
      · refine e1.trans ?_
        cases hw' : writes o fh s.T with
        | none => rfl
        | some b => cases b <;> rfl
      · refine e2.trans ?_
        cases hw' : writes o fh s.T with
        | none => rfl
        | some b => cases b <;> rfl
    · simp only at h
      split at h
      · rename_i d' hw'
        simp only [Option.some.injEq, Prod.mk.injEq] at h
        obtain ⟨rfl, _⟩ := h
        exact mem_recOf_eff hw'
      · simp at h
    · simp only at h
      split at h
      · rename_i hw'; exact mem_recOf_eff hw'
      · simp at h
    · obtain ⟨q', h1, h2⟩ := step_frame (T' := s2.T) (B' := s2.B) (H' := s2.H) (fun x hx => aeval_fit hf.names hx) hf.lenB (fun ha d hw' => hf.al hgv d (mem_recOf_al ha hw')) (fun hu => by
          rcases hu with hu | hu
          · exact hf.use (mem_recOf_use hu)
          · exact hf.eff _ _ _ _ (mem_recOf_eff hu)) (fun d hw' _ => hf.box d _ _ _ _ (mem_recOf_eff hw')) (fun t x he => by
          have := hf.rd hgv t _ _ (mem_recOf_rd he)
          rw [this]
          obtain ⟨dst, op, type, pos, after, guard⟩ := o
          simp only at he; subst he
          simp only [stepOp] at hst
          obtain ⟨ok, v, h3, h4⟩ := val_some hst
          rw [h4] at hok ⊢
          simp only at hok ⊢
          rw [h3, hok]) hst hok
      have hwr : writes o fh s2.T = writes o fh s.T := by
        obtain ⟨dst, op, type, pos, after, guard⟩ := o
        cases op <;> simp only [writes]
        case store t x y => rw [aeval_fit hf.names (x := x) (by simp [Op.operands])]
      have hrun := OpRun.run (P := P) (fh := fh) (ops := ops) (i := i) (o := o) (s := s2) q' (guard_fit hf.names hf.free hg) ((gv_fit hf.names).trans hgv) (okOp_fit hf.names htag) h1 h2.ok (fun e => hwr.trans (hw e))
      have e : (Wr.mk o.dst q.v (guardDst ops o) true (match writes o fh s.T with | some (some d) => some (d, q.B.getD d []) | _ => none) (match writes o fh s.T with | some none => some q.H | _ => none)).app s2 =
          { s2 with T := setDst s2.T o.dst q'.v, B := q'.B, H := q'.H, G := addTag s2.G o.dst (guardDst ops o) true } := by
        simp only [Wr.app]
        rw [h2.v, h2.B, h2.H]
        congr 1
        · cases hw' : writes o fh s.T with
          | none => rfl
          | some b => cases b <;> rfl
        · cases hw' : writes o fh s.T with
          | none => rfl
          | some b => cases b <;> rfl
      rw [e]
      exact ⟨_, hrun⟩
  | call f args g caps v H1 hg hgv htag hkind hf hn hcall hq hp =>
    have ha : ∀ s2 : RS, (∀ t, t ∈ namesOf ops o → s2.T.getD t .undef = s.T.getD t .undef ∧ s2.G.getD t none = s.G.getD t none) → aeval s2.T f = aeval s.T f ∧ args.toList.map (aeval s2.T) = args.toList.map (aeval s.T) := fun s2 hfit => by
      obtain ⟨c, e, hc, hca⟩ := kind_call hkind
      refine ⟨aeval_fit hfit (by rw [e]; simp [Op.operands, Call.operands, hc]), List.map_congr_left fun x hx => aeval_fit hfit ?_⟩
      rw [e]
      have hx' : x ∈ args := by simpa using hx
      simp [Op.operands, Call.operands, hc, hca, hx']
    refine ⟨⟨o.dst, v, guardDst ops o, true, none, if quietCall fh g (args.toList.map (aeval s.T) ++ caps) then none else some H1⟩, ?_, rfl, rfl, fun d c h => by simp at h, fun h => ?_, fun d off h => ?_, fun s2 hfit => ?_⟩
    · simp only [Wr.app]
      congr 1
      by_cases hqq : quietCall fh g (args.toList.map (aeval s.T) ++ caps) = true
      · rw [if_pos hqq]; exact hq hqq
      · rw [if_neg hqq]
    · simp only at h
      by_cases hqq : quietCall fh g (args.toList.map (aeval s.T) ++ caps) = true
      · rw [if_pos hqq] at h; simp at h
      · unfold callRecs; rw [if_neg hqq]; simp
    · unfold callRecs
      simp only at h
      rw [h]; simp [ptvOf]
    · obtain ⟨e1, e2⟩ := ha s2 hfit.names
      by_cases hpp0 : quietCall fh g (args.toList.map (aeval s.T) ++ caps) = true ∧ (args.toList.map (aeval s.T) ++ caps).all isPure = true
      · obtain ⟨hqq, hpp⟩ := hpp0
        have hrun := OpRun.call (P := P) (fh := fh) (ops := ops) (i := i) (o := o) (s := s2) f args g caps v s2.H (guard_fit hfit.names hfit.free hg) ((gv_fit hfit.names).trans hgv) (okOp_fit hfit.names htag) hkind (by rw [e1]; exact hf) (by rw [e2]; exact hn)
          (by rw [e2]; exact hp hqq hpp s2.H) (fun _ => rfl) (fun _ _ => by rw [e2]; exact hp hqq hpp)
        simp only [Wr.app, if_pos hqq]
        exact ⟨_, hrun⟩
      · have hH : s2.H = s.H := by
          by_cases hqq : quietCall fh g (args.toList.map (aeval s.T) ++ caps) = true
          · exact hfit.use (by unfold callRecs; rw [if_pos hqq, if_neg (fun e => hpp0 ⟨hqq, e⟩)]; simp)
          · exact hfit.use (by unfold callRecs; rw [if_neg hqq]; simp)
        have hrun := OpRun.call (P := P) (fh := fh) (ops := ops) (i := i) (o := o) (s := s2) f args g caps v H1 (guard_fit hfit.names hfit.free hg) ((gv_fit hfit.names).trans hgv) (okOp_fit hfit.names htag) hkind (by rw [e1]; exact hf) (by rw [e2]; exact hn)
          (by rw [e2, hH]; exact hcall) (fun e => by rw [e2] at e; rw [hH]; exact hq e) (fun e0 e => by rw [e2] at e0 e; exact absurd ⟨e0, e⟩ hpp0)
        have e : (if quietCall fh g (args.toList.map (aeval s.T) ++ caps) then none else some H1 : Option Heap) = none → H1 = s2.H := fun e => by
          split at e
          · rename_i hqq; rw [hH]; exact hq hqq
          · simp at e
        simp only [Wr.app]
        by_cases hqq : quietCall fh g (args.toList.map (aeval s.T) ++ caps) = true
        · rw [if_pos hqq] at e ⊢
          rw [← e rfl]; exact ⟨_, hrun⟩
        · rw [if_neg hqq]; exact ⟨_, hrun⟩
  | dfr f args g caps hg hc htag hkind hargs hf hn => exact absurd (by simp) hbad
end Go.Mu
