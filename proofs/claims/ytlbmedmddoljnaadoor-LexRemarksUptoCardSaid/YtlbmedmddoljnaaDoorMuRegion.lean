/-
  Mu: a region's operations, one by one.
-/
import Derived.Test.YtlbmedmddoljnaaDoorMuTags
set_option linter.unusedVariables false
set_option linter.unusedSimpArgs false
namespace Go.Mu
open Go
variable {P : Program} {h : Hd} {fh : FH} {ops : List Oper} {w w' : World} {a : Act} {E E' : Env} {H H' : Heap} {β : Nat → Option Nat} {T : List AVal} {B : Boxes} {G : Tags} {r : SR}

def guardGo (ops : List Oper) (s : RS) (o : Oper) : Prop :=
  (o.guard.isSome && (guardDst ops o).isNone) = false ∧ freeDst s.G o.dst = true ∧ guardOk s.T s.G o.dst (guardDst ops o) = true

inductive OpRun (P : Program) (fh : FH) (ops : List Oper) (i : Nat) (o : Oper) (s : RS) : List Rec → RS → Prop
  | void (c : Nat × Bool) (v : AVal) (rs : List Rec) : guardGo ops s o → guardDst ops o = some c → gvOf s (some c) = false → (∀ d off, v = .ptr (.tmp d) off → .ptv i d ∈ rs) → OpRun P fh ops i o s rs { s with T := setDst s.T o.dst v, G := addTag s.G o.dst (some c) false }
  | run (q : SR) : guardGo ops s o → gvOf s (guardDst ops o) = true → okOp s.T s.G o → stepOp P fh s.T s.B s.H o = some q → q.ok = true → ((guardDst ops o).isSome = true → writes o fh s.T = none) →
      OpRun P fh ops i o s (recOf i o fh s.T s.B s.H q) { s with T := setDst s.T o.dst q.v, B := q.B, H := q.H, G := addTag s.G o.dst (guardDst ops o) true }
  | call (f args g caps v H') : guardGo ops s o → gvOf s (guardDst ops o) = true → okOp s.T s.G o → kindOf P o.op = .call f args → funOf P (aeval s.T f) = some (g, caps) → (args.toList.map (aeval s.T) ++ caps).all noTmp = true →
      CallOK P g (args.toList.map (aeval s.T) ++ caps) s.H (.ret v H') → (quietCall fh g (args.toList.map (aeval s.T) ++ caps) = true → H' = s.H) →
      (quietCall fh g (args.toList.map (aeval s.T) ++ caps) = true → (args.toList.map (aeval s.T) ++ caps).all isPure = true → ∀ H2, CallOK P g (args.toList.map (aeval s.T) ++ caps) H2 (.ret v H2)) →
      OpRun P fh ops i o s (callRecs fh g (args.toList.map (aeval s.T) ++ caps) i s.B s.H H' v)
        { s with T := setDst s.T o.dst v, H := H', G := addTag s.G o.dst (guardDst ops o) true }
  | dfr (f args g caps) : guardGo ops s o → guardDst ops o = none → okOp s.T s.G o → kindOf P o.op = .dfr f args → args.size = 0 → funOf P (aeval s.T f) = some (g, caps) → caps.all noTmp = true →
      OpRun P fh ops i o s [.bad] { s with T := setDst s.T o.dst .undef, D := (g, caps) :: s.D }

inductive OpPan (P : Program) (fh : FH) (ops : List Oper) (o : Oper) (s : RS) : AVal → RS → Prop
  | pan (x t v) : guardGo ops s o → guardDst ops o = none → okOp s.T s.G o → kindOf P o.op = .pan x → ifaceOf (aeval s.T x) = some (t, v) → OpPan P fh ops o s (.iface t v) s
  | call (f args g caps p H') : guardGo ops s o → gvOf s (guardDst ops o) = true → okOp s.T s.G o → kindOf P o.op = .call f args → funOf P (aeval s.T f) = some (g, caps) → (args.toList.map (aeval s.T) ++ caps).all noTmp = true →
      CallOK P g (args.toList.map (aeval s.T) ++ caps) s.H (.panic p H') → OpPan P fh ops o s p { s with H := H' }

inductive OpsRun (P : Program) (fh : FH) (ops : List Oper) : List Oper → Nat → RS → List Rec → RS → Prop
  | nil (i s) : OpsRun P fh ops [] i s [] s
  | cons {o rest i s r1 s1 r2 s2} : OpRun P fh ops i o s r1 s1 → OpsRun P fh ops rest (i + 1) s1 r2 s2 → OpsRun P fh ops (o :: rest) i s (r2 ++ r1) s2
inductive OpsPan (P : Program) (fh : FH) (ops : List Oper) : List Oper → Nat → RS → Nat → List Rec → AVal → RS → Prop
  | here {o rest i s p s'} : OpPan P fh ops o s p s' → OpsPan P fh ops (o :: rest) i s i [] p s'
  | later {o rest i s r1 s1 j r2 p s2} : OpRun P fh ops i o s r1 s1 → OpsPan P fh ops rest (i + 1) s1 j r2 p s2 → OpsPan P fh ops (o :: rest) i s j (r2 ++ r1) p s2

def OpsOut (P : Program) (fh : FH) (ops l : List Oper) (i : Nat) (rs : List Rec) (s : RS) (kp : Nat → List Rec → AVal → RS → Ans) (k : RKont) (out : Out) : Prop :=
  (∃ r s', OpsRun P fh ops l i s r s' ∧ k (r ++ rs) s' = some out) ∨ (∃ j r p s', OpsPan P fh ops l i s j r p s' ∧ kp j (r ++ rs) p s' = some out)
theorem OpsOut.cons {o : Oper} {rest : List Oper} {i : Nat} {rs r1 : List Rec} {s s1 : RS} {kp : Nat → List Rec → AVal → RS → Ans} {k : RKont} {out : Out} (h1 : OpRun P fh ops i o s r1 s1) (h2 : OpsOut P fh ops rest (i + 1) (r1 ++ rs) s1 kp k out) :
    OpsOut P fh ops (o :: rest) i rs s kp k out := by
  rcases h2 with ⟨r, s', g1, g2⟩ | ⟨j, r, p, s', g1, g2⟩
  · exact .inl ⟨_, s', .cons h1 g1, by rw [List.append_assoc]; exact g2⟩
  · exact .inr ⟨j, _, p, s', .later h1 g1, by rw [List.append_assoc]; exact g2⟩

theorem val_BH {x : Option (Bool × AVal)} (h : val B H x = some r) : r.B = B ∧ r.H = H := by
  obtain ⟨ok, v, _, rfl⟩ := val_some h; exact ⟨rfl, rfl⟩
theorem val1_BH {x : Option AVal} (h : val1 B H x = some r) : r.B = B ∧ r.H = H := by
  obtain ⟨v, _, rfl⟩ := val1_some h; exact ⟨rfl, rfl⟩
theorem conv_BH {s d : TypeId} {x : AVal} (h : convA P false B H s d x = some r) : r.B = B ∧ r.H = H := by
  unfold convA at h
  repeat' split at h
  all_goals first | (simp at h; done) | (simp only [Option.some.injEq] at h; subst h; exact ⟨rfl, rfl⟩) | (rename_i hh; exact absurd hh (by decide))
theorem writes_none {o : Oper} (h : stepOp P fh T B H o = some r) (hw : writes o fh T = none) : r.B = B ∧ r.H = H := by
  obtain ⟨dst, op, type, pos, after, guard⟩ := o
  cases op <;> simp only [stepOp, writes] at h hw <;> try contradiction
  case convert s t x =>
    split at hw
    · simp at hw
    · rename_i hc
      have : fh.own.contains (dst.getD 0) = false := by simpa using hc
      rw [this] at h
      exact conv_BH h
  case call c =>
    split at hw
    · simp at hw
    · rename_i hna
      repeat' split at h
      all_goals first | (simp at h; done) | exact val1_BH h | exact val_BH h | exact absurd (by assumption) hna
  all_goals (repeat' split at hw)
  all_goals first
    | (simp at hw; done)
    | exact val_BH h
    | exact val1_BH h
    | (repeat' split at h
       all_goals first | (simp at h; done) | (simp only [Option.some.injEq] at h; subst h; exact ⟨rfl, rfl⟩) | exact val1_BH h | exact val_BH h | (simp_all; done))
theorem iOps_run (hh : HOK P h) {out : Out} : ∀ (l : List Oper) (i : Nat) (rs : List Rec) (s : RS) (kp : Nat → List Rec → AVal → RS → Ans) (k : RKont), TagInv s.T s.G → iOpsL P h fh ops l i rs s kp k = some out → OpsOut P fh ops l i rs s kp k out
  | [], i, rs, s, kp, k, ti, hk => .inl ⟨[], s, .nil _ _, hk⟩
  | o :: rest, i, rs, s, kp, k, ti, hk => by
    unfold iOpsL at hk
    simp only at hk
    split at hk
    · simp at hk
    rename_i hg
    rw [Bool.cond_eq_ite] at hk
    split at hk
    · simp at hk
    rename_i hg1
    have hgo : guardGo ops s o := by
      simp only [Bool.or_eq_true, Bool.not_eq_true', not_or, Bool.not_eq_true, Bool.not_eq_false] at hg hg1
      exact ⟨hg.1, hg.2, hg1⟩
    clear hg hg1
    have hgvs : ∀ {b : Bool}, gvOf s (guardDst ops o) = b → ∀ d q, guardDst ops o = some (d, q) → b = gval s.T s.G d q := fun e d q hc => by rw [hc] at e; exact e.symm
    have tput : ∀ (v : AVal) (g : Bool), gvOf s (guardDst ops o) = g → TagInv (setDst s.T o.dst v) (addTag s.G o.dst (guardDst ops o) g) := fun v g e => ti.put hgo.2.1 hgo.2.2 (hgvs e)
    have okop : gvOf s (guardDst ops o) = true → opTags s.G (guardDst ops o) o.op = true → okOp s.T s.G o := fun e ht => opTags_ok ti ht (fun d q hc => (hgvs e d q hc).symm)
    have hskip : ∀ c, guardDst ops o = some c → gvOf s (some c) = false → iOpsL P h fh ops rest (i + 1) rs { s with T := setDst s.T o.dst .undef, G := addTag s.G o.dst (guardDst ops o) false } kp k = some out → OpsOut P fh ops (o :: rest) i rs s kp k out := by
      intro c hc hgv hk
      rw [hc] at hk tput
      exact OpsOut.cons (r1 := []) (.void c .undef [] hgo hc hgv (fun d off e => by cases e)) (iOps_run hh _ _ _ _ _ _ (tput .undef false hgv) hk)
    split at hk
    · rename_i f args hkind
      split at hk
      · rename_i g xs hpc
        obtain ⟨c, caps, hc, htag, hf, rfl, hpu, hth⟩ := pureCall_some hpc
        obtain ⟨o', ho, hko, hnt, hq, hp⟩ := callA_sound hh hk
        have hqt : quietCall fh g (args.toList.map (aeval s.T) ++ caps) = true := by unfold quietCall; rw [hpu, hth]; rfl
        cases o' with
        | ret v H' =>
          simp only at hko
          have hH : H' = s.H := hq hqt
          subst hH
          cases hgv : gvOf s (guardDst ops o) with
          | true =>
            rw [hgv] at hko
            exact OpsOut.cons (OpRun.call (P := P) (fh := fh) (ops := ops) (i := i) (o := o) (s := s) f args g caps v s.H hgo hgv (okop hgv htag) hkind hf hnt ho hq hp) (iOps_run hh _ _ _ _ _ _ (tput v true hgv) hko)
          | false =>
            rw [hgv, hc] at hko
            rw [hc] at hgv tput
            exact OpsOut.cons (.void c v _ hgo hc hgv (fun d off e => by unfold callRecs; rw [e]; simp [ptvOf])) (iOps_run hh _ _ _ _ _ _ (tput v false hgv) hko)
        | panic p H' =>
          simp only [Bool.cond_eq_ite] at hko
          split at hko
          · rename_i hgv
            exact .inr ⟨i, [], p, _, .here (.call f args g caps p H' hgo hgv (okop hgv htag) hkind hf hnt ho), hko⟩
          · rename_i hgv
            exact hskip c hc (by rw [hc] at hgv; simpa using hgv) hko
      rw [Bool.cond_eq_ite] at hk
      split at hk
      · rename_i hgv
        split at hk
        · rename_i htag
          split at hk
          · rename_i g caps hf
            obtain ⟨o', ho, hko, hnt, hq, hp⟩ := callA_sound hh hk
            cases o' with
            | ret v H' =>
              simp only at hko
              have hr := OpRun.call (P := P) (fh := fh) (ops := ops) (i := i) (o := o) (s := s) f args g caps v H' hgo hgv (okop hgv htag) hkind hf hnt ho hq hp
              refine OpsOut.cons hr (iOps_run hh _ _ _ _ _ _ (tput v true hgv) ?_)
              exact hko
            | panic p H' =>
              exact .inr ⟨i, [], p, _, .here (.call f args g caps p H' hgo hgv (okop hgv htag) hkind hf hnt ho), hko⟩
          · simp at hk
        · simp at hk
      · rename_i hgv
        cases hc : guardDst ops o with
        | none => rw [hc] at hgv; exact absurd rfl hgv
        | some c => exact hskip c hc (by rw [hc] at hgv; simpa using hgv) hk
    · rename_i x hkind
      split at hk
      · simp at hk
      · rename_i hc
        split at hk
        · rename_i htag
          split at hk
          · rename_i t v hi
            exact .inr ⟨i, [], _, s, .here (.pan x t v hgo hc (okop (by rw [hc]; rfl) htag) hkind hi), hk⟩
          · simp at hk
        · simp at hk
    · rename_i f args hkind
      split at hk
      · rename_i hc
        split at hk
        · rename_i g caps hf
          split at hk
          · rename_i hcond
            simp only [Bool.and_eq_true, beq_iff_eq] at hcond
            have tp := tput .undef true (by rw [hc]; rfl)
            rw [hc] at tp
            have hnt : addTag s.G o.dst none true = s.G := by cases o.dst <;> rfl
            rw [hnt] at tp
            exact OpsOut.cons (r1 := [.bad]) (.dfr f args g caps hgo hc (okop (by rw [hc]; rfl) hcond.1.1) hkind hcond.1.2 hf hcond.2) (iOps_run hh _ _ _ _ _ _ tp hk)
          · simp at hk
        · simp at hk
      · simp at hk
    · rename_i hkind
      split at hk
      · rename_i r hr
        split at hr
        case isFalse => simp at hr
        rename_i htag
        split at hk
        · rename_i hc
          rw [Bool.cond_eq_ite] at hk
          split at hk
          · rename_i hok
            have hk := onV_eq hr hk
            have hrun := OpRun.run (P := P) (fh := fh) (ops := ops) (i := i) (o := o) (s := s) r hgo (by rw [hc]; rfl) (okop (by rw [hc]; rfl) htag) hr hok (fun e => by rw [hc] at e; simp at e)
            refine OpsOut.cons hrun (iOps_run hh _ _ _ _ _ _ (tput r.v true (by rw [hc]; rfl)) ?_)
            rw [hc]
            have : addTag s.G o.dst none true = s.G := by cases o.dst <;> rfl
            rw [this]; exact hk
          · simp at hk
        · rename_i c hc
          split at hk
          · simp at hk
          · rename_i hw
            rw [Bool.cond_eq_ite] at hk
            split at hk
            · rename_i hok
              have hk := onV_eq hr hk
              cases hgv : gvOf s (guardDst ops o) with
              | false =>
                rw [hgv, hc] at hk
                rw [hc] at hgv tput
                exact OpsOut.cons (.void c r.v _ hgo hc hgv (fun d off e => by unfold recOf; rw [e]; simp [ptvOf])) (iOps_run hh _ _ _ _ _ _ (tput r.v false hgv) hk)
              | true =>
                rw [hgv] at hk hok
                have hok' : r.ok = true := by simpa using hok
                obtain ⟨e1, e2⟩ := writes_none hr hw
                have hrun := OpRun.run (P := P) (fh := fh) (ops := ops) (i := i) (o := o) (s := s) r hgo hgv (okop hgv htag) hr hok' (fun _ => hw)
                rw [e1, e2] at hrun
                refine OpsOut.cons hrun (iOps_run hh _ _ _ _ _ _ (tput r.v true hgv) ?_)
                exact hk
            · simp at hk
      · split at hk
        · rename_i c hc
          rw [Bool.cond_eq_ite] at hk
          split at hk
          · simp at hk
          · rename_i hgv
            exact hskip c hc (by rw [hc] at hgv; simpa using hgv) hk
        · simp at hk
end Go.Mu
