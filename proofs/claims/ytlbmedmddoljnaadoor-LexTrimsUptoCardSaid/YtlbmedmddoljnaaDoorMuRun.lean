/-
  Mu: what one operation of a region does in the model.
-/
import Derived.Test.YtlbmedmddoljnaaDoorMuRegion
set_option linter.unusedVariables false
set_option linter.unusedSimpArgs false
namespace Go.Mu
open Go
variable {P : Program} {h : Hd} {fh : FH} {ops : List Oper} {w w' : World} {a : Act} {E E' : Env} {H H' : Heap} {β β' : Nat → Option Nat} {T : List AVal} {B : Boxes} {G : Tags} {r : SR} {s s' : RS} {o : Oper}

def RepL (w : World) (E : Env) (H : Heap) (xs : List AVal) (cs : List Value) : Prop := cs.length = xs.length ∧ ∀ j, j < xs.length → Rep w E H (xs.getD j .undef) (cs.getD j undef)
theorem RepL.mono {xs : List AVal} {cs : List Value} (hs : Sees w E H w' E' H') (h : RepL w E H xs cs) : RepL w' E' H' xs cs := ⟨h.1, fun j hj => (h.2 j hj).mono hs⟩
theorem RepL.append {xs ys : List AVal} {cs ds : List Value} (h : RepL w E H xs cs) (g : RepL w E H ys ds) : RepL w E H (xs ++ ys) (cs ++ ds) := by
  refine ⟨by simp [h.1, g.1], fun j hj => ?_⟩
  simp only [List.getD_eq_getElem?_getD]
  rcases Nat.lt_or_ge j xs.length with k | k
  · rw [List.getElem?_append_left k, List.getElem?_append_left (by rw [h.1]; exact k)]
    have := h.2 j k
    simpa [List.getD_eq_getElem?_getD] using this
  · rw [List.getElem?_append_right k, List.getElem?_append_right (by rw [h.1]; exact k), h.1]
    have := g.2 (j - xs.length) (by simp at hj; omega)
    simpa [List.getD_eq_getElem?_getD] using this
inductive DefRep (w : World) (E : Env) (H : Heap) : List (FuncId × List AVal) → List Deferred → Prop
  | nil : DefRep w E H [] []
  | cons {g caps cs D ds} : RepL w E H caps cs → DefRep w E H D ds → DefRep w E H ((g, caps) :: D) ({ target := .fn (.func g) cs.toArray, args := #[] } :: ds)
theorem DefRep.mono {D : List (FuncId × List AVal)} {ds : List Deferred} (hs : Sees w E H w' E' H') (h : DefRep w E H D ds) : DefRep w' E' H' D ds := by
  induction h with
  | nil => exact .nil
  | cons h1 _ ih => exact .cons (h1.mono hs) ih

structure RI (w : World) (a : Act) (E : Env) (β : Nat → Option Nat) (s : RS) : Prop where
  fs : FS w a E s.H β s.T s.B s.G
  bad : ∀ t, valid s.G t = false → a.tmps.getD t undef = undef
  tag : TagInv s.T s.G
  defs : DefRep w E s.H s.D a.defers

theorem FS.put (fs : FS w a E H β T B G) {dst : Option Nat} (hd : freeDst G dst = true) {v : AVal} {c : Value} {g : Bool} {gc : Option (Nat × Bool)} (h : gc = none ∨ g = true → RepT w E H β v c) :
    FS w (a.put dst c) E H β (setDst T dst v) B (addTag G dst gc g) := by
  refine ⟨fs.sim, by rw [put_size, setDst_length]; exact fs.tsize, by rw [setDst_length]; exact fs.bsize, by rw [addTag_length, setDst_length]; exact fs.gsize, fun t ht => ?_, fs.box, fs.binj⟩
  by_cases e : dst = some t
  · subst e
    rw [setDst_same, put_same, fs.tsize]
    split
    · rename_i hlt
      apply h
      cases gc with
      | none => exact .inl rfl
      | some gc =>
        obtain ⟨d, q⟩ := gc
        refine .inr ?_
        unfold valid at ht
        rw [addTag_same, if_pos (by rw [fs.gsize]; exact hlt)] at ht
        exact ht
    · exact .undef _
  · rw [setDst_other e, put_other e]
    rw [valid_other e] at ht
    exact fs.vals t ht

/-- the invariants, when a slot is written -/
theorem RI.put {s : RS} (ri : RI w a E β s) {dst : Option Nat} {gc : Option (Nat × Bool)} (hd : freeDst s.G dst = true) (hg : guardOk s.T s.G dst gc = true) {v : AVal} {c : Value} {H' : Heap} {B' : Boxes} {E' : Env} {β' : Nat → Option Nat} {g : Bool}
    (fs : FS w' a E' H' β' s.T B' s.G) (hs : Sees w E s.H w' E' H') (hgv : ∀ d q, gc = some (d, q) → g = gval s.T s.G d q) (h : gc = none ∨ g = true → RepT w' E' H' β' v c) (hbad : gc ≠ none → g = false → c = undef) :
    RI w' (a.put dst c) E' β' { s with T := setDst s.T dst v, B := B', H := H', G := addTag s.G dst gc g } := by
  refine ⟨fs.put hd h, fun t ht => ?_, fun t d q g' ht => ?_, ?_⟩
  · by_cases e : dst = some t
    · subst e
      rw [put_same]
      split
      · rename_i hlt
        cases gc with
        | none =>
          have : valid s.G t = false := ht
          have hn := free_none hd
          unfold valid at this
          rw [hn] at this; cases this
        | some gc =>
          obtain ⟨d, q⟩ := gc
          refine hbad (by simp) ?_
          unfold valid at ht
          simp only at ht
          rw [addTag_same, if_pos (by rw [fs.gsize, ← fs.tsize]; exact hlt)] at ht
          exact ht
      · rfl
    · rw [put_other e]
      simp only at ht
      rw [valid_other e] at ht
      exact ri.bad t ht
  · simp only at ht ⊢
    by_cases e : dst = some t
    · subst e
      cases gc with
      | none =>
        have hn := free_none hd
        have : s.G.getD t none = some (d, q, g') := ht
        rw [hn] at this; cases this
      | some gc =>
        obtain ⟨d1, q1⟩ := gc
        rw [addTag_same] at ht
        split at ht
        · simp only [Option.some.injEq, Prod.mk.injEq] at ht
          obtain ⟨rfl, rfl, rfl⟩ := ht
          have hne : some t ≠ some d1 := by
            simp only [guardOk, Bool.and_eq_true, bne_iff_ne, ne_eq] at hg
            exact hg.2
          rw [gval_put hne]
          exact hgv _ _ rfl
        · cases ht
    · rw [addTag_other e] at ht
      rw [gval_put (free_apart hd ht)]
      exact ri.tag _ _ _ _ ht
  · rw [put_defers]; exact ri.defs.mono hs

/- is it wanted? -/
theorem wanted_iff {s : RS} (ri : RI w a E β s) (hg : guardGo ops s o) : Region.wanted o (yielded ops.toArray a.tmps) = gvOf s (guardDst ops o) := by
  obtain ⟨g1, g2, g3⟩ := hg
  unfold Region.wanted guardDst at *
  cases hgd : o.guard with
  | none => rfl
  | some jw =>
    obtain ⟨j, q⟩ := jw
    rw [hgd] at g1 g3
    simp only at g1 g3 ⊢
    cases hj : ops[j]? with
    | none => rw [hj] at g1; simp at g1
    | some oj =>
      rw [hj] at g1 g3
      simp only at g1 g3 ⊢
      cases hd : oj.dst with
      | none => rw [hd] at g1; simp at g1
      | some d =>
        rw [hd] at g3
        simp only [guardOk, Bool.and_eq_true, Bool.or_eq_true, Bool.not_eq_true'] at g3
        have hy : yielded ops.toArray a.tmps j = match a.tmps[d]? with | some (.bool b) => some b | _ => none := by
          unfold yielded
          have e : ((ops.toArray[j]?).bind (·.dst)) = some d := by simp [hj, hd]
          rw [e]; rfl
        rw [hy]
        simp only [gvOf, gval_eq]
        have hgt : ∀ c, a.tmps.getD d undef = c → c ≠ undef → a.tmps[d]? = some c := fun c hc hn => by
          rw [Array.getD_eq_getD_getElem?] at hc
          cases hh : a.tmps[d]? with
          | none => rw [hh] at hc; exact absurd hc.symm hn
          | some x => rw [hh] at hc; simpa using hc
        cases hv : valid s.G d with
        | false =>
          have hb := ri.bad d hv
          rw [Bool.and_false]
          have : (match a.tmps[d]? with | some (.bool b) => some b | _ => none) = (none : Option Bool) := by
            rw [Array.getD_eq_getD_getElem?] at hb
            cases hh : a.tmps[d]? with
            | none => rfl
            | some x => rw [hh] at hb; simp at hb; rw [hb]; rfl
          rw [this]; rfl
        | true =>
          rw [hv] at g3
          have hb : isBool (s.T.getD d .undef) = true := by
            rcases g3.1 with h | h
            · exact h
            · cases h
          have hr := ri.fs.vals d hv
          cases hT : s.T.getD d .undef <;> rw [hT] at hb <;> simp [isBool] at hb
          rename_i b
          rw [hT] at hr
          have := hgt _ (repT_bool hr) (by simp [undef])
          rw [this]
          simp [boolOf]
end Go.Mu
/-
  Mu: what one operation of a region does in the model (calls, panics).
-/
namespace Go.Mu
open Go
variable {P : Program} {h : Hd} {fh : FH} {ops : List Oper} {w w' : World} {a : Act} {E E' : Env} {H H' : Heap} {β β' : Nat → Option Nat} {T : List AVal} {B : Boxes} {G : Tags} {r : SR} {s s' : RS} {o : Oper}

theorem kind_call {op : Op} {f : Operand} {args : Array Operand} (h : kindOf P op = .call f args) : ∃ c : Call, op = .call c ∧ c.callee = .value f ∧ c.args = args := by
  unfold kindOf at h
  split at h
  · rename_i c
    split at h
    · rename_i g hc
      split at h
      · simp at h
      · simp only [Kind.call.injEq] at h
        obtain ⟨rfl, rfl⟩ := h
        exact ⟨c, rfl, hc, rfl⟩
    · simp at h
  · simp at h
  · split at h <;> simp at h
  · simp at h
theorem kind_pan {op : Op} {x : Operand} (h : kindOf P op = .pan x) : op = .panic x := by
  unfold kindOf at h
  split at h
  · split at h
    · split at h <;> simp at h
    · simp at h
  · simp only [Kind.pan.injEq] at h; subst h; rfl
  · split at h <;> simp at h
  · simp at h
theorem kind_dfr {op : Op} {f : Operand} {args : Array Operand} (h : kindOf P op = .dfr f args) : ∃ c : Call, op = .defer c ∧ c.callee = .value f ∧ c.args = args := by
  unfold kindOf at h
  split at h
  · split at h
    · split at h <;> simp at h
    · simp at h
  · simp at h
  · rename_i c
    split at h
    · rename_i g hc
      simp only [Kind.dfr.injEq] at h
      obtain ⟨rfl, rfl⟩ := h
      exact ⟨c, rfl, hc, rfl⟩
    · simp at h
  · simp at h
theorem funOf_some {v : AVal} {g : FuncId} {caps : List AVal} (h : funOf P v = some (g, caps)) : v = .func g caps ∧ callable P g = true := by
  unfold funOf at h
  split at h
  · split at h
    · rename_i hc
      simp only [Option.some.injEq, Prod.mk.injEq] at h
      obtain ⟨rfl, rfl⟩ := h
      exact ⟨rfl, hc⟩
    · simp at h
  · simp at h
theorem ifaceOf_some {v u : AVal} {t : TypeId} (h : ifaceOf v = some (t, u)) : v = .iface t u := by
  unfold ifaceOf at h
  split at h
  · simp only [Option.some.injEq, Prod.mk.injEq] at h
    obtain ⟨rfl, rfl⟩ := h
    rfl
  · simp at h

theorem run_callFunc_enter {g : FuncId} (hg : callable P g = true) (xs : Array Value) (w : World) : (callFunc g xs).run P w = .ok (.enter g xs) w := by
  unfold callable at hg
  split at hg
  · rename_i fn hf
    simp only [Bool.and_eq_true, bne_iff_ne, ne_eq] at hg
    have hb : fn.body.isNone = false := by
      have := hg.2
      cases hh : fn.body <;> simp_all
    simp only [callFunc, Sem.run_bind, run_program, Result.andThen_ok, hf]
    rw [if_neg (by simpa using hg.1), if_neg (by simp [hb])]
    simp
  · simp at hg
theorem func_cells {f : Operand} {g : FuncId} {caps : List AVal} (fs : FS w a E H β T B G) (hf : aeval T f = .func g caps) (hv : ∀ t, f = .tmp t → valid G t = true) : ∃ cs : List Value, a.eval f = .func (.func g) #[] cs.toArray ∧ RepL w E H caps cs := by
  have := aeval_rep fs f hv
  rw [hf] at this
  obtain ⟨cs, e, hl, hr⟩ := rep_func (noTmp_of this (by simp))
  exact ⟨cs, e, hl.symm, hr⟩
theorem args_rep (fs : FS w a E H β T B G) {args : Array Operand} (hv : ∀ x ∈ args.toList, ∀ t, x = .tmp t → valid G t = true) (hn : (args.toList.map (aeval T)).all noTmp = true) : RepL w E H (args.toList.map (aeval T)) (args.map a.eval).toList := by
  refine ⟨by simp, fun j hj => ?_⟩
  have hj' : j < args.toList.length := by simpa using hj
  have e1 : (args.toList.map (aeval T)).getD j .undef = aeval T args.toList[j] := by
    simp only [List.getD_eq_getElem?_getD, List.getElem?_map, List.getElem?_eq_getElem hj', Option.map_some, Option.getD_some]
  have e2 : (args.map a.eval).toList.getD j undef = a.eval args.toList[j] := by
    simp only [Array.toList_map, List.getD_eq_getElem?_getD, List.getElem?_map, List.getElem?_eq_getElem hj', Option.map_some, Option.getD_some]
  rw [e1, e2]
  exact noTmp_rep (List.all_eq_true.1 hn _ (List.mem_map.2 ⟨_, List.getElem_mem hj', rfl⟩)) (aeval_rep fs _ (hv _ (List.getElem_mem hj')))

theorem okTmps_of (hk : ∀ c x y, o.op ≠ .pick c x y) (h : okOp T G o) : okTmps G o := by
  unfold okOp at h
  split at h
  · rename_i c x y e; exact absurd e (hk c x y)
  · exact h
theorem okTmps_of_mem (h : okTmps G o) {x : Operand} (hx : x ∈ o.op.operands.toList) (t : Nat) (e : x = .tmp t) : valid G t = true := by
  subst e; exact h t (List.mem_filterMap.2 ⟨_, hx, rfl⟩)

/-- what a call gives over -/
theorem call_exec (ri : RI w a E β s) (hok : okOp s.T s.G o) {f : Operand} {args : Array Operand} (hk : kindOf P o.op = .call f args) {g : FuncId} {caps : List AVal} (hf : funOf P (aeval s.T f) = some (g, caps))
    (hn : (args.toList.map (aeval s.T) ++ caps).all noTmp = true) : ∃ cs : List Value, (execOp a.eval o).run P w = .ok (.enter g cs.toArray) w ∧ RepL w E s.H (args.toList.map (aeval s.T) ++ caps) cs := by
  obtain ⟨c, e, hc, ha⟩ := kind_call hk
  obtain ⟨hf', hcall⟩ := funOf_some hf
  have hot := okTmps_of (fun c x y he => by rw [e] at he; cases he) hok
  have hmf : f ∈ o.op.operands.toList := by rw [e]; simp [Op.operands, Call.operands, hc]
  have hma : ∀ x ∈ args.toList, x ∈ o.op.operands.toList := fun x hx => by
    rw [e]
    simp only [Op.operands, Call.operands, hc, ha]
    have hx' : x ∈ args := by simpa using hx
    simp [hx']
  obtain ⟨cs, ef, hr⟩ := func_cells ri.fs hf' (okTmps_of_mem hot hmf)
  rw [List.all_append, Bool.and_eq_true] at hn
  have hra := args_rep ri.fs (fun x hx => okTmps_of_mem hot (hma x hx)) hn.1
  refine ⟨(args.map a.eval).toList ++ cs, ?_, hra.append hr⟩
  simp only [execOp, e, resolve, hc, ha, ef, Deferred.ofValue, Sem.run_bind, Sem.run_pure, Result.andThen_ok, invoke]
  rw [run_callFunc_enter hcall]
  simp

/-- a call's end, in the caller's frame -/
theorem RI.called (ri : RI w a E β s) (ev : Evo No w E s.H w' E' H') (sim : Sim w' E' H') : RI w' a E' β { s with H := H' } := by
  have hs := ev.sees
  refine ⟨ri.fs.keep sim hs ev.size (fun t b hb hi => ?_) (fun t b hb k hk he => ?_) (fun t b hb => ?_), ri.bad, ri.tag, ri.defs.mono hs⟩
  · obtain ⟨h1, h2, h3, h4⟩ := ri.fs.box t b hb
    rcases ev.immNew b hi with g | g
    · exact h1 g
    · omega
  · obtain ⟨h1, h2, h3, h4⟩ := ri.fs.box t b hb
    rcases ev.phi k hk with g | ⟨g1, g2⟩
    · omega
    · exact h3 k g1 (by rw [← g2]; exact he)
  · obtain ⟨h1, h2, h3, h4⟩ := ri.fs.box t b hb
    exact ev.kept b h2 (fun h => h) h3
theorem Evo.weaken {X Y : Nat → Prop} (h : ∀ x, X x → Y x) (ev : Evo X w E H w' E' H') : Evo Y w E H w' E' H' :=
  ⟨ev.size, fun b hb hn hk => ev.kept b hb (fun hx => hn (h b hx)) hk, ev.immKept, ev.immNew, ev.var, ev.arr, ev.phi, ev.len, ev.tape, ev.os, ev.output⟩

/-- where an operation may lead -/
structure Next (w : World) (E : Env) (β : Nat → Option Nat) (H : Heap) (w' : World) (a' : Act) (E' : Env) (β' : Nat → Option Nat) (s' : RS) : Prop where
  ri : RI w' a' E' β' s'
  evo : Evo (Xβ β) w E H w' E' s'.H
  new : ∀ t b, β' t = some b → β t = some b ∨ w.heap.size ≤ b

theorem op_sound {i : Nat} {recs : List Rec} {Q : Exit → Act → World → Prop} {K : Act → World → Prop} (hr : OpRun P fh ops i o s recs s') (ho : ops[i]? = some o) (ri : RI w a E β s)
    (hK : ∀ w' a' E' β', Next w E β s.H w' a' E' β' s' → K a' w') : wpOp P ops.toArray Q i K a w := by
  have hoa : ops.toArray[i]? = some o := by simpa using ho
  unfold wpOp
  simp only [hoa]
  cases hr with
  | void c v _ hg hc hgv hpt =>
    rw [if_neg (by rw [wanted_iff ri hg, hc, hgv]; simp)]
    obtain ⟨g1, g2, g3⟩ := hg
    rw [hc] at g3
    refine hK w _ E β ⟨ri.put g2 g3 ri.fs ⟨fun _ h => ⟨h, rfl⟩, fun _ h => ⟨h, rfl⟩, fun _ _ u h => ⟨u, h, Nat.le_refl _, fun _ => ⟨rfl, fun _ => rfl⟩⟩⟩ (fun d q e => ?_) (fun e => ?_) (fun _ _ => rfl), .refl, fun _ _ h => .inl h⟩
    · cases e; exact hgv.symm
    · rcases e with e | e <;> cases e
  | run q hg hgv htag hst hok hw =>
    rw [if_pos (by rw [wanted_iff ri hg]; exact hgv)]
    left
    have hgv' : ∀ d q, guardDst ops o = some (d, q) → gval s.T s.G d q = true := fun d q e => by rw [e] at hgv; exact hgv
    have hop := htag
    obtain ⟨c, w1, E1, β1, out⟩ := step_sound ri.fs hop hst hok
    obtain ⟨g1, g2, g3⟩ := hg
    have key : Next w E β s.H w1 (a.put o.dst c) E1 β1 { s with T := setDst s.T o.dst q.v, B := q.B, H := q.H, G := addTag s.G o.dst (guardDst ops o) true } :=
      ⟨ri.put g2 g3 out.fs out.evo.sees (fun d q e => (hgv' d q e).symm) (fun _ => out.rep) (fun _ e => by simp at e), out.evo, out.new⟩
    unfold Oper.wp
    rcases out.run with e | ⟨e, rfl⟩
    · rw [e]; exact hK _ _ _ _ key
    · rw [e]; exact hK _ _ _ _ key
  | call f args g caps v H1 hg hgv htag hkind hf hn hcall hq hp =>
    rw [if_pos (by rw [wanted_iff ri hg]; exact hgv)]
    left
    have hgv' : ∀ d q, guardDst ops o = some (d, q) → gval s.T s.G d q = true := fun d q e => by rw [e] at hgv; exact hgv
    have hop := htag
    obtain ⟨cs, e, hrep⟩ := call_exec (P := P) ri hop hkind hf hn
    obtain ⟨g1, g2, g3⟩ := hg
    unfold Oper.wp
    rw [e]
    refine Calls.mono (hcall w E cs ri.fs.sim hrep.1 hrep.2) (fun e w1 hp => ?_)
    cases e with
    | returned c =>
      obtain ⟨E1, ev, sim, hrv⟩ := hp
      have rc := ri.called ev sim
      exact hK _ _ _ _ ⟨ri.put g2 g3 rc.fs ev.sees (fun d q e => (hgv' d q e).symm) (fun _ => .val _ _ hrv) (fun _ e => by simp at e), ev.weaken (fun x hx => absurd hx (fun h => h)), fun _ _ h => .inl h⟩
    | panicked _ => exact hp.elim
    | outgrown => exact hp.elim
  | dfr f args g caps hg hc htag hkind hargs hf hn =>
    rw [if_pos (by rw [wanted_iff ri hg, hc]; rfl)]
    left
    have hop := htag
    obtain ⟨c, e, hcc, ha⟩ := kind_dfr hkind
    obtain ⟨hf', hcall⟩ := funOf_some hf
    have hot := okTmps_of (fun c x y he => by rw [e] at he; cases he) hop
    have hmf : f ∈ o.op.operands.toList := by rw [e]; simp [Op.operands, Call.operands, hcc]
    obtain ⟨cs, ef, hr⟩ := func_cells ri.fs hf' (okTmps_of_mem hot hmf)
    have ha0 : c.args = #[] := Array.eq_empty_of_size_eq_zero (by rw [ha]; exact hargs)
    have hrun : (execOp a.eval o).run P w = .ok (.defer { target := .fn (.func g) cs.toArray, args := #[] }) w := by
      simp [execOp, e, resolve, hcc, ha0, ef, Deferred.ofValue]
    unfold Oper.wp
    rw [hrun]
    obtain ⟨g1, g2, g3⟩ := hg
    rw [hc] at g3
    have ri2 : RI w { a with defers := { target := .fn (.func g) cs.toArray, args := #[] } :: a.defers } E β { s with D := (g, caps) :: s.D } :=
      ⟨⟨ri.fs.sim, ri.fs.tsize, ri.fs.bsize, ri.fs.gsize, ri.fs.vals, ri.fs.box, ri.fs.binj⟩, ri.bad, ri.tag, .cons hr ri.defs⟩
    have key := ri2.put (v := .undef) (c := undef) (g := true) g2 g3 ri2.fs ⟨fun _ h => ⟨h, rfl⟩, fun _ h => ⟨h, rfl⟩, fun _ _ u h => ⟨u, h, Nat.le_refl _, fun _ => ⟨rfl, fun _ => rfl⟩⟩⟩ (fun d q e => by cases e) (fun _ => .undef _) (fun h => absurd rfl h)
    have hnt : addTag s.G o.dst none true = s.G := by cases o.dst <;> rfl
    simp only [hnt] at key
    exact hK _ _ _ _ ⟨key, .refl, fun _ _ h => .inl h⟩

/-- where a panic leads -/
structure Fell (w : World) (E : Env) (β : Nat → Option Nat) (H : Heap) (w' : World) (a' : Act) (E' : Env) (p : AVal) (c : Value) (s' : RS) : Prop where
  ri : RI w' a' E' β s'
  evo : Evo (Xβ β) w E H w' E' s'.H
  rep : Rep w' E' s'.H p c

theorem pan_sound {i : Nat} {p : AVal} {Q : Exit → Act → World → Prop} {K : Act → World → Prop} (hr : OpPan P fh ops o s p s') (ho : ops[i]? = some o) (ri : RI w a E β s)
    (hQ : ∀ w' E' c, Fell w E β s.H w' a E' p c s' → Q (.panic [{ v := c, recovered := false }]) a w') : wpOp P ops.toArray Q i K a w := by
  have hoa : ops.toArray[i]? = some o := by simpa using ho
  unfold wpOp
  simp only [hoa]
  cases hr with
  | pan x t v hg hc htag hkind hi =>
    rw [if_pos (by rw [wanted_iff ri hg, hc]; rfl)]
    left
    have hop := htag
    have e := kind_pan hkind
    have hot := okTmps_of (fun c x y he => by rw [e] at he; cases he) hop
    have hm : x ∈ o.op.operands.toList := by rw [e]; simp [Op.operands]
    have hx := aeval_rep ri.fs x (okTmps_of_mem hot hm)
    rw [ifaceOf_some hi] at hx
    have hx' := noTmp_of hx (by simp)
    obtain ⟨d, ed, hd⟩ := rep_iface hx'
    have hrun : (execOp a.eval o).run P w = .halt (.panic (.iface t d)) w := by
      simp [execOp, e, ed, Instr.panic, goPanic]
    unfold Oper.wp
    rw [hrun]
    rw [ed] at hx'
    exact hQ w E _ ⟨ri, .refl, hx'⟩
  | call f args g caps _ H1 hg hgv htag hkind hf hn hcall =>
    rw [if_pos (by rw [wanted_iff ri hg]; exact hgv)]
    left
    have hgv' : ∀ d q, guardDst ops o = some (d, q) → gval s.T s.G d q = true := fun d q e => by rw [e] at hgv; exact hgv
    have hop := htag
    obtain ⟨cs, e, hrep⟩ := call_exec (P := P) ri hop hkind hf hn
    unfold Oper.wp
    rw [e]
    refine Calls.mono (hcall w E cs ri.fs.sim hrep.1 hrep.2) (fun e w1 hp => ?_)
    cases e with
    | returned c => exact hp.elim
    | panicked chain =>
      obtain ⟨E1, c, rfl, ev, sim, hrv⟩ := hp
      exact hQ _ _ _ ⟨ri.called ev sim, ev.weaken (fun x hx => absurd hx (fun h => h)), hrv⟩
    | outgrown => exact hp.elim
end Go.Mu
