/-
  Mu: deferred function literals; functions.
-/
import Derived.Test.YtlbmedmddoljnaaDoorMuFun
import Derived.Recover
set_option linter.unusedVariables false
set_option linter.unusedSimpArgs false
namespace Go.Mu
open Go
variable {P : Program} {h : Hd} {fh : FH} {fhs : FuncId → FH} {w w' : World} {a : Act} {E E' : Env} {H H' : Heap} {β β' : Nat → Option Nat} {st st' : St}

def ModeRep (w : World) (E : Env) (H : Heap) : Option AVal → FrameMode → Prop
  | none, u => u = .returning
  | some p, u => ∃ c, u = .panicking [{ v := c, recovered := false }] ∧ Rep w E H p c
theorem ModeRep.mono {m : Option AVal} {u : FrameMode} (hs : Sees w E H w' E' H') (h : ModeRep w E H m u) : ModeRep w' E' H' m u := by
  cases m with
  | none => exact h
  | some p => obtain ⟨c, h1, h2⟩ := h; exact ⟨c, h1, h2.mono hs⟩

/-- the operations behind the first see no caller -/
theorem opsS_of_ops {Q : Exit → Act → List Frame → World → Prop} {cs : List Frame} {ops : Array Oper} (hl : ∀ a w, ¬ Q .outgrown a cs w) : ∀ (l : List Nat) (a : Act) (w : World), wpOps P ops (fun e a w => Q e a cs w) l a w → wpOpsS P ops Q l a cs w
  | [], a, w, h => h
  | i :: rest, a, w, h => by
    simp only [wpOps] at h
    simp only [wpOpsS]
    split
    · rename_i ho
      simp only [ho] at h
      exact opsS_of_ops hl rest a w h
    · rename_i o ho
      simp only [ho] at h
      split
      · rename_i hw
        simp only [hw, if_true] at h
        rcases h with h | ⟨_, a', w', hq⟩
        · unfold Oper.wp at h
          split
          · rename_i w1 hr
            rw [hr] at h
            exact h.elim
          · rename_i r hnot
            generalize (execOp a.eval o).run P w = r' at h hnot ⊢
            cases r' with
            | ok n w1 =>
              cases n <;> simp only [Oper.upon] at h ⊢ <;>
                first
                  | exact opsS_of_ops hl rest _ _ h
                  | exact Calls.mono h (fun e w2 he => by cases e <;> first | exact opsS_of_ops hl rest _ _ he | exact he)
                  | exact Rows.mono h (fun _ _ he => opsS_of_ops hl rest _ _ he)
            | halt x w1 => cases x <;> simp only [Oper.upon] at h ⊢ <;> exact h
        · exact absurd hq (hl _ _)
      · rename_i hw
        simp only [hw] at h
        exact opsS_of_ops hl rest _ _ h

/-- one deferred function literal -/
theorem iDeferred_sound (hh : HOK P h) {F : Nat} {g : FuncId} (hr : FnOK P h fh g) {caps : List AVal} {m : Option AVal} {k : Bool → Heap → Ans} {out : Out} (hi : iDeferred P h fh F g caps m H k = some out) :
    ∃ H', k m.isSome H' = some out ∧ ∀ w E (cs : List Value) u, Sim w E H → RepL w E H caps cs → ModeRep w E H m u →
      CallsD P g cs.toArray u w (fun e u' w' => ∃ E' v, e = .returned v ∧ settle u' = .returning ∧ Evo No w E H w' E' H' ∧ Sim w' E' H') := by
  unfold iDeferred at hi
  split at hi
  case h_2 => simp at hi
  rename_i fn hf
  split at hi
  case h_2 => simp at hi
  rename_i id ops rest hb hres
  split at hi
  case h_2 => simp at hi
  rename_i o os hops
  split at hi
  case h_2 => simp at hi
  rename_i ar at' d hop hgd hdst
  simp only [withUntag_eq, iOps_eq] at hi
  have hfin : ∀ {e : AExit} {st' : St}, (match e with
              | .normal => if st'.D.isEmpty then k m.isSome st'.H else none
              | .ret => if st'.D.isEmpty then k m.isSome st'.H else none
              | _ => none) = some out → (e = .normal ∨ e = .ret) ∧ st'.D.isEmpty = true ∧ k m.isSome st'.H = some out := by
    intro e st' he
    cases e <;> simp only at he
    · split at he
      · rename_i hd; exact ⟨.inl rfl, hd, he⟩
      · simp at he
    · simp at he
    · split at he
      · rename_i hd; exact ⟨.inr rfl, hd, he⟩
      · simp at he
    · simp at he
  rcases iOps_run hh _ _ _ _ _ _ (fun t d w g hh => by
      have : ((start fn caps H).T.map fun _ => none : Tags).getD t none = none := getD_map_none _ _
      rw [this] at hh; cases hh) hi with ⟨recs, s', h1, h2⟩ | ⟨j, recs, p, s', h1, h2⟩
  case inr => simp at h2
  obtain ⟨e, st', hc, hk⟩ := iCode_sound hr.reg rest (hr.lp fn _ hf hb).2 _ _ _ h2
  obtain ⟨he, hD, hk'⟩ := hfin hk
  refine ⟨st'.H, hk', fun w E cs u sim hcs hm => ?_⟩
  refine callsD_of_wpS hf hb (fun c₀ cs₀ hu => ?_)
  have ci := start_ci (fn := fn) sim hcs
  -- the first operation
  have hv : ∃ v cs', recoverD (c₀ :: cs₀) = (if m.isSome then some (v, cs') else none) ∧ (∃ u', (if m.isSome then cs' else c₀ :: cs₀) = { c₀ with mode := u' } :: cs₀ ∧ settle u' = .returning) ∧ Rep w E H (recV m) (if m.isSome then v else .nilIface) := by
    cases m with
    | none =>
      have hm' : u = .returning := hm
      refine ⟨undef, [], ?_, ⟨.returning, ?_, rfl⟩, .pure _ _ .nilIface⟩
      · simp [recoverD, hu, hm']
      · simp [← hu.trans hm']
    | some p =>
      obtain ⟨c, hc1, hc2⟩ := hm
      refine ⟨c, { c₀ with mode := .panicking [{ v := c, recovered := true }] } :: cs₀, ?_, ⟨_, rfl, rfl⟩, hc2⟩
      simp [recoverD, hu, hc1]
  obtain ⟨v, cs', hrec, ⟨u', hcs', hset⟩, hrv⟩ := hv
  have hoa : ops = (o :: os).toArray := by rw [← hops]
  subst hoa
  refine wpS_seq (wpS_region ?_)
  have hsz : (o :: os).toArray.size = os.length + 1 := by simp
  rw [hsz, List.range_eq_range', List.range'_succ]
  have ho0 : (o :: os).toArray[0]? = some o := by simp
  have hwant : Region.wanted o (yielded (o :: os).toArray (act0 fn cs.toArray).tmps) = true := by simp [Region.wanted, hgd]
  have hexec : (execOp (act0 fn cs.toArray).eval o).run P w = .ok .recover w := by
    simp [execOp, hop, resolve, invoke, builtin]
  have first : ∀ Q : Exit → Act → List Frame → World → Prop, wpOpsS P (o :: os).toArray Q (List.range' 1 os.length) ((act0 fn cs.toArray).put (some d) (if m.isSome then v else .nilIface)) ({ c₀ with mode := u' } :: cs₀) w →
      wpOpsS P (o :: os).toArray Q (0 :: List.range' (0 + 1) os.length) (act0 fn cs.toArray) (c₀ :: cs₀) w := by
    intro Q hq
    simp only [wpOpsS, ho0, hwant, if_true, hexec, hrec, hdst]
    rw [← hcs'] at hq
    cases hm' : m.isSome <;> simp only [hm', if_true, if_false, Bool.false_eq_true] at hq ⊢ <;> exact hq
  refine first _ (opsS_of_ops (fun a w hq => ?_) _ _ _ ?_)
  · obtain ⟨u'', E', v', he', _⟩ := hq
    cases he'
  have fr : freeDst (toRS (start fn caps H)).G (some d) = true := by
    simp only [freeDst, Bool.and_eq_true, List.all_eq_true]
    refine ⟨fun x hx => ?_, ?_⟩
    · simp only [toRS, List.mem_map] at hx
      obtain ⟨_, _, rfl⟩ := hx
      rfl
    · rw [show (toRS (start fn caps H)).G.getD d none = none from getD_map_none _ _]; rfl
  have ri := RI.put (gc := none) (g := true) (dst := some d) (v := recV m) (c := if m.isSome then v else .nilIface) ci fr rfl ci.fs ⟨fun _ h => ⟨h, rfl⟩, fun _ h => ⟨h, rfl⟩, fun _ _ u h => ⟨u, h, Nat.le_refl _, fun _ => ⟨rfl, fun _ => rfl⟩⟩⟩ (fun d q e => by cases e) (fun _ => .val _ _ hrv) (fun h => absurd rfl h)
  refine ops_sound (ops := o :: os) os 1 _ _ _ h1 rfl ri (fun w1 a1 E1 β1 n1 => ?_)
  refine wpS_of_wp (wp_mono (hc w1 a1 E1 β1 n1.ri.untag) (fun x a2 w2 hl => ?_))
  obtain ⟨E2, β2, k1, k2, k3, k4⟩ := Leaves'.trans n1.evo n1.new hl
  have hd2 := defs_nil k2.defs hD
  have hres2 : (results fn a2.tmps).run P w2 = .ok (.tuple #[]) w2 := by
    have : fn.results = #[] := by apply Array.ext'; simpa using hres
    simp [results, this]
  have fin : a2.defers = [] ∧ ∃ u'_1, { c₀ with mode := u' } :: cs₀ = { c₀ with mode := u'_1 } :: cs₀ ∧ ∃ v, (results fn a2.tmps).run P w2 = .ok v w2 ∧ (∃ E' v', Ending.returned v = .returned v' ∧ settle u'_1 = .returning ∧ Evo No w E H w2 E' st'.H ∧ Sim w2 E' st'.H) :=
    ⟨hd2, u', rfl, _, hres2, E2, _, rfl, hset, evo_none k3, k2.fs.sim⟩
  rcases he with rfl | rfl
  · cases x <;> first | exact k1.elim | exact fin
  · cases x <;> first | exact k1.elim | exact fin

/-- the deferred calls, one by one -/
theorem iDefers_sound (hh : HOK P h) (hr : ∀ g, FnOK P h (fhs g) g) {F : Nat} : ∀ (D : List (FuncId × List AVal)) (m : Option AVal) (H : Heap) (k : Option AVal → Heap → Ans) (out : Out), iDefers P h fhs F D m H k = some out →
    ∃ m' H', k m' H' = some out ∧ ∀ (fn : Func) (tmps : Array Value) (R : Ending → World → Prop) w E ds u, Sim w E H → DefRep w E H D ds → ModeRep w E H m u → (∀ w' E' u', Evo No w E H w' E' H' → Sim w' E' H' → ModeRep w' E' H' m' u' → Leaves P fn tmps R [] u' w') → Leaves P fn tmps R ds u w
  | [], m, H, k, out, h => ⟨m, H, h, fun fn tmps R w E ds u sim hd hm hf => by
      cases hd
      exact hf w E u .refl sim hm⟩
  | (g, caps) :: D, m, H, k, out, h => by
    simp only [iDefers] at h
    split at h
    case isFalse => simp at h
    rename_i hcall
    obtain ⟨H1, h1, h2⟩ := iDeferred_sound hh (hr g) h
    obtain ⟨m', H', g1, g2⟩ := iDefers_sound hh hr D _ H1 k out h1
    refine ⟨m', H', g1, fun fn tmps R w E ds u sim hd hm hf => ?_⟩
    cases hd with
    | cons hcs hd =>
      rename_i cs ds
      have hne : u ≠ .run := by
        cases m with
        | none => rw [show u = .returning from hm]; simp
        | some p => obtain ⟨c, hc, _⟩ := hm; rw [hc]; simp
      refine leaves_cons (f := g) (args := cs.toArray) hne ?_ (CallsD.mono (h2 w E cs u sim hcs hm) (fun e u' w' hp => ?_))
      · simp only [invoke]
        rw [run_callFunc_enter hcall]
        simp
      · obtain ⟨E', v, rfl, hset, ev, sim'⟩ := hp
        simp only
        rw [hset]
        refine g2 fn tmps R w' E' ds .returning sim' (hd.mono ev.sees) ?_ (fun w2 E2 u2 ev2 sim2 hm2 => hf w2 E2 u2 (ev.trans ev2 (fun x hx => absurd hx (fun h => h))) sim2 hm2)
        cases m with
        | none => rfl
        | some p => rfl
end Go.Mu
