/-
  Lemmas on the given program (part 3).
-/
import Derived.Test.YtjaekcceagbefaaGreatDoorPW2
import Derived.Recover
import Derived.DataReads
import Derived.ChangeOld
import Derived.ChangeSame
import Derived.ChangeReads
import Derived.RowKit
set_option linter.unusedVariables false
set_option linter.unusedSimpArgs false
namespace Go.Mu
open Go
variable {P : Program} {h : Hd} {fh : FH} {fhs : FuncId → FH} {w w' : World} {a : Act} {E E' : Env} {H H' : Heap} {β β' : Nat → Option Nat} {st st' : St}
def ModeRep (w : World) (E : Env) (H : Heap) : Option AVal → FrameMode → Prop
 | none, u => u = .returning
 | some p, u => ∃ c, u = .panicking [{ v := c, recovered := false }] ∧ Rep w E H p c
theorem opsS_of_ops {Q : Exit → Act → List Frame → World → Prop} {cs : List Frame} {ops : Array Oper} (hl : ∀ a w, ¬ Q .outgrown a cs w) : ∀ (l : List Nat) (a : Act) (w : World), wpOps P ops (fun e a w => Q e a cs w) l a w → wpOpsS P ops Q l a cs w
 | [], a, w, h => h
 | i :: rest, a, w, h => by
  simp only [wpOps] at h
  simp only [wpOpsS]
  split
  · rename_i ho
    simp only [ho] at h
    exact opsS_of_ops hl rest a w h
  · rename_i o ho
    simp only [ho] at h
    split
    · rename_i hw
      simp only [hw, if_true] at h
      rcases h with h | ⟨_, a', w', hq⟩
      · unfold Oper.wp at h
        split
        · rename_i w1 hr
          rw [hr] at h
          exact h.elim
        · rename_i r hnot
          generalize (execOp a.eval o).run P w = r' at h hnot ⊢
          cases r' with
          | ok n w1 =>
           cases n <;> simp only [Oper.upon] at h ⊢ <;>
            first
             | exact opsS_of_ops hl rest _ _ h
             | exact Calls.mono h (fun e w2 he => by cases e <;> first | exact opsS_of_ops hl rest _ _ he | exact he)
             | exact Rows.mono h (fun _ _ he => opsS_of_ops hl rest _ _ he)
          | halt x w1 => cases x <;> simp only [Oper.upon] at h ⊢ <;> exact h
      · exact absurd hq (hl _ _)
    · rename_i hw
      simp only [hw] at h
      exact opsS_of_ops hl rest _ _ h
theorem iDeferred_sound (hh : HOK P h) {F : Nat} {g : FuncId} (hr : FnOK P h fh g) {caps : Vs} {m : Option AVal} {k : Bool → Heap → Ans} {out : Out} (hi : iDeferred P h fh F g caps m H k = some out) :
 ∃ H', k m.isSome H' = some out ∧ ∀ w E (cs : List Value) u, Sim w E H → RepL w E H caps cs → ModeRep w E H m u →
  CallsD P g cs.toArray u w (fun e u' w' => ∃ E' v, e = .returned v ∧ settle u' = .returning ∧ Evo No w E H w' E' H' ∧ Sim w' E' H') := by
 unfold iDeferred at hi
 split at hi
 case h_2 => simp at hi
 rename_i fn hf
 split at hi
 case h_2 => simp at hi
 rename_i id ops rest hb hres
 split at hi
 case h_2 => simp at hi
 rename_i o os hops
 split at hi
 case h_2 => simp at hi
 rename_i ar at' d hop hgd hdst
 simp only [withUntag_eq, iOps_eq] at hi
 have hfin : ∀ {e : AExit} {st' : St}, (match e with
  | .normal => if st'.D.isEmpty then k m.isSome st'.H else none
  | .ret => if st'.D.isEmpty then k m.isSome st'.H else none
  | _ => none) = some out → (e = .normal ∨ e = .ret) ∧ st'.D.isEmpty = true ∧ k m.isSome st'.H = some out := by
  intro e st' he
  cases e <;> simp only at he
  · split at he
    · rename_i hd; exact ⟨.inl rfl, hd, he⟩
    · simp at he
  · simp at he
  · split at he
    · rename_i hd; exact ⟨.inr rfl, hd, he⟩
    · simp at he
  · simp at he
 rcases iOps_run hh _ _ _ _ _ _ (fun t d w g hh => by
  have : ((start fn caps H).T.map fun _ => none : Tags).getD t none = none := getD_map_none _ _
  rw [this] at hh; cases hh) hi with ⟨recs, s', h1, h2⟩ | ⟨j, recs, p, s', h1, h2⟩
 case inr => simp at h2
 obtain ⟨e, st', hc, hk⟩ := iCode_sound hr.reg rest (hr.lp fn _ hf hb).2 _ _ _ h2
 obtain ⟨he, hD, hk'⟩ := hfin hk
 refine ⟨st'.H, hk', fun w E cs u sim hcs hm => ?_⟩
 refine callsD_of_wpS hf hb (fun c₀ cs₀ hu => ?_)
 have ci := start_ci (fn := fn) sim hcs
 -- the first operation
 have hv : ∃ v cs', recoverD (c₀ :: cs₀) = (if m.isSome then some (v, cs') else none) ∧ (∃ u', (if m.isSome then cs' else c₀ :: cs₀) = { c₀ with mode := u' } :: cs₀ ∧ settle u' = .returning) ∧ Rep w E H (recV m) (if m.isSome then v else .nilIface) := by
  cases m with
  | none =>
   have hm' : u = .returning := hm
   refine ⟨undef, [], ?_, ⟨.returning, ?_, rfl⟩, .pure _ _ .nilIface⟩
   · simp [recoverD, hu, hm']
   · simp [← hu.trans hm']
  | some p =>
   obtain ⟨c, hc1, hc2⟩ := hm
   refine ⟨c, { c₀ with mode := .panicking [{ v := c, recovered := true }] } :: cs₀, ?_, ⟨_, rfl, rfl⟩, hc2⟩
   simp [recoverD, hu, hc1]
 obtain ⟨v, cs', hrec, ⟨u', hcs', hset⟩, hrv⟩ := hv
 have hoa : ops = (o :: os).toArray := by rw [← hops]
 subst hoa
 refine wpS_seq (wpS_region ?_)
 have hsz : (o :: os).toArray.size = os.length + 1 := by simp
 rw [hsz, List.range_eq_range', List.range'_succ]
 have ho0 : (o :: os).toArray[0]? = some o := by simp
 have hwant : Region.wanted o (yielded (o :: os).toArray (act0 fn cs.toArray).tmps) = true := by simp [Region.wanted, hgd]
 have hexec : (execOp (act0 fn cs.toArray).eval o).run P w = .ok .recover w := by
  simp [execOp, hop, resolve, invoke, builtin]
 have first : ∀ Q : Exit → Act → List Frame → World → Prop, wpOpsS P (o :: os).toArray Q (List.range' 1 os.length) ((act0 fn cs.toArray).put (some d) (if m.isSome then v else .nilIface)) ({ c₀ with mode := u' } :: cs₀) w →
  wpOpsS P (o :: os).toArray Q (0 :: List.range' (0 + 1) os.length) (act0 fn cs.toArray) (c₀ :: cs₀) w := by
  intro Q hq
  simp only [wpOpsS, ho0, hwant, if_true, hexec, hrec, hdst]
  rw [← hcs'] at hq
  cases hm' : m.isSome <;> simp only [hm', if_true, if_false, Bool.false_eq_true] at hq ⊢ <;> exact hq
 refine first _ (opsS_of_ops (fun a w hq => ?_) _ _ _ ?_)
 · obtain ⟨u'', E', v', he', _⟩ := hq
   cases he'
 have fr : freeDst (toRS (start fn caps H)).G (some d) = true := by
  simp only [freeDst, Bool.and_eq_true, List.all_eq_true]
  refine ⟨fun x hx => ?_, ?_⟩
  · simp only [toRS, List.mem_map] at hx
    obtain ⟨_, _, rfl⟩ := hx
    rfl
  · rw [show (toRS (start fn caps H)).G.getD d none = none from getD_map_none _ _]; rfl
 have ri := RI.put (gc := none) (g := true) (dst := some d) (v := recV m) (c := if m.isSome then v else .nilIface) ci fr rfl ci.fs ⟨fun _ h => ⟨h, rfl⟩, fun _ h => ⟨h, rfl⟩, fun _ _ u h => ⟨u, h, Nat.le_refl _, fun _ => ⟨rfl, fun _ => rfl⟩⟩⟩ (fun d q e => by cases e) (fun _ => .val _ _ hrv) (fun h => absurd rfl h)
 refine ops_sound (ops := o :: os) os 1 _ _ _ h1 rfl ri (fun w1 a1 E1 β1 n1 => ?_)
 refine wpS_of_wp (wp_mono (hc w1 a1 E1 β1 n1.ri.untag) (fun x a2 w2 hl => ?_))
 obtain ⟨E2, β2, k1, k2, k3, k4⟩ := Leaves'.trans n1.evo n1.new hl
 have hd2 := defs_nil k2.defs hD
 have hres2 : (results fn a2.tmps).run P w2 = .ok (.tuple #[]) w2 := by
  have : fn.results = #[] := by apply Array.ext'; simpa using hres
  simp [results, this]
 have fin : a2.defers = [] ∧ ∃ u'_1, { c₀ with mode := u' } :: cs₀ = { c₀ with mode := u'_1 } :: cs₀ ∧ ∃ v, (results fn a2.tmps).run P w2 = .ok v w2 ∧ (∃ E' v', Ending.returned v = .returned v' ∧ settle u'_1 = .returning ∧ Evo No w E H w2 E' st'.H ∧ Sim w2 E' st'.H) :=
  ⟨hd2, u', rfl, _, hres2, E2, _, rfl, hset, evo_none k3, k2.fs.sim⟩
 rcases he with rfl | rfl
 · cases x <;> first | exact k1.elim | exact fin
 · cases x <;> first | exact k1.elim | exact fin
theorem iDefers_sound (hh : HOK P h) (hr : ∀ g, FnOK P h (fhs g) g) {F : Nat} : ∀ (D : Dfs) (m : Option AVal) (H : Heap) (k : Option AVal → Heap → Ans) (out : Out), iDefers P h fhs F D m H k = some out →
 ∃ m' H', k m' H' = some out ∧ ∀ (fn : Func) (tmps : Array Value) (R : Ending → World → Prop) w E ds u, Sim w E H → DefRep w E H D ds → ModeRep w E H m u → (∀ w' E' u', Evo No w E H w' E' H' → Sim w' E' H' → ModeRep w' E' H' m' u' → Leaves P fn tmps R [] u' w') → Leaves P fn tmps R ds u w
 | [], m, H, k, out, h => ⟨m, H, h, fun fn tmps R w E ds u sim hd hm hf => by
  cases hd
  exact hf w E u .refl sim hm⟩
 | (g, caps) :: D, m, H, k, out, h => by
  simp only [iDefers] at h
  split at h
  case isFalse => simp at h
  rename_i hcall
  obtain ⟨H1, h1, h2⟩ := iDeferred_sound hh (hr g) h
  obtain ⟨m', H', g1, g2⟩ := iDefers_sound hh hr D _ H1 k out h1
  refine ⟨m', H', g1, fun fn tmps R w E ds u sim hd hm hf => ?_⟩
  cases hd with
  | cons hcs hd =>
   rename_i cs ds
   have hne : u ≠ .run := by
    cases m with
    | none => rw [show u = .returning from hm]; simp
    | some p => obtain ⟨c, hc, _⟩ := hm; rw [hc]; simp
   refine leaves_cons (f := g) (args := cs.toArray) hne ?_ (CallsD.mono (h2 w E cs u sim hcs hm) (fun e u' w' hp => ?_))
   · simp only [invoke]
     rw [run_callFunc_enter hcall]
     simp
   · obtain ⟨E', v, rfl, hset, ev, sim'⟩ := hp
     simp only
     rw [hset]
     refine g2 fn tmps R w' E' ds .returning sim' (hd.mono ev.sees) ?_ (fun w2 E2 u2 ev2 sim2 hm2 => hf w2 E2 u2 (ev.trans ev2 (fun x hx => absurd hx (fun h => h))) sim2 hm2)
     cases m with
     | none => rfl
     | some p => rfl
end Go.Mu
namespace Go.Mu
open Go
variable {P : Program} {h : Hd} {fh : FH} {fhs : FuncId → FH} {w w' : World} {a : Act} {E E' : Env} {H H' : Heap} {β β' : Nat → Option Nat} {st st' : St}
theorem CI.drop (ci : CI w a E β st) {H' : Heap} {E' : Env} {w' : World} (ev : Evo No w E st.H w' E' H') (sim : Sim w' E' H') : CI w' a E' β { st with H := H' } :=
 RI.called ci ev sim
theorem CI.noBoxes (ci : CI w a E β st) : CI w a E β { st with B := st.B.map fun _ => [] } := by
 have fs := ci.fs
 refine ⟨⟨fs.sim, fs.tsize, ?_, fs.gsize, fs.vals, fun t b hb => ?_, fs.binj⟩, ci.bad, ci.tag, ci.defs⟩
 · have := fs.bsize
   simpa [toRS] using this
 · obtain ⟨h1, h2, h3, ds, ty, fr, b1, b2, b3, b4⟩ := fs.box t b hb
   have e : ((toRS { st with B := st.B.map fun _ => [] }).B.getD t []) = [] := by
    show ((st.B.map fun _ => ([] : Vs)).getD t []) = []
    simp only [gQ, List.getElem?_map]
    cases st.B[t]? <;> rfl
   refine ⟨h1, h2, h3, ?_⟩
   rw [e]
   exact ⟨ds, ty, fr, b1, by simp, fun o ho => by simp at ho, fun j v hv => by simp at hv⟩
theorem call_of {f : FuncId} {fn : Func} {c : Code} {xs : Vs} {o : Out} {e : AExit} (hf : P.funcs[f]? = some fn) (hb : fn.body = some c) (hc : CodeOK P c (start fn xs H) e st')
 (hp : ∀ w E x a' w', Leaves' w E (fun _ => none) H e st' x a' w' → bodyPostD P fn (Post w E H o) x a' w') : CallOK P f xs H o := by
 intro w E cs sim hl hr
 refine calls_of_wp_defers hf hb ?_
 refine wp_mono (hc w _ E _ (start_ci sim ⟨hl, hr⟩)) (fun x a' w' hlv => hp w E x a' w' hlv)
theorem iFun_sound (hh : HOK P h) (hr : ∀ g, FnOK P h (fhs g) g) {F : Nat} {f : FuncId} {xs : Vs} {k : Out → Ans} {out : Out} (hi : iFun P h fhs F f xs H k = some out) : ∃ o, CallOK P f xs H o ∧ k o = some out := by
 unfold iFun at hi
 split at hi
 case h_2 => simp at hi
 rename_i fn hf
 split at hi
 case h_2 => simp at hi
 rename_i c hb
 obtain ⟨e, st', hc, hk⟩ := iCode_sound (hr f).reg c ((hr f).lp fn c hf hb) _ _ _ hi
 have ret : (e = .normal ∨ e = .ret) → (if st'.D.isEmpty then finish P fn st' k else iDefers P h fhs F st'.D none st'.H fun m H' => match m with
  | none => finish P fn { st' with H := H', B := st'.B.map fun _ => [] } k
  | some _ => none) = some out → ∃ o, CallOK P f xs H o ∧ k o = some out := by
  intro he hk
  split at hk
  · rename_i hD
    obtain ⟨vs, h1, h2, h3⟩ := finish_some hk
    refine ⟨_, call_of hf hb hc (fun w E x a' w' hl => ?_), h3⟩
    obtain ⟨E', β', k1, k2, k3, k4⟩ := hl
    obtain ⟨v, g1, g2⟩ := results_run k2 h1 h2
    have hd := defs_nil k2.defs hD
    have key : Leaves P fn a'.tmps (Post w E H (.ret (oneOf vs) st'.H)) a'.defers .returning w' := by
     rw [hd]; exact ⟨v, g1, E', evo_none k3, k2.fs.sim, g2⟩
    rcases he with rfl | rfl
    · cases x <;> first | exact k1.elim | exact key
    · cases x <;> first | exact k1.elim | exact key
  · rename_i hD
    obtain ⟨m', H', g1, g2⟩ := iDefers_sound hh hr _ _ _ _ _ hk
    cases m' with
    | some q => simp at g1
    | none =>
    simp only at g1
    obtain ⟨vs, h1, h2, h3⟩ := finish_some g1
    refine ⟨_, call_of hf hb hc (fun w E x a' w' hl => ?_), h3⟩
    obtain ⟨E', β', k1, k2, k3, k4⟩ := hl
    have key : Leaves P fn a'.tmps (Post w E H (.ret (oneOf vs) H')) a'.defers .returning w' := by
     refine g2 fn a'.tmps _ w' E' a'.defers _ k2.fs.sim k2.defs rfl (fun w2 E2 u2 ev2 sim2 hm2 => ?_)
     rw [show u2 = .returning from hm2]
     obtain ⟨v, q1, q2⟩ := results_run (k2.noBoxes.drop ev2 sim2) h1 h2
     exact ⟨v, q1, E2, evo_none (k3.trans ev2 (fun x hx => absurd hx (fun h => h))), sim2, q2⟩
    rcases he with rfl | rfl
    · cases x <;> first | exact k1.elim | exact key
    · cases x <;> first | exact k1.elim | exact key
 cases e with
 | normal => exact ret (.inl rfl) hk
 | ret => exact ret (.inr rfl) hk
 | exit id => simp at hk
 | panic p =>
  simp only at hk
  split at hk
  · rename_i hD
    refine ⟨_, call_of hf hb hc (fun w E x a' w' hl => ?_), hk⟩
    obtain ⟨E', β', k1, k2, k3, k4⟩ := hl
    have hd := defs_nil k2.defs hD
    cases x <;> try exact k1.elim
    obtain ⟨c, rfl, hrep⟩ := k1
    show Leaves P fn a'.tmps _ a'.defers _ w'
    rw [hd]
    exact ⟨E', c, rfl, evo_none k3, k2.fs.sim, hrep⟩
  · rename_i hD
    obtain ⟨m', H', g1, g2⟩ := iDefers_sound hh hr _ _ _ _ _ hk
    cases m' with
    | none =>
     simp only at g1
     obtain ⟨vs, h1, h2, h3⟩ := finish_some g1
     refine ⟨_, call_of hf hb hc (fun w E x a' w' hl => ?_), h3⟩
     obtain ⟨E', β', k1, k2, k3, k4⟩ := hl
     cases x <;> try exact k1.elim
     obtain ⟨c, rfl, hrep⟩ := k1
     refine g2 fn a'.tmps _ w' E' a'.defers _ k2.fs.sim k2.defs ⟨c, rfl, hrep⟩ (fun w2 E2 u2 ev2 sim2 hm2 => ?_)
     rw [show u2 = .returning from hm2]
     obtain ⟨v, q1, q2⟩ := results_run (k2.drop ev2 sim2) h1 h2
     exact ⟨v, q1, E2, evo_none (k3.trans ev2 (fun x hx => absurd hx (fun h => h))), sim2, q2⟩
    | some q =>
     simp only at g1
     refine ⟨_, call_of hf hb hc (fun w E x a' w' hl => ?_), g1⟩
     obtain ⟨E', β', k1, k2, k3, k4⟩ := hl
     cases x <;> try exact k1.elim
     obtain ⟨c, rfl, hrep⟩ := k1
     refine g2 fn a'.tmps _ w' E' a'.defers _ k2.fs.sim k2.defs ⟨c, rfl, hrep⟩ (fun w2 E2 u2 ev2 sim2 hm2 => ?_)
     obtain ⟨c2, rfl, hr2⟩ := hm2
     exact ⟨E2, c2, rfl, evo_none (k3.trans ev2 (fun x hx => absurd hx (fun h => h))), sim2, hr2⟩
end Go.Mu
namespace Go.Mu
open Go
variable {P : Program} {h : Hd} {fh : FH} {fhs : FuncId → FH} {w w' : World} {a : Act} {E E' : Env} {H H' : Heap}
theorem mapM_some {α β : Type} {f : α → Option β} : ∀ {l : List α} {l' : List β}, l.mapM f = some l' → l'.length = l.length ∧ ∀ (i : Nat) (x : α), l[i]? = some x → ∃ y, l'[i]? = some y ∧ f x = some y
 | [], l', h => by
  simp at h; subst h
  exact ⟨rfl, fun i x hx => by simp at hx⟩
 | x :: l, l', h => by
  rw [List.mapM_cons] at h
  cases hx : f x with
  | none => rw [hx] at h; simp at h
  | some y =>
   cases hl : l.mapM f with
   | none => rw [hx, hl] at h; simp at h
   | some ys =>
    rw [hx, hl] at h
    simp at h
    subst h
    obtain ⟨g1, g2⟩ := mapM_some hl
    refine ⟨by simp [g1], fun i z hz => ?_⟩
    cases i with
    | zero => simp at hz; subst hz; exact ⟨y, rfl, hx⟩
    | succ i => exact g2 i z (by simpa using hz)
theorem lent_imm (b : Nat) (h : E.imm b) : lent E H b := .inl h
theorem freeze_rep (sim : Sim w E H) : ∀ (d : Nat) (v v' : AVal) (c : Value), freezeV H d v = some v' → Rep w E H v c → RepP w (lent E H) v' c := by
 intro d
 induction d with
 | zero => intro v v' c h; simp [freezeV] at h
 | succ d ih =>
  intro v v' c h r
  have cells : ∀ (cs cs' : Vs) (ds : List Value), cs.mapM (freezeV H d) = some cs' → cs.length = ds.length → (∀ j, j < cs.length → Rep w E H (cs.getD j .undef) (ds.getD j undef)) → cs'.length = ds.length ∧ ∀ j, j < cs'.length → RepP w (lent E H) (cs'.getD j .undef) (ds.getD j undef) := by
   intro cs cs' ds hm hl hr
   obtain ⟨g1, g2⟩ := mapM_some hm
   refine ⟨by omega, fun j hj => ?_⟩
   obtain ⟨y, k1, k2⟩ := g2 j _ (getD_some .undef (show j < cs.length by omega))
   have e : cs'.getD j .undef = y := by rw [gQ, k1]; rfl
   rw [e]
   exact ih _ _ _ k2 (hr j (by omega))
  have base : (if isPure v = true then some v else none) = some v' → RepP w (lent E H) v' c := fun hh => by
   split at hh
   · rename_i hp
     simp only [sJ] at hh
     subst hh
     exact (isPure_rep hp r).imm lent_imm
   · simp at hh
  cases v <;> simp only [freezeV] at h
  case own k off len ver clip =>
   split at h
   case h_2 => simp at h
   rename_i sz rows u hk
   split at h
   case isFalse => simp at h
   rename_i hc
   simp only [Bool.and_eq_true, beq_iff_eq, decide_eq_true_eq] at hc
   obtain ⟨rfl, hle⟩ := hc
   split at h
   case h_2 => simp at h
   rename_i rows' hrows
   simp only [sJ] at h
   subst h
   obtain ⟨ao, cap, sz', u', rfl, g1, g2, g3⟩ := rep_own r
   rw [arr_of_get hk] at g1
   simp only [sJ, Prod.mk.injEq] at g1
   obtain ⟨rfl, rfl⟩ := g1
   obtain ⟨s1, s2, s3, s4, s5⟩ := g3 rfl
   obtain ⟨k1, k2, k3, k4⟩ := sim.arr k sz rows u hk
   by_cases h0 : len = 0
   · subst h0; exact .list0 _ _ _ _ (fun h => by simp at h)
   · have hcap : E.cap k ≠ 0 := by omega
     have hlv : live E H k := .inr ⟨⟨sz, u, arr_of_get hk⟩, hcap⟩
     obtain ⟨ds, ty, fr, b1, b2, b3, b4⟩ := k4 hcap
     rw [s5 hcap (.inl h0)]
     obtain ⟨m1, m2⟩ := mapM_some hrows
     have rowq : ∀ i, i < len → ∃ hlt : off + i < rows.length, ∃ row', rows'.getD i [] = row' ∧ rows[off + i].mapM (freezeV H d) = some row' := fun i hi => by
      have hlt : off + i < rows.length := by omega
      have : ((rows.drop off).take len)[i]? = some rows[off + i] := by
       rw [List.getElem?_take_of_lt hi, List.getElem?_drop, List.getElem?_eq_getElem hlt]
      obtain ⟨y, q1, q2⟩ := m2 i _ this
      exact ⟨hlt, y, by rw [gQ, q1]; rfl, q2⟩
     have cellq : ∀ m j, m < len → j < sz → ∃ c, ds[(off + m) * sz + j]? = some c ∧ c.oneCell' = true ∧ RepP w (lent E H) ((rows'.getD m []).getD j .undef) c := fun m j hm hj => by
      obtain ⟨hlt, row', q1, q2⟩ := rowq m hm
      have hrl := k3 _ (List.getElem_mem hlt)
      obtain ⟨c, c1, c2, c3⟩ := b4 ((off + m) * sz + j) (rows[off + m].getD j .undef) (by
       show cellAt sz rows ((off + m) * sz + j) = _
       unfold Mu.cellAt
       rw [show ((off + m) * sz + j) / sz = off + m by rw [Nat.mul_comm, Nat.mul_add_div k1, Nat.div_eq_of_lt hj, Nat.add_zero], show ((off + m) * sz + j) % sz = j by rw [Nat.mul_comm, Nat.mul_add_mod, Nat.mod_eq_of_lt hj],
        List.getElem?_eq_getElem hlt]
       exact getD_some _ (by omega))
      refine ⟨c, c1, c2, ?_⟩
      obtain ⟨p1, p2⟩ := mapM_some q2
      obtain ⟨y, q3, q4⟩ := p2 j _ (getD_some .undef (show j < rows[off + m].length by omega))
      rw [q1, gQ, q3]
      exact ih _ _ _ q4 c3
     refine .list false len _ (E.φ k) (off * sz) cap sz (fun i j => ds.getD ((off + i) * sz + j) undef) s1 (fun h => by simp at h) (.inr ⟨k, hlv, rfl⟩) (fun i hi => ?_) (fun i j hi hj => ?_) (fun i j hi hj => ?_)
     · obtain ⟨hlt, row', q1, q2⟩ := rowq i hi
       rw [q1, (mapM_some q2).1]
       exact k3 _ (List.getElem_mem hlt)
     · obtain ⟨c, c1, c2, c3⟩ := cellq i j hi hj
       rw [cell?_block b1, ← Nat.add_mul, c1]
       simp [c1, c2]
     · obtain ⟨c, c1, c2, c3⟩ := cellq i j hi hj
       simp only [Array.getD_eq_getD_getElem?, c1, Option.getD_some]
       exact c3
  case agg cs =>
   obtain ⟨ds, rfl, hl, hr⟩ := rep_agg r
   rw [Option.map_eq_some_iff] at h
   obtain ⟨cs', hm, rfl⟩ := h
   obtain ⟨g1, g2⟩ := cells cs cs' ds hm hl (fun j hj => (hr j hj).2)
   exact .agg cs' ds g1 (fun j hj => (hr j (by omega)).1) g2
  case tuple cs =>
   obtain ⟨ds, rfl, hl, hr⟩ := rep_tuple r
   rw [Option.map_eq_some_iff] at h
   obtain ⟨cs', hm, rfl⟩ := h
   obtain ⟨g1, g2⟩ := cells cs cs' ds hm hl hr
   exact .tuple cs' ds g1 g2
  case iface t x =>
   obtain ⟨dd, rfl, hr⟩ := rep_iface r
   rw [Option.map_eq_some_iff] at h
   obtain ⟨x', hx, rfl⟩ := h
   exact .iface t x' dd (ih _ _ _ hx hr)
  all_goals exact base h
theorem CallOK.freeze {f : FuncId} {xs : Vs} {o : Out} {v' : AVal} {d : Nat} (hc : CallOK P f xs [] o) (hv : freezeV (outH o) d (outV o) = some v') : CallOK P f xs [] (outSet o v' []) := by
 intro w E cs sim hl hr
 refine Calls.mono (hc w E cs sim hl hr) (fun e w' hp => hp.map (fun E' c ev sim' hrep => ?_))
 have hlt : ∀ b, lent E' (outH o) b → b < w'.heap.size := fun b hb => by
  rcases hb with hb | ⟨k, hk, rfl⟩
  · exact sim'.immLt b hb
  · exact (sim'.apart k hk).2
 refine ⟨⟨lent E' (outH o), id, fun _ => 0⟩, ?_, sim_nil hlt (sim'.glob.mono (fun b hb => ⟨.inl hb, rfl⟩)) _ _, .pure _ _ (freeze_rep sim' d _ _ _ hv hrep)⟩
 refine ⟨ev.size, fun b hb _ _ => ev.kept b hb (fun h => h) (fun k hk => absurd hk live_nil), fun b hb => ⟨.inl (ev.immKept b hb).1, (ev.immKept b hb).2⟩, fun b hb => ?_, fun k hk => by simp [isVar] at hk, fun k sz u hk => by simp [arrInfo] at hk,
  fun k hk => absurd hk live_nil, Nat.le_refl _, ev.tape, ev.os, ev.output⟩
 rcases hb with hb | ⟨k, hk, rfl⟩
 · exact ev.immNew b hb
 · rcases ev.phi k hk with g | ⟨g, _⟩
   · exact .inr g
   · exact absurd g live_nil
theorem iPure_sound (hh : HOK P h) (hr : ∀ g, FnOK P h (fhs g) g) {F : Nat} {f : FuncId} {xs : Vs} {k : Out → Ans} {out : Out} (hi : iPure P h fhs F f xs k = some out) : ∃ o, CallOK P f xs [] o ∧ k o = some out := by
 unfold iPure at hi
 obtain ⟨o, ho, hk⟩ := iFun_sound hh hr hi
 cases o with
 | ret v H1 =>
  simp only at hk
  split at hk
  · rename_i v' hv
    exact ⟨_, ho.freeze hv, hk⟩
  · simp at hk
 | panic v H1 =>
  simp only at hk
  split at hk
  · rename_i v' hv
    exact ⟨_, ho.freeze hv, hk⟩
  · simp at hk
theorem iAll_sound {spec : Hd} {known : FuncId → Bool} (hs : HOK P spec) (hr : ∀ h, HOK P h → ∀ g, FnOK P h (fhs g) g) {F : Nat} : ∀ n, HOK P (iAll P spec known fhs F n)
 | 0 => fun g xs H k out h => by simp [iAll] at h
 | n + 1 => fun g xs H k out hi => by
  have ih := iAll_sound (known := known) hs hr (F := F) n
  have hr' := hr _ ih
  unfold iAll at hi
  split at hi
  · exact hs _ _ _ _ _ hi
  · split at hi
    · split at hi
      · exact iPure_sound ih hr' hi
      · exact iFun_sound ih hr' hi
    · exact iFun_sound ih hr' hi
end Go.Mu
namespace Go.Mu
open Go
variable {P : Program} {fh : FH} {ops : List Oper} {w w' : World} {a : Act} {E E' : Env} {H H' : Heap} {β β' : Nat → Option Nat} {T T' : Vs} {B B' : Boxes} {G : Tags} {q : SR} {s s' : RS} {o : Oper}
def isAl (o : Oper) : Bool := match o.op with
 | .alloc _ => true
 | .box _ _ => true
 | _ => false
structure Same (o : Oper) (fh : FH) (T : Vs) (B' : Boxes) (H' : Heap) (q q' : SR) : Prop where
 ok : q'.ok = true
 v : q'.v = q.v
 B : q'.B = (match writes o fh T with | some (some d) => bset B' d (q.B.getD d []) | _ => B')
 H : q'.H = (match writes o fh T with | some none => q.H | _ => H')
theorem bset_get (B B' : Boxes) (d : Nat) (c : Vs) (h : B'.length = B.length) : bset B' d ((bset B d c).getD d []) = bset B' d c := by
 simp only [bset]
 rcases Nat.lt_or_ge d B.length with g | g
 · rw [gQ, List.getElem?_set_self g]; rfl
 · rw [List.set_eq_of_length_le (by omega), List.set_eq_of_length_le (by omega)]
theorem append_frame {nl : Bool} {t : TypeId} {s x : AVal} (h : appendA P nl t B H s x = some q) : appendA P nl t B' H s x = some { q with B := B' } ∧ q.B = B := by
 unfold appendA at h ⊢
 repeat' split at h
 all_goals first
  | (simp at h; done)
  | (simp only [sJ] at h
     subst h
     simp_all)
theorem copy_frame {t : TypeId} {d s : AVal} (h : copyA P t B H d s = some q) : copyA P t B' H d s = some { q with B := B' } := by
 unfold copyA at h ⊢
 split at h
 case h_2 => simp at h
 rename_i e he
 split at h
 case h_2 => simp at h
 rename_i b k off len ver clip ch hs
 unfold storeA at h ⊢
 simp only at h ⊢
 generalize H[k]? = o at h ⊢
 match o, h with
 | some (.arr sz rows v), h =>
  simp only [sJ] at h
  subst h
  simp only [hs]
theorem newMap_frame {t : TypeId} {x : Option AVal} (h : newMapA P B H t x = some q) : newMapA P B' H t x = some { q with B := B' } := by
 unfold newMapA at h ⊢
 split at h
 · simp only [sJ] at h; subst h; rfl
 · simp at h
theorem put_frame {t : TypeId} {x i v : AVal} (h : putA P B H t x i v = some q) : putA P B' H t x i v = some { q with B := B' } := by
 unfold putA at h ⊢
 split at h
 case h_2 => simp at h
 rename_i m k' n hm
 generalize H[m]? = o at h ⊢
 match o, h with
 | some (.map kk es), h => simp only [sJ] at h; subst h; rfl
theorem del_frame {t : TypeId} {x i : AVal} (h : delA P B H t x i = some q) : delA P B' H t x i = some { q with B := B' } := by
 unfold delA at h ⊢
 split at h
 case h_2 => simp at h
 rename_i m k' n hm
 generalize H[m]? = o at h ⊢
 match o, h with
 | some (.map kk es), h => simp only [sJ] at h; subst h; rfl
theorem lenA_frame {t : TypeId} {x : AVal} (h : isMapV x = false) : lenA P H' t x = lenA P H t x := by
 unfold lenA
 cases x <;> first | rfl | (simp [isMapV] at h)
theorem clear_frame {t : TypeId} {d : AVal} (h : clearA P t B H d = some q) : clearA P t B' H d = some { q with B := B' } := by
 unfold clearA at h ⊢
 split at h
 case h_2 => simp at h
 rename_i e he
 split at h
 case h_2 => simp at h
 rename_i z k off len ver clip hz
 generalize H[k]? = o at h ⊢
 match o, h with
 | some (.arr sz rows v), h =>
  simp only [sJ] at h
  subst h
  simp only [hz]
theorem conv1 {own : Bool} {s d : TypeId} {x : AVal} (h : convA P own B H s d x = some q) : convA P own B' H s d x = some { q with B := B' } ∧ q.B = B := by
 unfold convA at h ⊢
 repeat' split at h
 all_goals first
  | (simp at h; done)
  | (simp only [sJ] at h
     subst h
     simp_all)
theorem conv2 {s d : TypeId} {x : AVal} (hx : (isOwn x || isHp x) = false) (h : convA P false B H s d x = some q) : convA P false B' H' s d x = some { q with B := B', H := H' } := by
 unfold convA at h ⊢
 cases x <;> first
  | (cases hx; done)
  | (try simp only [rowsOf] at h ⊢
     repeat' split at h
     all_goals first
      | (simp at h; done)
      | (simp only [sJ] at h
         subst h
         simp_all))
 all_goals exact absurd hx.2 (by simp [isHp])
theorem conv_frame {o : Oper} {own : Bool} {s d : TypeId} {x : AVal} (h : convA P own B H s d x = some q) (hok : q.ok = true) (hH : (isOwn x || isHp x) = true ∨ (if own = true then some none else (none : Option (Option Nat))) = some none → H' = H)
 (mk : ∀ {q' : SR} {r : Option SR}, r = some q' → q'.ok = true ∧ q'.v = q.v ∧ q'.B = (match (if own = true then some none else (none : Option (Option Nat))) with | some (some d) => bset B' d (q.B.getD d []) | _ => B') ∧ q'.H = (match (if own = true then some none else (none : Option (Option Nat))) with | some none => q.H | _ => H') → ∃ q', r = some q' ∧ Same o fh T B' H' q q') :
 ∃ q', convA P own B' H' s d x = some q' ∧ Same o fh T B' H' q q' := by
 have key : own = true ∨ (isOwn x || isHp x) = true → H' = H := fun hc => by
  rcases hc with rfl | hc
  · exact hH (.inr rfl)
  · exact hH (.inl hc)
 cases own with
 | true =>
  rw [key (.inl rfl)] at mk ⊢
  obtain ⟨e1, e2⟩ := conv1 (B' := B') h
  exact mk e1 ⟨hok, rfl, rfl, rfl⟩
 | false =>
  cases hx : (isOwn x || isHp x) with
  | true =>
   rw [key (.inr hx)] at mk ⊢
   obtain ⟨e1, e2⟩ := conv1 (B' := B') h
   exact mk e1 ⟨hok, rfl, rfl, (conv_BH h).2⟩
  | false => exact mk (conv2 (B' := B') (H' := H') hx h) ⟨hok, rfl, rfl, rfl⟩
theorem sliceA_frame {t : TypeId} {x : AVal} {lo hi mx : Option AVal} (h : (isOwn x || isEptr x) = false) : sliceA P H' t x lo hi mx = sliceA P H t x lo hi mx := by
 unfold sliceA
 cases hu : P.underlying t with
 | none => cases x <;> rfl
 | some d => cases x <;> first | (cases h; done) | (cases d <;> rfl)
theorem idxA_frame {t : TypeId} {x i : AVal} (h : (isOwn x || isEptr x) = false) : idxA P H' t x i = idxA P H t x i := by
 unfold idxA
 cases x <;> first | (cases h; done) | rfl | (cases elemT P t <;> cases i <;> first | rfl | (cases P.underlying t with | none => rfl | some d => cases d <;> rfl))
theorem fieldAddrA_frame {t : TypeId} {x : AVal} {f : Nat} (h : isEptr x = false) : fieldAddrA P H' t x f = fieldAddrA P H t x f := by
 unfold fieldAddrA
 cases x <;> first | (cases h; done) | rfl
theorem step_frame (hT : ∀ x ∈ o.op.operands.toList, aeval T' x = aeval T x) (hB : B'.length = B.length) (hal : isAl o = true → ∀ d, writes o fh T = some (some d) → T'.any (pointsTo d) = false)
 (hH : usesH o T = true ∨ writes o fh T = some none → H' = H) (hb : ∀ d, writes o fh T = some (some d) → isAl o = false → B'.getD d [] = B.getD d [])
 (hrd : ∀ t x, o.op = .load t x → loadA P B' H' t (aeval T x) = loadA P B H t (aeval T x)) (h : stepOp P fh T B H o = some q) (hok : q.ok = true) :
 ∃ q', stepOp P fh T' B' H' o = some q' ∧ Same o fh T B' H' q q' := by
 obtain ⟨dst, op, type, pos, after, guard⟩ := o
 have pureV : ∀ {x : Option (Bool × AVal)} {W : Option (Option Nat)}, W = none → val B H x = some q → ∃ q', val B' H' x = some q' ∧ q'.ok = true ∧ q'.v = q.v ∧ q'.B = (match W with | some (some d) => bset B' d (q.B.getD d []) | _ => B') ∧ q'.H = (match W with | some none => q.H | _ => H') := by
  intro x W hW hx
  obtain ⟨ok, v, rfl, rfl⟩ := val_some hx
  subst hW
  exact ⟨_, rfl, hok, rfl, rfl, rfl⟩
 have pureV1 : ∀ {x : Option AVal} {W : Option (Option Nat)}, W = none → val1 B H x = some q → ∃ q', val1 B' H' x = some q' ∧ q'.ok = true ∧ q'.v = q.v ∧ q'.B = (match W with | some (some d) => bset B' d (q.B.getD d []) | _ => B') ∧ q'.H = (match W with | some none => q.H | _ => H') := by
  intro x W hW hx
  obtain ⟨v, rfl, rfl⟩ := val1_some hx
  subst hW
  exact ⟨_, rfl, rfl, rfl, rfl, rfl⟩
 have mk : ∀ {q' : SR} {s : Option SR}, s = some q' → q'.ok = true ∧ q'.v = q.v ∧ q'.B = (match writes ⟨dst, op, type, pos, after, guard⟩ fh T with | some (some d) => bset B' d (q.B.getD d []) | _ => B') ∧ q'.H = (match writes ⟨dst, op, type, pos, after, guard⟩ fh T with | some none => q.H | _ => H') → ∃ q', s = some q' ∧ Same ⟨dst, op, type, pos, after, guard⟩ fh T B' H' q q' :=
  fun e hh => ⟨_, e, hh.1, hh.2.1, hh.2.2.1, hh.2.2.2⟩
 cases op <;> simp only [stepOp] at h ⊢ <;> simp only [Op.operands] at hT <;> try contradiction
 case move x =>
  rw [hT x (by simp)]
  simp only [sJ] at h; subst h
  exact ⟨_, rfl, rfl, rfl, rfl, rfl⟩
 case assign x =>
  rw [hT x (by simp)]
  simp only [sJ] at h; subst h
  exact ⟨_, rfl, rfl, rfl, rfl, rfl⟩
 case pick c x y =>
  rw [hT c (by simp), hT x (by simp), hT y (by simp)]
  split at h
  · rename_i p hq
    simp only [sJ] at h; subst h
    exact ⟨_, rfl, rfl, rfl, rfl, rfl⟩
  · simp at h
 case alloc t =>
  split at h
  · rename_i d z hz
    simp only [writes, Option.getD_some] at hal hb hH mk
    split at h
    · rename_i hc
      simp only [sJ] at h; subst h
      simp only [hc, if_true] at hal hb hH mk
      have e := hH (.inr (by simp))
      subst e
      refine mk (q' := ⟨true, .ptr (.hp H'.length) 0, B', H' ++ .var z :: noteOf fh d t z⟩) ?_ ⟨rfl, rfl, rfl, rfl⟩
      simp only [hz, hc, if_true]
    · rename_i hc
      split at h
      · rename_i hc2
        simp only [sJ] at h; subst h
        simp only [hc, hc2, if_true, if_false, Bool.false_eq_true] at hal hb hH mk
        have e := hH (.inr (by simp))
        subst e
        refine mk (q' := arrA B' H' z) ?_ ⟨hok, rfl, rfl, rfl⟩
        simp only [hz, hc, hc2, if_true, if_false, Bool.false_eq_true]
      · rename_i hc2
        split at h
        · rename_i hd
          simp only [sJ] at h; subst h
          simp only [hc, hc2, if_false, Bool.false_eq_true] at hal hb hH mk
          have := hal rfl d rfl
          refine mk (q' := ⟨!T'.any (pointsTo d), .ptr (.tmp d) 0, bset B' d z, H'⟩) ?_ ⟨by simp [this], rfl, (bset_get B B' d z hB).symm, rfl⟩
          simp only [hz, hc, hc2, if_false, Bool.false_eq_true, hB, hd, if_true]
        · simp at h
  · simp at h
 case box t x =>
  rw [hT x (by simp)]
  split at h
  · rename_i d z hz
    simp only [writes, Option.getD_some] at hal hb hH mk
    split at h
    · rename_i hc
      simp only [sJ] at h; subst h
      simp only [hc, if_true] at hal hb hH mk
      have e := hH (.inr (by simp))
      subst e
      refine mk (q' := ⟨noTmp (aeval T x), .ptr (.hp H'.length) 0, B', H' ++ .var z :: noteOf fh d t z⟩) ?_ ⟨hok, rfl, rfl, rfl⟩
      simp only [hz, hc, if_true]
    · rename_i hc
      split at h
      · rename_i hd
        simp only [sJ] at h; subst h
        simp only [hc, if_false, Bool.false_eq_true] at hal hb hH mk
        have := hal rfl d rfl
        simp only [Bool.and_eq_true] at hok
        refine mk (q' := ⟨noTmp (aeval T x) && !T'.any (pointsTo d), .ptr (.tmp d) 0, bset B' d z, H'⟩) ?_ ⟨by simp [this, hok.1], rfl, (bset_get B B' d z hB).symm, rfl⟩
        simp only [hz, hc, if_false, Bool.false_eq_true, hB, hd, if_true]
      · simp at h
  · simp at h
 case build t ps =>
  have e1 : (ps.toList.map fun x => (x.1, aeval T' x.2)) = ps.toList.map fun x => (x.1, aeval T x.2) := List.map_congr_left fun x hx => by
   rw [hT x.2 (List.mem_map.2 ⟨x, hx, rfl⟩)]
  have e2 : (ps.toList.all fun x => noTmp (aeval T' x.2)) = ps.toList.all fun x => noTmp (aeval T x.2) := by
   have : ∀ l : List (Nat × Operand), (∀ x ∈ l, aeval T' x.2 = aeval T x.2) → (l.all fun x => noTmp (aeval T' x.2)) = l.all fun x => noTmp (aeval T x.2) := by
    intro l
    induction l with
    | nil => intro _; rfl
    | cons x l ih => intro hl; simp only [List.all_cons]; rw [hl x (by simp), ih (fun y hy => hl y (by simp [hy]))]
   exact this _ fun x hx => hT x.2 (List.mem_map.2 ⟨x, hx, rfl⟩)
  rw [e1, e2]
  split at h
  · rename_i v hb
    simp only [sJ] at h; subst h
    exact ⟨_, rfl, hok, rfl, rfl, rfl⟩
  · simp at h
 case buildSlice t n ps =>
  have e1 : (ps.toList.map fun x => (x.1, aeval T' x.2)) = ps.toList.map fun x => (x.1, aeval T x.2) := List.map_congr_left fun x hx => by
   rw [hT x.2 (List.mem_map.2 ⟨x, hx, rfl⟩)]
  have e2 : (ps.toList.all fun x => noTmp (aeval T' x.2)) = ps.toList.all fun x => noTmp (aeval T x.2) := by
   have : ∀ l : List (Nat × Operand), (∀ x ∈ l, aeval T' x.2 = aeval T x.2) → (l.all fun x => noTmp (aeval T' x.2)) = l.all fun x => noTmp (aeval T x.2) := by
    intro l
    induction l with
    | nil => intro _; rfl
    | cons x l ih => intro hl; simp only [List.all_cons]; rw [hl x (by simp), ih (fun y hy => hl y (by simp [hy]))]
   exact this _ fun x hx => hT x.2 (List.mem_map.2 ⟨x, hx, rfl⟩)
  rw [e1, e2]
  simp only [writes] at hH mk
  split at h
  · rename_i e he
    split at h
    · rename_i sz hs
      split at h
      · rename_i rows hr
        split at h
        · rename_i hc
          split at h
          · rename_i hown
            simp only [sJ] at h; subst h
            simp only [hown, if_true] at hH mk
            have e := hH (.inr (by simp))
            subst e
            refine mk (q' := ⟨ps.toList.all (fun x => noTmp (aeval T x.2)), .own H'.length 0 n 0 false, B', H' ++ [.arr sz rows 0]⟩) ?_ ⟨hok, rfl, rfl, rfl⟩
            simp only [he, hs, hr, if_pos hc, hown, if_true]
          · rename_i hown
            simp only [sJ] at h; subst h
            simp only [hown, if_false, Bool.false_eq_true] at hH mk
            refine mk (q' := ⟨ps.toList.all (fun x => noTmp (aeval T x.2)) && rows.all (fun r => r.all isPure), .list true n (fun i => rows.getD i []), B', H'⟩) ?_ ⟨hok, rfl, rfl, rfl⟩
            simp only [he, hs, hr, if_pos hc, hown, if_false, Bool.false_eq_true]
        · simp at h
      · simp at h
    · simp at h
  · simp at h
 case makeSlice t l c =>
  rw [hT l (by simp), hT c (by simp)]
  simp only [writes] at hH mk
  have e := hH (.inr (by simp))
  subst e
  split at h
  · rename_i ok v Hn hm
    simp only [sJ] at h; subst h
    refine mk (q' := ⟨ok, v, B', Hn⟩) ?_ ⟨hok, rfl, rfl, rfl⟩
    simp only [hm]
  · simp at h
 case makeMap t x =>
  have e1 : x.map (aeval T') = x.map (aeval T) := by
   cases x with
   | none => rfl
   | some y => simp [hT y (by simp)]
  simp only [writes] at hH mk
  have e := hH (.inr (by simp))
  subst e
  rw [e1]
  exact mk (newMap_frame (B' := B') h) ⟨hok, rfl, rfl, rfl⟩
 case mapUpdate t x i y =>
  rw [hT x (by simp), hT i (by simp), hT y (by simp)]
  simp only [writes] at hH mk
  have e := hH (.inr (by simp))
  subst e
  exact mk (put_frame (B' := B') h) ⟨hok, rfl, rfl, rfl⟩
 case lookup t x i ok =>
  rw [hT x (by simp), hT i (by simp)]
  have e := hH (.inl rfl)
  subst e
  exact let ⟨q', h1, h2⟩ := pureV rfl h; mk h1 h2
 case load t x =>
  rw [hT x (by simp), hrd t x rfl]
  exact let ⟨q', h1, h2⟩ := pureV rfl h; ⟨q', h1, h2.1, h2.2.1, h2.2.2.1, h2.2.2.2⟩
 case store t x y =>
  rw [hT x (by simp), hT y (by simp)]
  simp only [writes] at hb hH mk
  split at h
  · rename_i cs n hc hs
    split at h
    · rename_i hn
      split at h
      · rename_i r' hr
        simp only [sJ] at h; subst h
        simp only [Bool.and_eq_true] at hok
        unfold storeA at hr
        split at hr
        · rename_i t' off e
          rw [e] at hb mk
          simp only [sJ] at hr; subst hr
          have hbb := hb t' rfl rfl
          simp only at hok
          refine mk (q' := ⟨noTmp (exV fh.exact y (aeval T y)) && decide (off + cs.length ≤ (B.getD t' []).length), .undef, bset B' t' (setAt (B.getD t' []) off cs), H'⟩) (by simp only [e, hc, hs, storeA, hbb, if_pos hn]) ⟨Bool.and_eq_true_iff.2 ⟨hok.1, hok.2⟩, rfl, (bset_get B B' t' _ hB).symm, rfl⟩
        · rename_i k off e
          rw [e] at hH mk
          have e' := hH (.inr rfl)
          subst e'
          split at hr
          · rename_i old hk
            simp only [sJ] at hr; subst hr
            exact mk (q' := ⟨noTmp (exV fh.exact y (aeval T y)) && decide (off + cs.length ≤ old.length), .undef, B', H'.set k (.var (setAt old off cs))⟩) (by simp only [e, hc, hs, storeA, hk, if_pos hn]) ⟨Bool.and_eq_true_iff.2 ⟨hok.1, hok.2⟩, rfl, rfl, rfl⟩
          · simp at hr
        · rename_i k ver i off e
          rw [e] at hH mk
          have e' := hH (.inr rfl)
          subst e'
          split at hr
          · rename_i sz rows v hk
            simp only [sJ] at hr; subst hr
            exact mk (q' := ⟨noTmp (exV fh.exact y (aeval T y)) && (v == ver && decide (i < rows.length) && decide (off + cs.length ≤ sz)), .undef, B', H'.set k (.arr sz (rows.set i (setAt (rows.getD i []) off cs)) v)⟩) (by simp only [e, hc, hs, storeA, hk, if_pos hn]) ⟨Bool.and_eq_true_iff.2 ⟨hok.1, hok.2⟩, rfl, rfl, rfl⟩
          · simp at hr
        · simp at hr
      · simp at h
    · simp at h
  · simp at h
 case nilCheck x =>
  rw [hT x (by simp)]
  simp only [usesH] at hH
  split at h
  · simp only [sJ] at h; subst h
    exact ⟨_, rfl, rfl, rfl, rfl, rfl⟩
  · simp only [sJ] at h; subst h
    exact ⟨_, rfl, rfl, rfl, rfl, rfl⟩
  · rename_i k v i off e
    rw [e] at hH
    have e' := hH (.inl rfl)
    subst e'
    split at h
    · rename_i sz rows u hk
      simp only [sJ] at h; subst h
      exact ⟨_, rfl, hok, rfl, rfl, rfl⟩
    · simp at h
  · simp only [sJ] at h; subst h
    exact ⟨_, rfl, rfl, rfl, rfl, rfl⟩
  · simp at h
 case binOp op t x y u =>
  rw [hT x (by simp), hT y (by simp)]
  split at h
  · exact let ⟨q', h1, h2⟩ := pureV1 rfl h; ⟨q', h1, h2.1, h2.2.1, h2.2.2.1, h2.2.2.2⟩
  · split at h
    · exact let ⟨q', h1, h2⟩ := pureV1 rfl h; ⟨q', h1, h2.1, h2.2.1, h2.2.2.1, h2.2.2.2⟩
    · exact let ⟨q', h1, h2⟩ := pureV rfl h; ⟨q', h1, h2.1, h2.2.1, h2.2.2.1, h2.2.2.2⟩
 case unOp op t x =>
  rw [hT x (by simp)]
  exact let ⟨q', h1, h2⟩ := pureV1 rfl h; ⟨q', h1, h2.1, h2.2.1, h2.2.2.1, h2.2.2.2⟩
 case convert s t x =>
  rw [hT x (by simp)]
  simp only [writes, usesH] at hH mk
  exact conv_frame h hok hH mk
 case makeInterface t x =>
  rw [hT x (by simp)]
  split at h
  · simp at h
  · rename_i d hd hu
    simp only [sJ] at h; subst h
    exact ⟨_, rfl, hok, rfl, rfl, rfl⟩
  · simp at h
 case makeFunc fn first caps =>
  split at h
  · rename_i f
    split at h
    · rename_i hf
      have e1 : caps.toList.map (aeval T') = caps.toList.map (aeval T) := List.map_congr_left fun x hx => hT x (by simp at hx ⊢; exact .inr hx)
      rw [e1]
      simp only [sJ] at h; subst h
      exact ⟨⟨(caps.toList.map (aeval T)).all noTmp, .func f (caps.toList.map (aeval T)), B', H'⟩, by rw [if_pos hf], hok, rfl, rfl, rfl⟩
    · simp at h
  · simp at h
 case slice t x lo hi mx =>
  have e0 : aeval T' x = aeval T x := hT x (by cases lo <;> cases hi <;> cases mx <;> simp)
  have e1 : lo.map (aeval T') = lo.map (aeval T) := by
   cases lo with
   | none => rfl
   | some y => simp only [Option.map_some]; rw [hT y (by cases hi <;> cases mx <;> simp)]
  have e2 : hi.map (aeval T') = hi.map (aeval T) := by
   cases hi with
   | none => rfl
   | some y => simp only [Option.map_some]; rw [hT y (by cases lo <;> cases mx <;> simp)]
  have e3 : mx.map (aeval T') = mx.map (aeval T) := by
   cases mx with
   | none => rfl
   | some y => simp only [Option.map_some]; rw [hT y (by cases lo <;> cases hi <;> simp)]
  rw [e0, e1, e2, e3]
  have eH : sliceA P H' t (aeval T x) (lo.map (aeval T)) (hi.map (aeval T)) (mx.map (aeval T)) = sliceA P H t (aeval T x) (lo.map (aeval T)) (hi.map (aeval T)) (mx.map (aeval T)) := by
   cases hx : (isOwn (aeval T x) || isEptr (aeval T x)) with
   | true => rw [hH (.inl hx)]
   | false => exact sliceA_frame hx
  rw [eH]
  exact let ⟨q', h1, h2⟩ := pureV rfl h; ⟨q', h1, h2.1, h2.2.1, h2.2.2.1, h2.2.2.2⟩
 case fieldAddr t x f =>
  rw [hT x (by simp)]
  have eH : fieldAddrA P H' t (aeval T x) f = fieldAddrA P H t (aeval T x) f := by
   cases hx : isEptr (aeval T x) with
   | true => rw [hH (.inl hx)]
   | false => exact fieldAddrA_frame hx
  rw [eH]
  exact let ⟨q', h1, h2⟩ := pureV rfl h; ⟨q', h1, h2.1, h2.2.1, h2.2.2.1, h2.2.2.2⟩
 case indexAddr t x i =>
  rw [hT x (by simp), hT i (by simp)]
  have eH : idxA P H' t (aeval T x) (aeval T i) = idxA P H t (aeval T x) (aeval T i) := by
   cases hx : (isOwn (aeval T x) || isEptr (aeval T x)) with
   | true => rw [hH (.inl hx)]
   | false => exact idxA_frame hx
  rw [eH]
  exact let ⟨q', h1, h2⟩ := pureV rfl h; ⟨q', h1, h2.1, h2.2.1, h2.2.2.1, h2.2.2.2⟩
 case index t x i =>
  rw [hT x (by simp), hT i (by simp)]
  split at h
  · rename_i s k n hu hx hi
    simp only [sJ] at h; subst h
    exact ⟨_, rfl, hok, rfl, rfl, rfl⟩
  · simp at h
 case typeAssert x xt t ok =>
  rw [hT x (by simp)]
  exact let ⟨q', h1, h2⟩ := pureV1 rfl h; ⟨q', h1, h2.1, h2.2.1, h2.2.2.1, h2.2.2.2⟩
 case extract x i =>
  rw [hT x (by simp)]
  split at h
  · rename_i vs hx
    split at h
    · rename_i v hi
      simp only [sJ] at h; subst h
      exact ⟨_, rfl, rfl, rfl, rfl, rfl⟩
    · simp at h
  · simp at h
 case call c =>
  have ha : ∀ x, x ∈ c.args → aeval T' x = aeval T x := fun x hx => hT x (by
   simp only [Call.operands]
   cases c.callee <;> simp [hx])
  simp only [writes] at hH mk
  split at h
  · rename_i hc
    rw [hc] at mk
    split at h
    · rename_i t x ht hx
      rw [ha x (Array.mem_of_getElem? hx)]
      cases hmv : isMapV (aeval T x) with
      | true =>
       have e := hH (.inl (by simp only [usesH, hc, hx, hmv]))
       subst e
       exact let ⟨q', h1, h2⟩ := pureV1 rfl h; mk h1 h2
      | false =>
       rw [lenA_frame (H' := H') (H := H) hmv]
       exact let ⟨q', h1, h2⟩ := pureV1 rfl h; mk h1 h2
    · simp at h
  · rename_i hc
    rw [hc] at mk hH
    have e' := hH (.inr rfl)
    subst e'
    split at h
    · rename_i t s x u ht hs hx hu
      rw [ha x (Array.mem_of_getElem? hx), ha s (Array.mem_of_getElem? hs)]
      split at h
      · rename_i h2
        rw [if_pos h2]
        obtain ⟨g1, g2⟩ := append_frame (B' := B') h
        exact mk g1 ⟨hok, rfl, rfl, rfl⟩
      · simp at h
    · simp at h
  · rename_i hc
    rw [hc] at mk hH
    have e' := hH (.inr rfl)
    subst e'
    split at h
    · rename_i t x y ht hl
      rw [ha x (by have : x ∈ c.args.toList := by rw [hl]; simp
                   simpa using this), ha y (by have : y ∈ c.args.toList := by rw [hl]; simp
                                               simpa using this)]
      exact mk (copy_frame (B' := B') h) ⟨hok, rfl, rfl, rfl⟩
    · simp at h
  · rename_i hc
    rw [hc] at mk hH
    have e' := hH (.inr rfl)
    subst e'
    split at h
    · rename_i t x ht hl
      rw [ha x (by have : x ∈ c.args.toList := by rw [hl]; simp
                   simpa using this)]
      exact mk (clear_frame (B' := B') h) ⟨hok, rfl, rfl, rfl⟩
    · simp at h
  · rename_i hc
    rw [hc] at mk hH
    have e' := hH (.inr rfl)
    subst e'
    split at h
    · rename_i t x y ht hl
      rw [ha x (by have : x ∈ c.args.toList := by rw [hl]; simp
                   simpa using this), ha y (by have : y ∈ c.args.toList := by rw [hl]; simp
                                               simpa using this)]
      exact mk (del_frame (B' := B') h) ⟨hok, rfl, rfl, rfl⟩
    · simp at h
  · rename_i hc
    rw [hc] at mk
    split at h
    · rename_i x y hl
      rw [ha x (by have : x ∈ c.args.toList := by rw [hl]; simp
                   simpa using this), ha y (by have : y ∈ c.args.toList := by rw [hl]; simp
                                               simpa using this)]
      exact let ⟨q', h1, h2⟩ := pureV1 rfl h; mk h1 h2
    · simp at h
  · rename_i hc
    rw [hc] at mk
    split at h
    · rename_i x y hl
      rw [ha x (by have : x ∈ c.args.toList := by rw [hl]; simp
                   simpa using this), ha y (by have : y ∈ c.args.toList := by rw [hl]; simp
                                               simpa using this)]
      exact let ⟨q', h1, h2⟩ := pureV1 rfl h; mk h1 h2
    · simp at h
  · rename_i f hc
    rw [hc] at mk
    split at h
    · rename_i e he
      rw [show c.args.toList.map (aeval T') = c.args.toList.map (aeval T) from List.map_congr_left (fun x hx => ha x (by simpa using hx))]
      exact let ⟨q', h1, h2⟩ := pureV1 rfl h; mk h1 h2
    · simp at h
  · simp at h
end Go.Mu
namespace Go.Mu
open Go
variable {P : Program} {fh : FH} {ops : List Oper} {w w' : World} {a : Act} {E E' : Env} {H H' : Heap} {β β' : Nat → Option Nat} {T T' : Vs} {B B' : Boxes} {G : Tags} {q : SR} {s s' s2 : RS} {o : Oper} {i : Nat} {recs : List Rec}
structure Wr where
 dst : Option Nat
 v : AVal
 c : Option (Nat × Bool)
 g : Bool
 wb : Option (Nat × Vs)
 wh : Option Heap
def Wr.app (W : Wr) (s : RS) : RS :=
 { T := setDst s.T W.dst W.v, B := match W.wb with | some (d, c) => bset s.B d c | none => s.B, H := match W.wh with | some h => h | none => s.H, D := s.D, G := addTag s.G W.dst W.c W.g }
structure Fits (P : Program) (ops : List Oper) (i : Nat) (o : Oper) (s : RS) (recs : List Rec) (s2 : RS) : Prop where
 lenB : s2.B.length = s.B.length
 names : ∀ t, t ∈ namesOf ops o → s2.T.getD t .undef = s.T.getD t .undef ∧ s2.G.getD t none = s.G.getD t none
 free : freeDst s2.G o.dst = true
 use : Rec.use i ∈ recs → s2.H = s.H
 eff : ∀ B0 H0 B1 H1, Rec.eff i none B0 H0 B1 H1 ∈ recs → s2.H = s.H
 box : ∀ d B0 H0 B1 H1, Rec.eff i (some d) B0 H0 B1 H1 ∈ recs → s2.B.getD d [] = s.B.getD d []
 al : gvOf s (guardDst ops o) = true → ∀ d, Rec.al i d ∈ recs → s2.T.any (pointsTo d) = false
 rd : gvOf s (guardDst ops o) = true → ∀ t p v, Rec.rd i t p v ∈ recs → loadA P s2.B s2.H t p = some (true, v)
theorem aeval_fit (hf : ∀ t, t ∈ namesOf ops o → s2.T.getD t .undef = s.T.getD t .undef ∧ s2.G.getD t none = s.G.getD t none) {x : Operand} (hx : x ∈ o.op.operands.toList) : aeval s2.T x = aeval s.T x := by
 cases x with
 | tmp t =>
  exact (hf t (by
   unfold namesOf
   exact List.mem_append_left _ (List.mem_append_right _ (List.mem_filterMap.2 ⟨_, hx, rfl⟩)))).1
 | _ => rfl
theorem valid_fit (hf : ∀ t, t ∈ namesOf ops o → s2.T.getD t .undef = s.T.getD t .undef ∧ s2.G.getD t none = s.G.getD t none) {t : Nat} (ht : t ∈ namesOf ops o) : valid s2.G t = valid s.G t := by
 unfold valid; rw [(hf t ht).2]
theorem tmp_names {t : Nat} (h : t ∈ tmpsOf o.op.operands.toList) : t ∈ namesOf ops o := by
 unfold namesOf; exact List.mem_append_left _ (List.mem_append_right _ h)
theorem guard_names {d : Nat} {q : Bool} (h : guardDst ops o = some (d, q)) : d ∈ namesOf ops o := by
 unfold namesOf; rw [h]; exact List.mem_append_right _ (by simp)
theorem okOp_fit (hf : ∀ t, t ∈ namesOf ops o → s2.T.getD t .undef = s.T.getD t .undef ∧ s2.G.getD t none = s.G.getD t none) (h : okOp s.T s.G o) : okOp s2.T s2.G o := by
 unfold okOp at h ⊢
 split
 · rename_i c x y e
   rw [e] at h
   simp only at h
   have mem : ∀ {z : Operand} {t : Nat}, z = .tmp t → z ∈ o.op.operands.toList → t ∈ namesOf ops o := fun e hm => by
    subst e; exact tmp_names (List.mem_filterMap.2 ⟨_, hm, rfl⟩)
   have m1 : c ∈ o.op.operands.toList := by rw [e]; simp [Op.operands]
   have m2 : x ∈ o.op.operands.toList := by rw [e]; simp [Op.operands]
   have m3 : y ∈ o.op.operands.toList := by rw [e]; simp [Op.operands]
   rw [aeval_fit hf m1]
   exact ⟨fun t ht => by rw [valid_fit hf (mem ht m1)]; exact h.1 t ht, fun hc t ht => by rw [valid_fit hf (mem ht m2)]; exact h.2.1 hc t ht, fun hc t ht => by rw [valid_fit hf (mem ht m3)]; exact h.2.2 hc t ht⟩
 · rename_i hn
   split at h
   · rename_i c x y e; exact absurd e (hn c x y)
   · exact fun t ht => by rw [valid_fit hf (tmp_names ht)]; exact h t ht
theorem gv_fit (hf : ∀ t, t ∈ namesOf ops o → s2.T.getD t .undef = s.T.getD t .undef ∧ s2.G.getD t none = s.G.getD t none) : gvOf s2 (guardDst ops o) = gvOf s (guardDst ops o) := by
 cases hg : guardDst ops o with
 | none => rfl
 | some c =>
  obtain ⟨d, q⟩ := c
  have hm := guard_names hg
  simp only [gvOf, gval_eq]
  rw [(hf d hm).1, valid_fit hf hm]
theorem guard_fit (hf : ∀ t, t ∈ namesOf ops o → s2.T.getD t .undef = s.T.getD t .undef ∧ s2.G.getD t none = s.G.getD t none) (hfree : freeDst s2.G o.dst = true) (h : guardGo ops s o) : guardGo ops s2 o := by
 refine ⟨h.1, hfree, ?_⟩
 have h3 := h.2.2
 cases hg : guardDst ops o with
 | none => rfl
 | some c =>
  obtain ⟨d, q⟩ := c
  have hm := guard_names hg
  rw [hg] at h3
  simp only [guardOk] at h3 ⊢
  rw [(hf d hm).1, valid_fit hf hm]; exact h3
theorem al_ok {d : Nat} (ha : isAl o = true) (hw : writes o fh T = some (some d)) (h : stepOp P fh T B H o = some q) (hok : q.ok = true) : T.any (pointsTo d) = false := by
 obtain ⟨dst, op, type, pos, after, guard⟩ := o
 cases op <;> simp only [isAl] at ha <;> try contradiction
 case alloc t =>
  simp only [stepOp, writes] at h hw
  split at h
  · rename_i d' z hz
    simp only [Option.getD_some] at hw
    split at h
    · rename_i hc; rw [if_pos hc] at hw; simp at hw
    · rename_i hc
      rw [if_neg hc] at hw
      split at h
      · rename_i hc2; rw [if_pos hc2] at hw; simp at hw
      · rename_i hc2
        rw [if_neg hc2] at hw
        simp only [sJ] at hw; subst hw
        split at h
        · simp only [sJ] at h; subst h
          simpa using hok
        · simp at h
  · simp at h
 case box t x =>
  simp only [stepOp, writes] at h hw
  split at h
  · rename_i d' z hz
    simp only [Option.getD_some] at hw
    split at h
    · rename_i hc; rw [if_pos hc] at hw; simp at hw
    · rename_i hc
      rw [if_neg hc] at hw
      simp only [sJ] at hw; subst hw
      split at h
      · simp only [sJ] at h; subst h
        simp only [Bool.and_eq_true, Bool.not_eq_true'] at hok
        exact hok.2
      · simp at h
  · simp at h
theorem step_eff (h : stepOp P fh T B H o = some q) (hok : q.ok = true) : Same o fh T B H q q := by
 obtain ⟨q', h1, h2⟩ := step_frame (T' := T) (B' := B) (H' := H) (fun _ _ => rfl) rfl (fun ha d hw => al_ok ha hw h hok) (fun _ => rfl) (fun _ _ _ => rfl) (fun _ _ _ => rfl) h hok
 rw [h] at h1
 cases Option.some.inj h1
 exact h2
theorem mem_recOf_eff {b : Option Nat} (hw : writes o fh T = some b) : Rec.eff i b B H q.B q.H ∈ recOf i o fh T B H q := by
 unfold recOf; rw [hw]; simp
theorem mem_recOf_use (hu : usesH o T = true) : Rec.use i ∈ recOf i o fh T B H q := by
 unfold recOf; rw [hu]; simp
theorem mem_recOf_al {d : Nat} (ha : isAl o = true) (hw : writes o fh T = some (some d)) : Rec.al i d ∈ recOf i o fh T B H q := by
 have : Rec.al i d ∈ alOf i o fh T := by
  unfold alOf isAl at *
  split at ha
  · rename_i e; rw [e, hw]; simp
  · rename_i e; rw [e, hw]; simp
  · simp at ha
 unfold recOf; simp [this]
theorem mem_recOf_rd {t : TypeId} {x : Operand} (he : o.op = .load t x) : Rec.rd i t (aeval T x) q.v ∈ recOf i o fh T B H q := by
 unfold recOf; rw [he]; simp
theorem mem_recOf_ptv {d off : Nat} (hv : q.v = .ptr (.tmp d) off) : Rec.ptv i d ∈ recOf i o fh T B H q := by
 unfold recOf; rw [hv]; simp [ptvOf]
theorem opRun_wr (hr : OpRun P fh ops i o s recs s') (hbad : Rec.bad ∉ recs) : ∃ W : Wr, s' = W.app s ∧ W.dst = o.dst ∧ W.c = guardDst ops o ∧ (∀ d c, W.wb = some (d, c) → Rec.eff i (some d) s.B s.H s'.B s'.H ∈ recs) ∧
 (W.wh.isSome = true → Rec.eff i none s.B s.H s'.B s'.H ∈ recs) ∧ (∀ d off, W.v = .ptr (.tmp d) off → Rec.ptv i d ∈ recs) ∧ ∀ s2, Fits P ops i o s recs s2 → ∃ recs2, OpRun P fh ops i o s2 recs2 (W.app s2) := by
 cases hr with
 | void c v _ hg hc hgv hpt =>
  refine ⟨⟨o.dst, v, some c, false, none, none⟩, rfl, rfl, hc.symm, fun d c h => by simp at h, fun h => by simp at h, hpt, fun s2 hf => ?_⟩
  have := gv_fit hf.names
  rw [hc] at this
  exact ⟨recs, .void c v recs (guard_fit hf.names hf.free hg) hc (this.trans hgv) hpt⟩
 | run q hg hgv htag hst hok hw =>
  have se := step_eff hst hok
  refine ⟨⟨o.dst, q.v, guardDst ops o, true, match writes o fh s.T with | some (some d) => some (d, q.B.getD d []) | _ => none, match writes o fh s.T with | some none => some q.H | _ => none⟩, ?_, rfl, rfl, fun d c h => ?_, fun h => ?_, fun d off h => mem_recOf_ptv h, fun s2 hf => ?_⟩
  · have e1 := se.B
    have e2 := se.H
    simp only [Wr.app]
    congr 1
    · refine e1.trans ?_
      cases hw' : writes o fh s.T with
      | none => rfl
      | some b => cases b <;> rfl
    · refine e2.trans ?_
      cases hw' : writes o fh s.T with
      | none => rfl
      | some b => cases b <;> rfl
  · simp only at h
    split at h
    · rename_i d' hw'
      simp only [sJ, Prod.mk.injEq] at h
      obtain ⟨rfl, _⟩ := h
      exact mem_recOf_eff hw'
    · simp at h
  · simp only at h
    split at h
    · rename_i hw'; exact mem_recOf_eff hw'
    · simp at h
  · obtain ⟨q', h1, h2⟩ := step_frame (T' := s2.T) (B' := s2.B) (H' := s2.H) (fun x hx => aeval_fit hf.names hx) hf.lenB (fun ha d hw' => hf.al hgv d (mem_recOf_al ha hw')) (fun hu => by
     rcases hu with hu | hu
     · exact hf.use (mem_recOf_use hu)
     · exact hf.eff _ _ _ _ (mem_recOf_eff hu)) (fun d hw' _ => hf.box d _ _ _ _ (mem_recOf_eff hw')) (fun t x he => by
     have := hf.rd hgv t _ _ (mem_recOf_rd he)
     rw [this]
     obtain ⟨dst, op, type, pos, after, guard⟩ := o
     simp only at he; subst he
     simp only [stepOp] at hst
     obtain ⟨ok, v, h3, h4⟩ := val_some hst
     rw [h4] at hok ⊢
     simp only at hok ⊢
     rw [h3, hok]) hst hok
    have hwr : writes o fh s2.T = writes o fh s.T := by
     obtain ⟨dst, op, type, pos, after, guard⟩ := o
     cases op <;> simp only [writes]
     case store t x y => rw [aeval_fit hf.names (x := x) (by simp [Op.operands])]
    have hrun := OpRun.run (P := P) (fh := fh) (ops := ops) (i := i) (o := o) (s := s2) q' (guard_fit hf.names hf.free hg) ((gv_fit hf.names).trans hgv) (okOp_fit hf.names htag) h1 h2.ok (fun e => hwr.trans (hw e))
    have e : (Wr.mk o.dst q.v (guardDst ops o) true (match writes o fh s.T with | some (some d) => some (d, q.B.getD d []) | _ => none) (match writes o fh s.T with | some none => some q.H | _ => none)).app s2 =
     { s2 with T := setDst s2.T o.dst q'.v, B := q'.B, H := q'.H, G := addTag s2.G o.dst (guardDst ops o) true } := by
     simp only [Wr.app]
     rw [h2.v, h2.B, h2.H]
     congr 1
     · cases hw' : writes o fh s.T with
       | none => rfl
       | some b => cases b <;> rfl
     · cases hw' : writes o fh s.T with
       | none => rfl
       | some b => cases b <;> rfl
    rw [e]
    exact ⟨_, hrun⟩
 | call f args g caps v H1 hg hgv htag hkind hf hn hcall hq hp =>
  have ha : ∀ s2 : RS, (∀ t, t ∈ namesOf ops o → s2.T.getD t .undef = s.T.getD t .undef ∧ s2.G.getD t none = s.G.getD t none) → aeval s2.T f = aeval s.T f ∧ args.toList.map (aeval s2.T) = args.toList.map (aeval s.T) := fun s2 hfit => by
   obtain ⟨c, e, hc, hca⟩ := kind_call hkind
   refine ⟨aeval_fit hfit (by rw [e]; simp [Op.operands, Call.operands, hc]), List.map_congr_left fun x hx => aeval_fit hfit ?_⟩
   rw [e]
   have hx' : x ∈ args := by simpa using hx
   simp [Op.operands, Call.operands, hc, hca, hx']
  refine ⟨⟨o.dst, v, guardDst ops o, true, none, if quietCall fh g (args.toList.map (aeval s.T) ++ caps) then none else some H1⟩, ?_, rfl, rfl, fun d c h => by simp at h, fun h => ?_, fun d off h => ?_, fun s2 hfit => ?_⟩
  · simp only [Wr.app]
    congr 1
    by_cases hqq : quietCall fh g (args.toList.map (aeval s.T) ++ caps) = true
    · rw [if_pos hqq]; exact hq hqq
    · rw [if_neg hqq]
  · simp only at h
    by_cases hqq : quietCall fh g (args.toList.map (aeval s.T) ++ caps) = true
    · rw [if_pos hqq] at h; simp at h
    · unfold callRecs; rw [if_neg hqq]; simp
  · unfold callRecs
    simp only at h
    rw [h]; simp [ptvOf]
  · obtain ⟨e1, e2⟩ := ha s2 hfit.names
    by_cases hpp0 : quietCall fh g (args.toList.map (aeval s.T) ++ caps) = true ∧ (args.toList.map (aeval s.T) ++ caps).all isPure = true
    · obtain ⟨hqq, hpp⟩ := hpp0
      have hrun := OpRun.call (P := P) (fh := fh) (ops := ops) (i := i) (o := o) (s := s2) f args g caps v s2.H (guard_fit hfit.names hfit.free hg) ((gv_fit hfit.names).trans hgv) (okOp_fit hfit.names htag) hkind (by rw [e1]; exact hf) (by rw [e2]; exact hn)
       (by rw [e2]; exact hp hqq hpp s2.H) (fun _ => rfl) (fun _ _ => by rw [e2]; exact hp hqq hpp)
      simp only [Wr.app, if_pos hqq]
      exact ⟨_, hrun⟩
    · have hH : s2.H = s.H := by
       by_cases hqq : quietCall fh g (args.toList.map (aeval s.T) ++ caps) = true
       · exact hfit.use (by unfold callRecs; rw [if_pos hqq, if_neg (fun e => hpp0 ⟨hqq, e⟩)]; simp)
       · exact hfit.use (by unfold callRecs; rw [if_neg hqq]; simp)
      have hrun := OpRun.call (P := P) (fh := fh) (ops := ops) (i := i) (o := o) (s := s2) f args g caps v H1 (guard_fit hfit.names hfit.free hg) ((gv_fit hfit.names).trans hgv) (okOp_fit hfit.names htag) hkind (by rw [e1]; exact hf) (by rw [e2]; exact hn)
       (by rw [e2, hH]; exact hcall) (fun e => by rw [e2] at e; rw [hH]; exact hq e) (fun e0 e => by rw [e2] at e0 e; exact absurd ⟨e0, e⟩ hpp0)
      have e : (if quietCall fh g (args.toList.map (aeval s.T) ++ caps) then none else some H1 : Option Heap) = none → H1 = s2.H := fun e => by
       split at e
       · rename_i hqq; rw [hH]; exact hq hqq
       · simp at e
      simp only [Wr.app]
      by_cases hqq : quietCall fh g (args.toList.map (aeval s.T) ++ caps) = true
      · rw [if_pos hqq] at e ⊢
        rw [← e rfl]; exact ⟨_, hrun⟩
      · rw [if_neg hqq]; exact ⟨_, hrun⟩
 | dfr f args g caps hg hc htag hkind hargs hf hn => exact absurd (by simp) hbad
end Go.Mu
namespace Go.Mu
open Go
variable {P : Program} {fh : FH} {s s' s2 : RS} {W : Wr}
inductive Comp where
 | T (t : Nat)
 | G (t : Nat)
 | B (x : Nat)
 | H
 | D
def wrC (c : Comp) (W : Wr) : Bool := match c with
 | .T t => W.dst == some t
 | .G t => W.dst == some t && W.c.isSome
 | .B x => match W.wb with | some (d, _) => d == x | none => false
 | .H => W.wh.isSome
 | .D => false
def REq (c : Comp) (s s' : RS) : Prop := match c with
 | .T t => s.T.length = s'.T.length ∧ s.T.getD t .undef = s'.T.getD t .undef
 | .G t => s.G.length = s'.G.length ∧ s.G.getD t none = s'.G.getD t none
 | .B x => s.B.length = s'.B.length ∧ s.B.getD x [] = s'.B.getD x []
 | .H => s.H = s'.H
 | .D => s.D = s'.D
theorem REq.refl {c : Comp} : REq c s s := by cases c <;> simp [REq]
theorem REq.symm {c : Comp} (h : REq c s s') : REq c s' s := by
 cases c <;> simp only [REq] at h ⊢ <;> first | exact ⟨h.1.symm, h.2.symm⟩ | exact h.symm
theorem REq.trans {c : Comp} (h : REq c s s') (g : REq c s' s2) : REq c s s2 := by
 cases c <;> simp only [REq] at h g ⊢ <;> first | exact ⟨h.1.trans g.1, h.2.trans g.2⟩ | exact h.trans g
theorem bset_other {B : Boxes} {d x : Nat} {c : Vs} (h : d ≠ x) : (bset B d c).getD x [] = B.getD x [] := by
 simp [bset, gQ, List.getElem?_set_ne h]
theorem bset_same {B : Boxes} {d : Nat} {c : Vs} : (bset B d c).getD d [] = if d < B.length then c else [] := by
 simp only [bset, gQ]
 split
 · rename_i h; rw [List.getElem?_set_self h]; rfl
 · rename_i h; rw [List.getElem?_eq_none (by simpa using h)]; rfl
theorem app_skip {c : Comp} (h : wrC c W = false) : REq c (W.app s) s := by
 cases c with
 | T t =>
  simp only [wrC, beq_eq_false_iff_ne, ne_eq] at h
  exact ⟨setDst_length _ _, setDst_other h⟩
 | G t =>
  simp only [wrC, Bool.and_eq_false_iff, beq_eq_false_iff_ne, ne_eq] at h
  refine ⟨addTag_length _ _ _, ?_⟩
  rcases h with h | h
  · exact addTag_other h
  · cases hc : W.c with
    | none => simp only [Wr.app, hc]; cases W.dst <;> rfl
    | some x => rw [hc] at h; simp at h
 | B x =>
  simp only [wrC] at h
  simp only [REq, Wr.app]
  cases hb : W.wb with
  | none => exact ⟨rfl, rfl⟩
  | some y =>
   obtain ⟨d, cc⟩ := y
   rw [hb] at h
   simp only [beq_eq_false_iff_ne, ne_eq] at h
   exact ⟨by simp [bset], bset_other h⟩
 | H =>
  simp only [wrC] at h
  simp only [REq, Wr.app]
  cases hb : W.wh with
  | none => rfl
  | some y => rw [hb] at h; simp at h
 | D => rfl
theorem app_cong {c : Comp} (h : REq c s s') : REq c (W.app s) (W.app s') := by
 cases c with
 | T t =>
  simp only [REq, Wr.app] at h ⊢
  refine ⟨by rw [setDst_length, setDst_length]; exact h.1, ?_⟩
  by_cases e : W.dst = some t
  · rw [e, setDst_same, setDst_same, h.1]
  · rw [setDst_other e, setDst_other e]; exact h.2
 | G t =>
  simp only [REq, Wr.app] at h ⊢
  refine ⟨by rw [addTag_length, addTag_length]; exact h.1, ?_⟩
  by_cases e : W.dst = some t
  · rw [e]
    cases hc : W.c with
    | none => exact h.2
    | some x => obtain ⟨d, q⟩ := x; rw [addTag_same, addTag_same, h.1]
  · rw [addTag_other e, addTag_other e]; exact h.2
 | B x =>
  simp only [REq, Wr.app] at h ⊢
  cases hb : W.wb with
  | none => exact h
  | some y =>
   obtain ⟨d, cc⟩ := y
   simp only
   refine ⟨by simp [bset]; exact h.1, ?_⟩
   by_cases e : d = x
   · subst e; rw [bset_same, bset_same, h.1]
   · rw [bset_other e, bset_other e]; exact h.2
 | H =>
  simp only [REq, Wr.app] at h ⊢
  cases W.wh with
  | none => exact h
  | some y => rfl
 | D => exact h
theorem eq_of_req (h : ∀ c, REq c s s') : s = s' := by
 have hT := fun t => h (.T t)
 have hG := fun t => h (.G t)
 have hB := fun t => h (.B t)
 have hH := h .H
 have hD := h .D
 obtain ⟨T, B, H, D, G⟩ := s
 obtain ⟨T', B', H', D', G'⟩ := s'
 simp only [REq] at hT hG hB hH hD
 subst hH hD
 have ext : ∀ {α : Type} {l l' : List α} (d : α), l.length = l'.length → (∀ t, l.getD t d = l'.getD t d) → l = l' := by
  intro α l l' d hl hg
  apply List.ext_getElem hl
  intro i h1 h2
  have := hg i
  rwa [gQ, gQ, List.getElem?_eq_getElem h1, List.getElem?_eq_getElem h2] at this
 rw [ext .undef (hT 0).1 (fun t => (hT t).2), ext none (hG 0).1 (fun t => (hG t).2), ext [] (hB 0).1 (fun t => (hB t).2)]
variable {Wf : Nat → Wr}
def foldW (Wf : Nat → Wr) (l : List Nat) (s : RS) : RS := l.foldl (fun s i => (Wf i).app s) s
theorem foldW_len : ∀ (l : List Nat) (s : RS), (foldW Wf l s).T.length = s.T.length ∧ (foldW Wf l s).G.length = s.G.length ∧ (foldW Wf l s).B.length = s.B.length
 | [], s => ⟨rfl, rfl, rfl⟩
 | i :: l, s => by
  have := foldW_len l ((Wf i).app s)
  have e : foldW Wf (i :: l) s = foldW Wf l ((Wf i).app s) := rfl
  rw [e, this.1, this.2.1, this.2.2]
  refine ⟨setDst_length _ _, addTag_length _ _ _, ?_⟩
  simp only [Wr.app]
  cases (Wf i).wb with
  | none => rfl
  | some y => simp [bset]
theorem foldW_skip {c : Comp} : ∀ (l : List Nat) (s s' : RS), (∀ j ∈ l, wrC c (Wf j) = false) → REq c s s' → REq c (foldW Wf l s) s'
 | [], s, s', _, h => h
 | i :: l, s, s', hl, h => foldW_skip l _ s' (fun j hj => hl j (by simp [hj])) ((app_skip (hl i (by simp))).trans h)
theorem foldW_cong {c : Comp} : ∀ (l : List Nat) (s s' : RS), REq c s s' → REq c (foldW Wf l s) (foldW Wf l s')
 | [], s, s', h => h
 | i :: l, s, s', h => foldW_cong l _ _ (app_cong h)
theorem foldW_alike {c : Comp} {L L' : Nat → Bool} : ∀ (l : List Nat) (s s' : RS), (∀ j ∈ l, wrC c (Wf j) = true → L j = L' j) → REq c s s' → REq c (foldW Wf (l.filter L) s) (foldW Wf (l.filter L') s')
 | [], s, s', _, h => h
 | i :: l, s, s', hl, h => by
  have ih := foldW_alike (c := c) (L := L) (L' := L') l
  have hl' : ∀ j ∈ l, wrC c (Wf j) = true → L j = L' j := fun j hj => hl j (by simp [hj])
  cases hw : wrC c (Wf i) with
  | true =>
   have e := hl i (by simp) hw
   cases hL : L i with
   | true =>
    rw [List.filter_cons_of_pos hL, List.filter_cons_of_pos (e ▸ hL)]
    exact ih _ _ hl' (app_cong h)
   | false =>
    rw [List.filter_cons_of_neg (by simp [hL]), List.filter_cons_of_neg (by simp [← e, hL])]
    exact ih _ _ hl' h
  | false =>
   have sk := app_skip (c := c) (W := Wf i) (s := s) hw
   have sk' := app_skip (c := c) (W := Wf i) (s := s') hw
   cases hL : L i <;> cases hL' : L' i
   · rw [List.filter_cons_of_neg (by simp [hL]), List.filter_cons_of_neg (by simp [hL'])]; exact ih _ _ hl' h
   · rw [List.filter_cons_of_neg (by simp [hL]), List.filter_cons_of_pos hL']; exact ih _ _ hl' (h.trans sk'.symm)
   · rw [List.filter_cons_of_pos hL, List.filter_cons_of_neg (by simp [hL'])]; exact ih _ _ hl' (sk.trans h)
   · rw [List.filter_cons_of_pos hL, List.filter_cons_of_pos hL']; exact ih _ _ hl' (sk.trans (h.trans sk'.symm))
def mg (Wf : Nat → Wr) (m : Nat) (s0 : RS) (L : Nat → Bool) : RS := foldW Wf ((List.range m).filter L) s0
variable {m : Nat} {s0 : RS} {L L' : Nat → Bool}
theorem mg_alike {c : Comp} (h : ∀ j, j < m → wrC c (Wf j) = true → L j = L' j) : REq c (mg Wf m s0 L) (mg Wf m s0 L') :=
 foldW_alike _ _ _ (fun j hj => h j (List.mem_range.1 hj)) .refl
theorem mg_len : (mg Wf m s0 L).T.length = s0.T.length ∧ (mg Wf m s0 L).G.length = s0.G.length ∧ (mg Wf m s0 L).B.length = s0.B.length := foldW_len _ _
theorem mg_add {i : Nat} (hi : i < m) (hL : L i = false) (hc : ∀ c, wrC c (Wf i) = true → ∀ j, i < j → j < m → L j = true → wrC c (Wf j) = false) : mg Wf m s0 (fun j => j == i || L j) = (Wf i).app (mg Wf m s0 L) := by
 have hr : List.range m = List.range i ++ i :: (List.range' (i + 1) (m - i - 1)) := by
  rw [List.range_eq_range', List.range_eq_range']
  have e : m = i + (1 + (m - i - 1)) := by omega
  conv => lhs; rw [e, ← List.range'_append_1, ← List.range'_append_1]
  simp [Nat.add_comm]
 have f1 : (List.range i).filter (fun j => j == i || L j) = (List.range i).filter L := by
  apply List.filter_congr
  intro j hj
  have : j ≠ i := by have := List.mem_range.1 hj; omega
  simp [this]
 have f2 : (List.range' (i + 1) (m - i - 1)).filter (fun j => j == i || L j) = (List.range' (i + 1) (m - i - 1)).filter L := by
  apply List.filter_congr
  intro j hj
  have : j ≠ i := by have := List.mem_range'_1.1 hj; omega
  simp [this]
 unfold mg
 rw [hr, List.filter_append, List.filter_append, List.filter_cons_of_pos (by simp), List.filter_cons_of_neg (by simp [hL]), f1, f2]
 have fa : ∀ a b s, foldW Wf (a ++ b) s = foldW Wf b (foldW Wf a s) := fun a b s => List.foldl_append
 rw [fa, fa]
 generalize foldW Wf ((List.range i).filter L) s0 = x
 generalize hC : (List.range' (i + 1) (m - i - 1)).filter L = C
 have hCm : ∀ j ∈ C, i < j ∧ j < m ∧ L j = true := fun j hj => by
  rw [← hC] at hj
  obtain ⟨h1, h2⟩ := List.mem_filter.1 hj
  have := List.mem_range'_1.1 h1
  exact ⟨by omega, by omega, h2⟩
 show foldW Wf C ((Wf i).app x) = (Wf i).app (foldW Wf C x)
 apply eq_of_req
 intro c
 cases hw : wrC c (Wf i) with
 | true =>
  have hs : ∀ j ∈ C, wrC c (Wf j) = false := fun j hj => hc c hw j (hCm j hj).1 (hCm j hj).2.1 (hCm j hj).2.2
  exact (foldW_skip C _ _ hs .refl).trans (app_cong (foldW_skip C _ _ hs .refl).symm)
 | false => exact (foldW_cong C _ _ (app_skip hw)).trans (app_skip hw).symm
end Go.Mu
namespace Go.Mu
open Go
variable {P : Program} {fh : FH} {l : List Oper} {b : Array Nat} {m : Nat} {S : Nat → RS} {R : Nat → List Rec} {Wf : Nat → Wr} {L : Nat → Bool} {s s' : RS} {o : Oper} {i : Nat} {recs : List Rec}
structure Tr (P : Program) (fh : FH) (l : List Oper) (b : Array Nat) (m : Nat) (S : Nat → RS) (R : Nat → List Rec) (Wf : Nat → Wr) : Prop where
 run : ∀ i o, i < m → l[i]? = some o → OpRun P fh l i o (S i) (R i) (S (i + 1))
 app : ∀ i, i < m → S (i + 1) = (Wf i).app (S i)
 dst : ∀ i o, i < m → l[i]? = some o → (Wf i).dst = o.dst ∧ (Wf i).c = guardDst l o
 wb : ∀ i d c, i < m → (Wf i).wb = some (d, c) → Rec.eff i (some d) (S i).B (S i).H (S (i + 1)).B (S (i + 1)).H ∈ R i
 wh : ∀ i, i < m → (Wf i).wh.isSome = true → Rec.eff i none (S i).B (S i).H (S (i + 1)).B (S (i + 1)).H ∈ R i
 ptv : ∀ i d off, i < m → (Wf i).v = .ptr (.tmp d) off → Rec.ptv i d ∈ R i
 move : ∀ i o s2, i < m → l[i]? = some o → Fits P l i o (S i) (R i) s2 → ∃ recs2, OpRun P fh l i o s2 recs2 ((Wf i).app s2)
 pair : ∀ i j, i < j → j < m → ∀ x, x ∈ R i → ∀ y, y ∈ R j → pairOk P b x y = true
 le : m ≤ l.length
def Down (b : Array Nat) (L : Nat → Bool) : Prop := ∀ i j, i < j → (b.getD j 0).testBit i = true → L j = true → L i = true
structure Ready (b : Array Nat) (L : Nat → Bool) (i : Nat) : Prop where
 no : L i = false
 ahead : ∀ k, k < i → (b.getD i 0).testBit k = true → L k = true
theorem cmp_comm (i j : Nat) : cmpB b i j = cmpB b j i := by
 unfold cmpB
 rcases Nat.lt_trichotomy i j with h | h | h
 · rw [if_pos h, if_neg (by omega)]
 · subst h; rfl
 · rw [if_neg (by omega), if_pos h]
theorem cmp_iff (hd : Down b L) (hr : Ready b L i) {j : Nat} (hne : j ≠ i) (hc : cmpB b i j = true) : L j = decide (j < i) := by
 unfold cmpB at hc
 rcases Nat.lt_trichotomy i j with h | h | h
 · rw [if_pos h] at hc
   rw [decide_eq_false (by omega)]
   cases hL : L j with
   | false => rfl
   | true => have := hd i j h hc hL; rw [hr.no] at this; cases this
 · exact absurd h.symm hne
 · rw [if_neg (by omega)] at hc
   rw [hr.ahead j h hc, decide_eq_true h]
theorem Tr.text (tr : Tr P fh l b m S R Wf) : ∀ i, i ≤ m → S i = mg Wf m (S 0) (fun j => decide (j < i))
 | 0, _ => by
  have : (List.range m).filter (fun j => decide (j < 0)) = [] := by simp
  unfold mg; rw [this]; rfl
 | i + 1, h => by
  rw [tr.app i (by omega), tr.text i (by omega)]
  rw [← mg_add (L := fun j => decide (j < i)) (by omega) (by simp) (fun c _ j h1 _ h2 => by simp at h2; omega)]
  congr 1
  funext j
  have e : (j < i + 1) ↔ (j = i ∨ j < i) := by omega
  simp only [e, Bool.decide_or]
  by_cases h : j = i <;> simp [h]
theorem Tr.agree (tr : Tr P fh l b m S R Wf) {c : Comp} {k : Nat} (hk : k ≤ m) (h : ∀ j, j < m → wrC c (Wf j) = true → L j = decide (j < k)) : REq c (mg Wf m (S 0) L) (S k) := by
 rw [tr.text k hk]
 exact mg_alike h
theorem names_cmp (hn : namesOk l b = true) {i j : Nat} {oi oj : Oper} (hi : l[i]? = some oi) (hj : l[j]? = some oj) (hne : i ≠ j) {d : Nat} (hd : oi.dst = some d) (hm : d ∈ namesOf l oj) : cmpB b i j = true := by
 unfold namesOk at hn
 simp only [List.all_eq_true] at hn
 have h1 : (oi, i) ∈ l.zipIdx := by rw [List.mem_zipIdx_iff_getElem?]; exact hi
 have h2 : (oj, j) ∈ l.zipIdx := by rw [List.mem_zipIdx_iff_getElem?]; exact hj
 have := hn _ h1 _ h2
 simp only [Bool.or_eq_true, beq_iff_eq, hd, Bool.not_eq_true'] at this
 rcases this with (h | h) | h
 · exact absurd h hne
 · exact h
 · rw [List.contains_iff_mem.2 hm] at h; cases h
theorem guards_lt (hg : guardsOk l = true) {i j : Nat} {oi oj : Oper} (hi : l[i]? = some oi) (hj : l[j]? = some oj) {d : Nat} {q : Bool} (hd : oi.dst = some d) (hgd : guardDst l oj = some (d, q)) : i < j := by
 unfold guardsOk at hg
 simp only [List.all_eq_true] at hg
 have h1 : (oi, i) ∈ l.zipIdx := by rw [List.mem_zipIdx_iff_getElem?]; exact hi
 have h2 : (oj, j) ∈ l.zipIdx := by rw [List.mem_zipIdx_iff_getElem?]; exact hj
 have := hg _ h1 _ h2
 simp only [Bool.and_eq_true, hgd, hd, Bool.or_eq_true, bne_iff_ne, ne_eq, not_true, false_or, decide_eq_true_eq] at this
 exact this.1
theorem mg_tag (hG : ∀ t, (S 0).G.getD t none = none) {t d : Nat} {q g : Bool} : ∀ (C : List Nat) (s : RS), (foldW Wf C s).G.getD t none = some (d, q, g) → s.G.getD t none = none → ∃ j ∈ C, (Wf j).dst = some t ∧ (Wf j).c = some (d, q)
 | [], s, h, h0 => by rw [show foldW Wf [] s = s from rfl, h0] at h; cases h
 | j :: C, s, h, h0 => by
  by_cases hj : ((Wf j).app s).G.getD t none = none
  · obtain ⟨k, h1, h2⟩ := mg_tag hG C _ h hj
    exact ⟨k, by simp [h1], h2⟩
  · by_cases hex : ∃ k ∈ C, (Wf k).dst = some t ∧ (Wf k).c = some (d, q)
    · obtain ⟨k, h1, h2⟩ := hex; exact ⟨k, by simp [h1], h2⟩
    · -- the tag is this one's, or a later one's that is like it
      have hd : (Wf j).dst = some t := by
       by_cases e : (Wf j).dst = some t
       · exact e
       · exact absurd ((addTag_other e).trans h0) hj
      cases hc : (Wf j).c with
      | none =>
       refine absurd ?_ hj
       simp only [Wr.app, hc]
       cases (Wf j).dst <;> exact h0
      | some c =>
       obtain ⟨d1, q1⟩ := c
       have key : ∀ (C : List Nat) (s : RS), (foldW Wf C s).G.getD t none = some (d, q, g) → (∀ k ∈ C, ¬((Wf k).dst = some t ∧ (Wf k).c = some (d, q))) → ∃ g', s.G.getD t none = some (d, q, g') := by
        intro C
        induction C with
        | nil => intro s h _; exact ⟨g, h⟩
        | cons k C ih =>
         intro s h hno
         obtain ⟨g', hg'⟩ := ih _ h (fun k hk => hno k (by simp [hk]))
         by_cases e : (Wf k).dst = some t
         · cases hck : (Wf k).c with
           | none =>
            refine ⟨g', ?_⟩
            rw [← hg']
            simp only [Wr.app, hck]
            cases (Wf k).dst <;> rfl
           | some ck =>
            obtain ⟨d2, q2⟩ := ck
            have e2 : ((Wf k).app s).G.getD t none = (addTag s.G (some t) (some (d2, q2)) (Wf k).g).getD t none := by simp only [Wr.app, e, hck]
            rw [e2, addTag_same] at hg'
            split at hg'
            · simp only [sJ, Prod.mk.injEq] at hg'
              obtain ⟨rfl, rfl, _⟩ := hg'
              exact absurd ⟨e, hck⟩ (hno k (by simp))
            · cases hg'
         · exact ⟨g', by rw [← hg']; exact (addTag_other e).symm⟩
       obtain ⟨g', hg'⟩ := key C _ h (fun k hk hh => hex ⟨k, hk, hh⟩)
       have e2 : ((Wf j).app s).G.getD t none = (addTag s.G (some t) (some (d1, q1)) (Wf j).g).getD t none := by simp only [Wr.app, hd, hc]
       rw [e2, addTag_same] at hg'
       split at hg'
       · simp only [sJ, Prod.mk.injEq] at hg'
         obtain ⟨rfl, rfl, _⟩ := hg'
         exact ⟨j, by simp, hd, hc⟩
       · cases hg'
theorem mg_val {t : Nat} {d off : Nat} : ∀ (C : List Nat) (s : RS), (foldW Wf C s).T.getD t .undef = .ptr (.tmp d) off → s.T.getD t .undef = .ptr (.tmp d) off ∨ ∃ j ∈ C, (Wf j).v = .ptr (.tmp d) off
 | [], s, h => .inl h
 | j :: C, s, h => by
  rcases mg_val C _ h with g | ⟨k, h1, h2⟩
  · by_cases e : (Wf j).dst = some t
    · have e2 : ((Wf j).app s).T.getD t .undef = (setDst s.T (some t) (Wf j).v).getD t .undef := by simp only [Wr.app, e]
      rw [e2, setDst_same] at g
      split at g
      · exact .inr ⟨j, by simp, g⟩
      · cases g
    · left
      rw [← g]
      exact (setDst_other e).symm
  · exact .inr ⟨k, by simp [h1], h2⟩
theorem sameV_eq {u v : AVal} (h : sameV u v = true) : u = v := by
 unfold sameV at h
 rcases Bool.or_eq_true_iff.1 h with h | h
 · split at h <;> simp_all
 · split at h
   · assumption
   · simp at h
theorem loadA_cong {B B' : Boxes} {H H' : Heap} {t : TypeId} {p : AVal} (h1 : ∀ x, resOf p = some x → B'.getD x [] = B.getD x []) (h2 : resOf p = none → H' = H) : loadA P B' H' t p = loadA P B H t p := by
 have hr : ∀ n, readCells B' H' p n = readCells B H p n := by
  intro n
  unfold readCells
  cases p <;> try rfl
  · rename_i q off
    cases q with
    | tmp x => simp only; rw [h1 x rfl]
    | hp k => rw [h2 rfl]
  · rw [h2 rfl]
 unfold loadA
 simp only [hr]
def compOf (p : AVal) : Comp := match resOf p with
 | some x => .B x
 | none => .H
theorem load_req {t : TypeId} {p : AVal} (h : REq (compOf p) s s') : loadA P s.B s.H t p = loadA P s'.B s'.H t p := by
 unfold compOf at h
 cases hp : resOf p with
 | none => rw [hp] at h; exact loadA_cong (fun x hx => by rw [hp] at hx; cases hx) (fun _ => h)
 | some x => rw [hp] at h; exact loadA_cong (fun y hy => by rw [hp] at hy; cases hy; exact h.2) (fun hh => by rw [hp] at hh; cases hh)
theorem rd_text (hr : OpRun P fh l i o s recs s') (hg : gvOf s (guardDst l o) = true) {t : TypeId} {p v : AVal} (hm : Rec.rd i t p v ∈ recs) : loadA P s.B s.H t p = some (true, v) := by
 cases hr with
 | void c v _ hgo hc hgv hpt => rw [hc, hgv] at hg; cases hg
 | run q hgo hgv htag hst hok hw =>
  unfold recOf at hm
  simp only [List.mem_append] at hm
  rcases hm with (((hm | hm) | hm) | hm) | hm
  · obtain ⟨dst, op, type, pos, after, guard⟩ := o
    cases op <;> simp at hm
    obtain ⟨rfl, rfl, rfl⟩ := hm
    simp only [stepOp] at hst
    obtain ⟨ok, u, h3, h4⟩ := val_some hst
    rw [h4] at hok ⊢
    simp only at hok ⊢
    rw [h3, hok]
  · split at hm <;> simp at hm
  · split at hm <;> simp at hm
  · unfold alOf at hm
    split at hm <;> simp at hm
  · unfold ptvOf at hm
    split at hm <;> simp at hm
 | call f args g caps v H1 hgo hgv htag hkind hf hn hcall hq hp =>
  unfold callRecs at hm
  simp only [List.mem_append] at hm
  rcases hm with hm | hm
  · split at hm
    · split at hm <;> simp at hm
    · simp at hm
  · unfold ptvOf at hm
    split at hm <;> simp at hm
 | dfr f args g caps hgo hc htag hkind hargs hf hn => simp at hm
theorem max_of {p : Nat → Prop} : ∀ (m : Nat), (∃ k, k < m ∧ p k) → ∃ k, k < m ∧ p k ∧ ∀ j, k < j → j < m → ¬ p j
 | 0, ⟨k, h, _⟩ => by omega
 | m + 1, ⟨k, h, hp⟩ => by
  by_cases hm : p m
  · exact ⟨m, by omega, hm, fun j h1 h2 => by omega⟩
  · have hk : k < m := by
     rcases Nat.lt_or_ge k m with g | g
     · exact g
     · have : k = m := by omega
       subst this; exact absurd hp hm
    obtain ⟨k', h1, h2, h3⟩ := max_of m ⟨k, hk, hp⟩
    refine ⟨k', by omega, h2, fun j g1 g2 => ?_⟩
    rcases Nat.lt_or_ge j m with g | g
    · exact h3 j g1 g
    · have : j = m := by omega
      subst this; exact hm
theorem min_of {p : Nat → Prop} : ∀ (m : Nat), p m → ∃ k, k ≤ m ∧ p k ∧ ∀ j, j < k → ¬ p j := by
 intro m
 induction m using Nat.strongRecOn with
 | _ m ih =>
  intro hp
  by_cases hex : ∃ j, j < m ∧ p j
  · obtain ⟨j, h1, h2⟩ := hex
    obtain ⟨k, g1, g2, g3⟩ := ih j h1 h2
    exact ⟨k, by omega, g2, g3⟩
  · exact ⟨m, Nat.le_refl _, hp, fun j hj hpj => hex ⟨j, hj, hpj⟩⟩
theorem Tr.eff_of (tr : Tr P fh l b m S R Wf) {c : Comp} {x : Option Nat} (hc : c = (match x with | some d => .B d | none => .H)) {j : Nat} (hj : j < m) (hw : wrC c (Wf j) = true) : Rec.eff j x (S j).B (S j).H (S (j + 1)).B (S (j + 1)).H ∈ R j := by
 subst hc
 cases x with
 | none => exact tr.wh j hj hw
 | some d =>
  simp only [wrC] at hw
  cases hb : (Wf j).wb with
  | none => rw [hb] at hw; simp at hw
  | some y =>
   obtain ⟨d', c'⟩ := y
   rw [hb] at hw
   simp only [beq_iff_eq] at hw
   subst hw
   exact tr.wb j _ _ hj hb
theorem Tr.eff_cmp (tr : Tr P fh l b m S R Wf) {c : Comp} {x : Option Nat} (hc : c = (match x with | some d => .B d | none => .H)) {j k : Nat} (hj : j < m) (hk : k < m) (hne : j ≠ k) (hwj : wrC c (Wf j) = true) (hwk : wrC c (Wf k) = true) : cmpB b j k = true := by
 have ej := tr.eff_of hc hj hwj
 have ek := tr.eff_of hc hk hwk
 rcases Nat.lt_or_gt_of_ne hne with h | h
 · have := tr.pair j k h hk _ ej _ ek
   cases hcmp : cmpB b j k with
   | true => rfl
   | false => simp [pairOk, hcmp, hne] at this
 · have := tr.pair k j h hj _ ek _ ej
   rw [cmp_comm]
   cases hcmp : cmpB b k j with
   | true => rfl
   | false => simp [pairOk, hcmp, Ne.symm hne] at this
end Go.Mu
namespace Go.Mu
open Go
variable {P : Program} {fh : FH} {l : List Oper} {b : Array Nat} {m : Nat} {S : Nat → RS} {R : Nat → List Rec} {Wf : Nat → Wr} {L : Nat → Bool} {s s' : RS} {o : Oper} {i : Nat} {recs : List Rec}
abbrev at' (Wf : Nat → Wr) (m : Nat) (S : Nat → RS) (L : Nat → Bool) : RS := mg Wf m (S 0) L
theorem op_at (tr : Tr P fh l b m S R Wf) {j : Nat} (hj : j < m) : ∃ o, l[j]? = some o := ⟨l[j]'(Nat.lt_of_lt_of_le hj tr.le), List.getElem?_eq_getElem _⟩
theorem names_req (tr : Tr P fh l b m S R Wf) (hn : namesOk l b = true) (hd : Down b L) (hr : Ready b L i) (him : i ≤ m) (ho : l[i]? = some o) {t : Nat} (ht : t ∈ namesOf l o) :
 (at' Wf m S L).T.getD t .undef = (S i).T.getD t .undef ∧ (at' Wf m S L).G.getD t none = (S i).G.getD t none := by
 have key : ∀ j, j < m → (Wf j).dst = some t → L j = decide (j < i) := fun j hj hw => by
  by_cases e : j = i
  · subst e; rw [hr.no]; simp
  · obtain ⟨oj, hoj⟩ := op_at tr hj
    exact cmp_iff hd hr e (by rw [cmp_comm]; exact names_cmp hn hoj ho e (by rw [← (tr.dst j oj hj hoj).1]; exact hw) ht)
 exact ⟨(tr.agree (c := .T t) him (fun j hj hw => key j hj (by simpa [wrC] using hw))).2, (tr.agree (c := .G t) him (fun j hj hw => key j hj (by simp only [wrC, Bool.and_eq_true, beq_iff_eq] at hw; exact hw.1))).2⟩
theorem heap_req (tr : Tr P fh l b m S R Wf) (hd : Down b L) (hr : Ready b L i) (him : i ≤ m) (h : ∀ j, j < m → j ≠ i → wrC .H (Wf j) = true → cmpB b i j = true) : (at' Wf m S L).H = (S i).H :=
 tr.agree (c := .H) him (fun j hj hw => by
  by_cases e : j = i
  · subst e; rw [hr.no]; simp
  · exact cmp_iff hd hr e (h j hj e hw))
theorem free_req (tr : Tr P fh l b m S R Wf) (hG : ∀ t, (S 0).G.getD t none = none) (hn : namesOk l b = true) (hgs : guardsOk l = true) (hd : Down b L) (hr : Ready b L i) (him : i ≤ m) (ho : l[i]? = some o) (hf : freeDst (S i).G o.dst = true) :
 freeDst (at' Wf m S L).G o.dst = true := by
 cases hdst : o.dst with
 | none => rfl
 | some d =>
  rw [hdst] at hf
  have hm : d ∈ namesOf l o := by unfold namesOf; rw [hdst]; simp
  have h2 := (names_req tr hn hd hr him ho hm).2
  have h3 := free_none hf
  simp only [freeDst, Bool.and_eq_true, List.all_eq_true]
  refine ⟨fun x hx => ?_, by rw [h2, h3]; rfl⟩
  cases x with
  | none => rfl
  | some y =>
   obtain ⟨e, q, g⟩ := y
   simp only [bne_iff_ne, ne_eq]
   intro he; subst he
   obtain ⟨t, ht⟩ := List.mem_iff_getElem?.1 hx
   have hg : (at' Wf m S L).G.getD t none = some (e, q, g) := by rw [gQ, ht]; rfl
   obtain ⟨j, hj, hj2, hj3⟩ := mg_tag hG _ _ hg (hG t)
   obtain ⟨hjr, hjL⟩ := List.mem_filter.1 hj
   have hjm := List.mem_range.1 hjr
   obtain ⟨oj, hoj⟩ := op_at tr hjm
   have hgd : guardDst l oj = some (e, q) := by rw [← (tr.dst j oj hjm hoj).2]; exact hj3
   have hlt := guards_lt hgs ho hoj hdst hgd
   have hc := names_cmp hn ho hoj (by omega) hdst (guard_names hgd)
   unfold cmpB at hc
   rw [if_pos hlt] at hc
   have := hd i j hlt hc hjL
   rw [hr.no] at this; cases this
theorem al_rec (hr : OpRun P fh l i o s recs s') {d : Nat} (hm : Rec.al i d ∈ recs) (hg : gvOf s (guardDst l o) = true) : isAl o = true ∧ o.dst = some d := by
 cases hr with
 | void c v _ hgo hc hgv hpt => rw [hc, hgv] at hg; cases hg
 | run q hgo hgv htag hst hok hw =>
  unfold recOf at hm
  simp only [List.mem_append] at hm
  rcases hm with (((hm | hm) | hm) | hm) | hm
  · split at hm <;> simp at hm
  · split at hm <;> simp at hm
  · split at hm <;> simp at hm
  · unfold alOf at hm
    split at hm
    · rename_i t d' he hw'
      simp at hm; subst hm
      refine ⟨by unfold isAl; rw [he], ?_⟩
      unfold writes at hw'
      rw [he] at hw'
      simp only at hw'
      split at hw'
      · simp at hw'
      · split at hw' <;> simp at hw'
        exact hw'
    · rename_i t x d' he hw'
      simp at hm; subst hm
      refine ⟨by unfold isAl; rw [he], ?_⟩
      unfold writes at hw'
      rw [he] at hw'
      simp only at hw'
      split at hw' <;> simp at hw'
      exact hw'
    · simp at hm
  · unfold ptvOf at hm
    split at hm <;> simp at hm
 | call f args g caps v H1 hgo hgv htag hkind hf hn hcall hq hp =>
  unfold callRecs at hm
  simp only [List.mem_append] at hm
  rcases hm with hm | hm
  · split at hm
    · split at hm <;> simp at hm
    · simp at hm
  · unfold ptvOf at hm
    split at hm <;> simp at hm
 | dfr f args g caps hgo hc htag hkind hargs hf hn => simp at hm
theorem OpRun.go (h : OpRun P fh l i o s recs s') : guardGo l s o := by cases h <;> assumption
theorem reread_ok {B B' : Boxes} {H H' : Heap} {t : TypeId} {p v : AVal} (h : reread P B H t p v = true) (ht : loadA P B' H' t p = some (true, v)) : loadA P B H t p = some (true, v) := by
 unfold reread at h
 split at h
 · rw [← ht]; rfl
 · split at h
   · rename_i ok u hl
     simp only [Bool.and_eq_true] at h
     rw [hl, h.1, sameV_eq h.2]
   · simp at h
theorem fits (tr : Tr P fh l b m S R Wf) (hG : ∀ t, (S 0).G.getD t none = none) (hA : ∀ o ∈ l, isAl o = true → (S 0).T.any (pointsTo (o.dst.getD 0)) = false) (hn : namesOk l b = true) (hgs : guardsOk l = true) (hd : Down b L) (hr : Ready b L i) (him : i < m) (ho : l[i]? = some o)
 : Fits P l i o (S i) (R i) (at' Wf m S L) := by
 have hrun := tr.run i o him ho
 have hgo : guardGo l (S i) o := hrun.go
 have lens : (at' Wf m S L).B.length = (S i).B.length := by
  rw [tr.text i (by omega)]; exact (mg_len (L := L)).2.2.trans (mg_len).2.2.symm
 have pairH : ∀ (x : Rec), x ∈ R i → (∀ (b' : Array Nat) j B0 H0 B1 H1, j ≠ i → (pairOk P b' x (.eff j none B0 H0 B1 H1) = true → cmpB b' i j = true) ∧ (pairOk P b' (.eff j none B0 H0 B1 H1) x = true → cmpB b' j i = true)) → (at' Wf m S L).H = (S i).H := fun x hx hp =>
  heap_req tr hd hr (by omega) (fun j hj hne hw => by
   have hm := tr.eff_of (c := .H) (x := none) rfl hj hw
   rcases Nat.lt_or_gt_of_ne hne with h | h
   · rw [cmp_comm]; exact (hp b j _ _ _ _ hne).2 (tr.pair j i h him _ hm _ hx)
   · exact (hp b j _ _ _ _ hne).1 (tr.pair i j h hj _ hx _ hm))
 refine ⟨lens, fun t ht => names_req tr hn hd hr (by omega) ho ht, free_req tr hG hn hgs hd hr (by omega) ho hgo.2.1, fun hu => ?_, fun B0 H0 B1 H1 he => ?_, fun d B0 H0 B1 H1 he => ?_, fun hgv d hal' => ?_, fun hgv t p v hrd => ?_⟩
 · refine pairH _ hu (fun b' j B0 H0 B1 H1 hne => ⟨fun hp => ?_, fun hp => ?_⟩)
   · simpa [pairOk, Ne.symm hne] using hp
   · simpa [pairOk, hne] using hp
 · refine pairH _ he (fun b' j B0 H0 B1 H1 hne => ⟨fun hp => ?_, fun hp => ?_⟩)
   · simpa [pairOk, Ne.symm hne] using hp
   · simpa [pairOk, hne] using hp
 · refine (tr.agree (c := .B d) (k := i) (by omega) (fun j hj hw => ?_)).2
   by_cases e : j = i
   · subst e; rw [hr.no]; simp
   · have hm := tr.eff_of (c := .B d) (x := some d) rfl hj hw
     refine cmp_iff hd hr e ?_
     rcases Nat.lt_or_gt_of_ne e with h | h
     · rw [cmp_comm]
       have := tr.pair j i h him _ hm _ he
       simpa [pairOk, e] using this
     · have := tr.pair i j h hj _ he _ hm
       simpa [pairOk, Ne.symm e] using this
 · rw [List.any_eq_false]
   intro v hv hp
   obtain ⟨t, ht⟩ := List.mem_iff_getElem?.1 hv
   have hpv : ∃ off, v = .ptr (.tmp d) off := by
    unfold pointsTo at hp
    split at hp
    · rename_i t' off
      simp only [beq_iff_eq] at hp; subst hp; exact ⟨off, rfl⟩
    · simp at hp
   obtain ⟨off, rfl⟩ := hpv
   have hg : (at' Wf m S L).T.getD t .undef = .ptr (.tmp d) off := by rw [gQ, ht]; rfl
   rcases mg_val _ _ hg with h0 | ⟨j, hj, hjv⟩
   · obtain ⟨ha1, ha2⟩ := al_rec hrun hal' hgv
     have := hA o (List.mem_of_getElem? ho) ha1
     rw [ha2] at this
     rw [List.any_eq_false] at this
     have hm : AVal.ptr (.tmp d) off ∈ (S 0).T := by
      rw [gQ] at h0
      cases hh : (S 0).T[t]? with
      | none => rw [hh] at h0; cases h0
      | some z => rw [hh] at h0; simp at h0; subst h0; exact List.mem_of_getElem? hh
     exact this _ hm (by simp [pointsTo])
   · obtain ⟨hjr, hjL⟩ := List.mem_filter.1 hj
     have hjm := List.mem_range.1 hjr
     have hne : j ≠ i := fun e => by subst e; rw [hr.no] at hjL; cases hjL
     have hm := tr.ptv j d off hjm hjv
     rcases Nat.lt_or_gt_of_ne hne with h | h
     · have := tr.pair j i h him _ hm _ hal'
       simp [pairOk, hne] at this
     · have := tr.pair i j h hjm _ hal' _ hm
       have hc : cmpB b i j = true := by simpa [pairOk, Ne.symm hne] using this
       have := cmp_iff hd hr hne hc
       rw [hjL] at this
       simp at this; omega
 · -- a load
   have htext := rd_text hrun hgv hrd
   have hcx : compOf p = (match resOf p with | some d => .B d | none => .H) := rfl
   by_cases hex : ∃ k, k < m ∧ (i < k ∧ L k = true ∧ wrC (compOf p) (Wf k) = true)
   · obtain ⟨k, hk, ⟨k1, k2, k3⟩, kmax⟩ := max_of m hex
     have hm := tr.eff_of hcx hk k3
     have hreq : REq (compOf p) (at' Wf m S L) (S (k + 1)) := tr.agree (k := k + 1) (by omega) (fun j hj hw => by
      rcases Nat.lt_trichotomy j k with h | h | h
      · have hc := tr.eff_cmp hcx hj hk (by omega) hw k3
        unfold cmpB at hc
        rw [if_pos h] at hc
        rw [hd j k h hc k2, decide_eq_true (by omega)]
      · subst h; rw [k2, decide_eq_true (by omega)]
      · rw [decide_eq_false (by omega)]
        cases hL : L j with
        | false => rfl
        | true => exact absurd ⟨by omega, hL, hw⟩ (kmax j h hj))
     rw [load_req hreq]
     have hp := tr.pair i k k1 hk _ hrd _ hm
     simp only [pairOk, Bool.or_eq_true, bne_iff_ne, ne_eq, not_true, or_false] at hp
     have hnc : cmpB b i k = false := by
      cases hc : cmpB b i k with
      | false => rfl
      | true =>
       have := cmp_iff hd hr (j := k) (by omega) hc
       rw [k2] at this; simp at this; omega
     rw [hnc] at hp
     have hre : reread P (S (k + 1)).B (S (k + 1)).H t p v = true := by simpa using hp
     exact reread_ok hre htext
   · have hno : ∀ j, j < m → i < j → wrC (compOf p) (Wf j) = true → L j = false := fun j h1 h2 h3 => by
      cases hL : L j with
      | false => rfl
      | true => exact absurd ⟨j, h1, h2, hL, h3⟩ hex
     by_cases hex2 : ∃ k, k < i ∧ L k = false ∧ wrC (compOf p) (Wf k) = true
     · obtain ⟨k0, q1, q2, q3⟩ := hex2
       obtain ⟨k, hk0, ⟨g0, g1, g2⟩, gmin⟩ := min_of (p := fun k => k < i ∧ L k = false ∧ wrC (compOf p) (Wf k) = true) k0 ⟨q1, q2, q3⟩
       have hk : k < m := by omega
       have hm := tr.eff_of hcx hk g2
       have hreq : REq (compOf p) (at' Wf m S L) (S k) := tr.agree (k := k) (by omega) (fun j hj hw => by
        rcases Nat.lt_trichotomy j k with h | h | h
        · rw [decide_eq_true h]
          cases hL : L j with
          | true => rfl
          | false => exact (gmin j h ⟨Nat.lt_trans h g0, hL, hw⟩).elim
        · subst h; rw [g1]; simp
        · rw [decide_eq_false (by omega)]
          have hc := tr.eff_cmp hcx hk hj (by omega) g2 hw
          unfold cmpB at hc
          rw [if_pos h] at hc
          cases hL : L j with
          | false => rfl
          | true => have := hd k j h hc hL; rw [g1] at this; cases this)
       rw [load_req hreq]
       have hp := tr.pair k i g0 him _ hm _ hrd
       simp only [pairOk, Bool.or_eq_true, bne_iff_ne, ne_eq, not_true, or_false] at hp
       have hnc : cmpB b k i = false := by
        cases hc : cmpB b k i with
        | false => rfl
        | true =>
         have := cmp_iff hd hr (j := k) (by omega) (by rw [cmp_comm]; exact hc)
         rw [g1] at this; simp at this; omega
       rw [hnc] at hp
       have hre : reread P (S k).B (S k).H t p v = true := by simpa using hp
       exact reread_ok hre htext
     · have hreq : REq (compOf p) (at' Wf m S L) (S i) := tr.agree (k := i) (by omega) (fun j hj hw => by
        rcases Nat.lt_trichotomy j i with h | h | h
        · rw [decide_eq_true h]
          cases hL : L j with
          | true => rfl
          | false => exact absurd ⟨j, h, hL, hw⟩ hex2
        · subst h; rw [hr.no]; simp
        · rw [decide_eq_false (by omega)]; exact hno j hj h hw)
       rw [load_req hreq]; exact htext
end Go.Mu
namespace Go.Mu
open Go
variable {P : Program} {h : Hd} {fh : FH} {l : List Oper} {b : Array Nat} {m : Nat} {S : Nat → RS} {R : Nat → List Rec} {Wf : Nat → Wr} {L : Nat → Bool} {s s' : RS} {o : Oper} {i : Nat} {recs : List Rec} {w w' : World} {a : Act} {E E' : Env} {H H' : Heap} {β β' : Nat → Option Nat} {st st' : St}
def numOf (acc : Array Nat) (o : Oper) : Nat := o.after.foldl (fun s e => if Region.binds .any e then s ||| 2 ^ e.on ||| acc.getD e.on 0 else s) 0
def numsL : List Oper → Array Nat → Array Nat
 | [], acc => acc
 | o :: rest, acc => numsL rest (acc.push (numOf acc o))
theorem before_eq (ops : Array Oper) : Region.before ops = numsL ops.toList #[] := by
 unfold Region.before
 rw [← Array.foldl_toList]
 have : ∀ (l : List Oper) (acc : Array Nat), l.foldl (fun acc o => acc.push (o.after.foldl (fun s e => if Region.binds .any e then s ||| 2 ^ e.on ||| acc.getD e.on 0 else s) 0)) acc = numsL l acc := by
  intro l
  induction l with
  | nil => intro acc; rfl
  | cons o l ih => intro acc; exact ih _
 exact this _ _
theorem num_bit (acc : Array Nat) (o : Oper) (i : Nat) (hb : (numOf acc o).testBit i = true) : ∃ e ∈ o.after, Region.binds .any e = true ∧ (e.on = i ∨ (acc.getD e.on 0).testBit i = true) := by
 unfold numOf at hb
 rw [← Array.foldl_toList] at hb
 have : ∀ (es : List Edge) (s : Nat), (es.foldl (fun s e => if Region.binds .any e then s ||| 2 ^ e.on ||| acc.getD e.on 0 else s) s).testBit i = true → s.testBit i = true ∨ ∃ e ∈ es, Region.binds .any e = true ∧ (e.on = i ∨ (acc.getD e.on 0).testBit i = true) := by
  intro es
  induction es with
  | nil => intro s h; exact .inl h
  | cons e es ih =>
   intro s h
   rcases ih _ h with g | ⟨e', h1, h2⟩
   · simp only at g
     split at g
     · rename_i hbind
       rw [Nat.testBit_or, Nat.testBit_or, Bool.or_eq_true, Bool.or_eq_true] at g
       rcases g with (g | g) | g
       · exact .inl g
       · rw [Nat.testBit_two_pow] at g
         exact .inr ⟨e, by simp, hbind, .inl (by simpa using g)⟩
       · exact .inr ⟨e, by simp, hbind, .inr g⟩
     · exact .inl g
   · exact .inr ⟨e', by simp [h1], h2⟩
 rcases this _ _ hb with g | ⟨e, h1, h2⟩
 · simp at g
 · exact ⟨e, by simpa using h1, h2⟩
theorem nums_get : ∀ (l : List Oper) (acc : Array Nat), (∀ j, j < acc.size → (numsL l acc).getD j 0 = acc.getD j 0) ∧ (numsL l acc).size = acc.size + l.length
 | [], acc => ⟨fun _ _ => rfl, rfl⟩
 | o :: l, acc => by
  have ih := nums_get l (acc.push (numOf acc o))
  refine ⟨fun j hj => ?_, by rw [show numsL (o :: l) acc = numsL l (acc.push (numOf acc o)) from rfl, ih.2]; simp; omega⟩
  rw [show numsL (o :: l) acc = numsL l (acc.push (numOf acc o)) from rfl, ih.1 j (by simp; omega)]
  simp [Array.getD_eq_getD_getElem?, Array.getElem?_push, Nat.ne_of_lt hj]
theorem nums_num : ∀ (l : List Oper) (acc : Array Nat) (k : Nat) (o : Oper), l[k]? = some o → ∃ acc', (numsL l acc).getD (acc.size + k) 0 = numOf acc' o ∧ ∀ j, j < acc.size + k → acc'.getD j 0 = (numsL l acc).getD j 0
 | [], acc, k, o, h => by simp at h
 | p :: l, acc, 0, o, h => by
  simp at h; subst h
  have g := nums_get l (acc.push (numOf acc p))
  refine ⟨acc, ?_, fun j hj => ?_⟩
  · rw [show numsL (p :: l) acc = numsL l (acc.push (numOf acc p)) from rfl, g.1 _ (by simp)]
    simp [Array.getD_eq_getD_getElem?]
  · rw [show numsL (p :: l) acc = numsL l (acc.push (numOf acc p)) from rfl, g.1 j (by simp; omega)]
    simp at hj
    simp [Array.getD_eq_getD_getElem?, Array.getElem?_push, Nat.ne_of_lt hj]
 | p :: l, acc, k + 1, o, h => by
  obtain ⟨acc', h1, h2⟩ := nums_num l (acc.push (numOf acc p)) k o (by simpa using h)
  rw [Array.size_push] at h1 h2
  exact ⟨acc', by rw [show numsL (p :: l) acc = numsL l (acc.push (numOf acc p)) from rfl, ← h1]; congr 1; omega, fun j hj => h2 j (by omega)⟩
theorem bit_edge (hed : edgesDown l = true) {j : Nat} (ho : l[j]? = some o) {i : Nat} (hb : ((Region.before l.toArray).getD j 0).testBit i = true) :
 ∃ e ∈ o.after, Region.binds .any e = true ∧ e.on < j ∧ (e.on = i ∨ ((Region.before l.toArray).getD e.on 0).testBit i = true) := by
 rw [before_eq] at hb ⊢
 obtain ⟨acc', h1, h2⟩ := nums_num l #[] j o ho
 simp only [Array.size_empty, Nat.zero_add] at h1 h2
 rw [h1] at hb
 obtain ⟨e, he, hbind, hh⟩ := num_bit acc' o i hb
 have hlt : e.on < j := by
  unfold edgesDown at hed
  simp only [List.all_eq_true] at hed
  have hm : (o, j) ∈ l.zipIdx := by rw [List.mem_zipIdx_iff_getElem?]; exact ho
  have := hed _ hm e (by simpa using he)
  simpa [hbind] using this
 refine ⟨e, he, hbind, hlt, hh.imp id (fun g => ?_)⟩
 rw [h2 e.on hlt] at g; exact g
theorem bit_out {j i : Nat} (hj : l.length ≤ j) : ((Region.before l.toArray).getD j 0).testBit i = false := by
 rw [before_eq]
 have := (nums_get l #[]).2
 rw [Array.getD_eq_getD_getElem?, Array.getElem?_eq_none (by simp at this; simp [this]; omega)]
 simp
def Closed (l : List Oper) (L : Nat → Bool) : Prop := ∀ j o, l[j]? = some o → L j = true → ∀ e ∈ o.after, Region.binds .any e = true → L e.on = true
theorem bit_listed (hed : edgesDown l = true) (hc : Closed l L) : ∀ (j i : Nat), ((Region.before l.toArray).getD j 0).testBit i = true → (∀ o, l[j]? = some o → ∀ e ∈ o.after, Region.binds .any e = true → L e.on = true) → L i = true := by
 intro j
 induction j using Nat.strongRecOn with
 | _ j ih =>
  intro i hb hl
  rcases Nat.lt_or_ge j l.length with g | g
  · obtain ⟨e, he, hbind, hlt, hh⟩ := bit_edge hed (List.getElem?_eq_getElem g) hb
    have hon := hl _ (List.getElem?_eq_getElem g) e he hbind
    rcases hh with hh | hh
    · rw [← hh]; exact hon
    · exact ih e.on hlt i hh (fun o ho e' he' hb' => hc e.on o ho hon e' he' hb')
  · rw [bit_out g] at hb; cases hb
theorem closed_down (hed : edgesDown l = true) (hc : Closed l L) : Down (Region.before l.toArray) L := fun i j _ hb hL =>
 bit_listed hed hc j i hb (fun o ho e he hbind => hc j o ho hL e he hbind)
theorem ready_of (hed : edgesDown l = true) (hc : Closed l L) (hno : L i = false) (hall : ∀ o, l[i]? = some o → ∀ e ∈ o.after, Region.binds .any e = true → L e.on = true) : Ready (Region.before l.toArray) L i :=
 ⟨hno, fun k _ hb => bit_listed hed hc i k hb hall⟩
theorem closed_add (hc : Closed l L) (hall : ∀ o, l[i]? = some o → ∀ e ∈ o.after, Region.binds .any e = true → L e.on = true) : Closed l (fun j => j == i || L j) := by
 intro j o ho hL e he hb
 simp only [Bool.or_eq_true, beq_iff_eq] at hL ⊢
 rcases hL with rfl | hL
 · exact .inr (hall o ho e he hb)
 · exact .inr (hc j o ho hL e he hb)
def ofList (listed : Array Bool) : Nat → Bool := fun j => listed.getD j false
theorem ofList_add {listed : Array Bool} (hi : i < listed.size) : ofList (listed.setIfInBounds i true) = fun j => j == i || ofList listed j := by
 funext j
 simp only [ofList, Array.getD_eq_getD_getElem?]
 by_cases e : j = i
 · subst e; simp [hi]
 · rw [Array.getElem?_setIfInBounds_ne (Ne.symm e)]
   simp [e]
theorem count_add {n : Nat} (hi : i < n) (hL : L i = false) : ((List.range n).filter (fun j => !L j)).length = ((List.range n).filter (fun j => !(j == i || L j))).length + 1 := by
 have hr : List.range n = List.range i ++ i :: (List.range' (i + 1) (n - i - 1)) := by
  rw [List.range_eq_range', List.range_eq_range']
  have e : n = i + (1 + (n - i - 1)) := by omega
  conv => lhs; rw [e, ← List.range'_append_1, ← List.range'_append_1]
  simp [Nat.add_comm]
 have f1 : (List.range i).filter (fun j => !(j == i || L j)) = (List.range i).filter (fun j => !L j) := by
  apply List.filter_congr
  intro j hj
  have : j ≠ i := by have := List.mem_range.1 hj; omega
  simp [this]
 have f2 : (List.range' (i + 1) (n - i - 1)).filter (fun j => !(j == i || L j)) = (List.range' (i + 1) (n - i - 1)).filter (fun j => !L j) := by
  apply List.filter_congr
  intro j hj
  have : j ≠ i := by have := List.mem_range'_1.1 hj; omega
  simp [this]
 rw [hr, List.filter_append, List.filter_append, List.filter_cons_of_pos (by simp [hL]), List.filter_cons_of_neg (by simp), f1, f2]
 simp only [List.length_append, List.length_cons]
 omega
end Go.Mu
namespace Go.Mu
open Go
variable {P : Program} {h : Hd} {fh : FH} {l : List Oper} {b : Array Nat} {m : Nat} {S : Nat → RS} {R : Nat → List Rec} {Wf : Nat → Wr} {L : Nat → Bool} {s s' : RS} {o : Oper} {i : Nat} {recs : List Rec} {w w' : World} {a : Act} {E E' : Env} {H H' : Heap} {β β' : Nat → Option Nat} {st st' : St}
structure Seq (P : Program) (fh : FH) (l : List Oper) (b : Array Nat) (k m : Nat) (S : Nat → RS) (R : Nat → List Rec) (recs : List Rec) : Prop where
 run : ∀ i o, k ≤ i → i < m → l[i]? = some o → OpRun P fh l i o (S i) (R i) (S (i + 1))
 pair : ∀ i j, k ≤ i → i < j → j < m → ∀ x, x ∈ R i → ∀ y, y ∈ R j → pairOk P b x y = true
 mem : ∀ i, k ≤ i → i < m → ∀ x, x ∈ R i → x ∈ recs
theorem draw_app : ∀ (r2 r1 : List Rec), drawOk P b (r2 ++ r1) = true → drawOk P b r2 = true ∧ ∀ x ∈ r1, ∀ y ∈ r2, pairOk P b x y = true
 | [], r1, _ => ⟨rfl, fun x _ y hy => by simp at hy⟩
 | y :: r2, r1, hd => by
  simp only [List.cons_append, drawOk, Bool.and_eq_true, List.all_eq_true] at hd
  obtain ⟨⟨h1, h2⟩, h3⟩ := hd
  obtain ⟨g1, g2⟩ := draw_app r2 r1 h3
  refine ⟨?_, fun x hx z hz => ?_⟩
  · simp only [drawOk, Bool.and_eq_true, List.all_eq_true]
    exact ⟨⟨fun x hx => h1 x (by simp [hx]), h2⟩, g1⟩
  · rcases List.mem_cons.1 hz with rfl | hz
    · exact h1 x (by simp [hx])
    · exact g2 x hx z hz
theorem draw_bad : ∀ (r : List Rec), drawOk P b r = true → Rec.bad ∉ r
 | [], _ => by simp
 | y :: r, hd => by
  simp only [drawOk, Bool.and_eq_true] at hd
  have ih := draw_bad r hd.2
  intro hm
  rcases List.mem_cons.1 hm with e | hm
  · subst e; simp at hd
  · exact ih hm
theorem seq_cons {k : Nat} {r1 r2 : List Rec} {s s1 : RS} (h1 : OpRun P fh l k o s r1 s1) (ho : l[k]? = some o) (hkm : k < m) (sq : Seq P fh l b (k + 1) m S R r2) (hS : S (k + 1) = s1) (hp : ∀ x ∈ r1, ∀ y ∈ r2, pairOk P b x y = true) :
 Seq P fh l b k m (fun j => if j = k then s else S j) (fun j => if j = k then r1 else R j) (r2 ++ r1) := by
 refine ⟨fun i o' hk hm ho' => ?_, fun i j hk hij hj x hx y hy => ?_, fun i hk hm x hx => ?_⟩
 · by_cases e : i = k
   · subst e
     rw [ho] at ho'
     cases Option.some.inj ho'
     simp only [if_true, if_neg (show i + 1 ≠ i by omega)]
     rw [hS]; exact h1
   · simp only [if_neg e, if_neg (show i + 1 ≠ k by omega)]
     exact sq.run i o' (by omega) hm ho'
 · have ej : j ≠ k := by omega
   simp only [if_neg ej] at hy
   by_cases e : i = k
   · subst e
     simp only [if_true] at hx
     exact hp x hx y (sq.mem j (by omega) hj y hy)
   · simp only [if_neg e] at hx
     exact sq.pair i j (by omega) hij hj x hx y hy
 · by_cases e : i = k
   · subst e
     simp only [if_true] at hx
     simp [hx]
   · simp only [if_neg e] at hx
     exact List.mem_append_left _ (sq.mem i (by omega) hm x hx)
theorem seq_run : ∀ (rest : List Oper) (k : Nat) (s : RS) (recs : List Rec) (s' : RS), OpsRun P fh l rest k s recs s' → l.drop k = rest → drawOk P b recs = true → k ≤ l.length → ∃ S R, S k = s ∧ S l.length = s' ∧ Seq P fh l b k l.length S R recs
 | [], k, s, _, _, .nil _ _, hd, _, hk => by
  have : k = l.length := by
   have := List.drop_eq_nil_iff.1 hd; omega
  subst this
  exact ⟨fun _ => s, fun _ => [], rfl, rfl, ⟨fun i o h1 h2 => by omega, fun i j h1 h2 h3 => by omega, fun i h1 h2 => by omega⟩⟩
 | o :: rest, k, s, _, s', .cons (s1 := s1) (r1 := r1) (r2 := r2) h1 h2, hd, hdr, hk => by
  obtain ⟨g1, g2⟩ := drop_mem hd
  have hkl : k < l.length := (List.getElem?_eq_some_iff.1 g1).1
  obtain ⟨d1, d2⟩ := draw_app r2 r1 hdr
  obtain ⟨S, R, hS, hSn, sq⟩ := seq_run rest (k + 1) s1 r2 s' h2 g2 d1 (by omega)
  refine ⟨_, _, ?_, ?_, seq_cons h1 g1 hkl sq hS d2⟩
  · simp
  · rw [if_neg (by omega)]; exact hSn
theorem seq_pan : ∀ (rest : List Oper) (k : Nat) (s : RS) (m : Nat) (recs : List Rec) (p : AVal) (s' : RS), OpsPan P fh l rest k s m recs p s' → l.drop k = rest → drawOk P b recs = true →
 ∃ S R o, k ≤ m ∧ S k = s ∧ l[m]? = some o ∧ OpPan P fh l o (S m) p s' ∧ Seq P fh l b k m S R recs
 | [], k, s, _, _, _, _, h, _, _ => by cases h
 | o :: rest, k, s, _, _, p, s', .here h1, hd, hdr => by
  obtain ⟨g1, g2⟩ := drop_mem hd
  exact ⟨fun _ => s, fun _ => [], o, Nat.le_refl _, rfl, g1, h1, ⟨fun i o h1 h2 => by omega, fun i j h1 h2 h3 => by omega, fun i h1 h2 => by omega⟩⟩
 | o :: rest, k, s, m, _, p, s', .later (s1 := s1) (r1 := r1) (r2 := r2) h1 h2, hd, hdr => by
  obtain ⟨g1, g2⟩ := drop_mem hd
  obtain ⟨d1, d2⟩ := draw_app r2 r1 hdr
  obtain ⟨S, R, o', hkm, hS, ho', hpan, sq⟩ := seq_pan rest (k + 1) s1 m r2 p s' h2 g2 d1
  refine ⟨fun j => if j = k then s else S j, fun j => if j = k then r1 else R j, o', by omega, by simp, ho', ?_, seq_cons h1 g1 (by omega) sq hS d2⟩
  simp only [if_neg (show m ≠ k by omega)]
  exact hpan
theorem tr_of (sq : Seq P fh l b 0 m S R recs) (hle : m ≤ l.length) (hbad : Rec.bad ∉ recs) : ∃ Wf, Tr P fh l b m S R Wf := by
 have ex : ∀ i, ∃ W : Wr, ∀ (hi : i < m) (o : Oper), l[i]? = some o → S (i + 1) = W.app (S i) ∧ W.dst = o.dst ∧ W.c = guardDst l o ∧ (∀ d c, W.wb = some (d, c) → Rec.eff i (some d) (S i).B (S i).H (S (i + 1)).B (S (i + 1)).H ∈ R i) ∧
  (W.wh.isSome = true → Rec.eff i none (S i).B (S i).H (S (i + 1)).B (S (i + 1)).H ∈ R i) ∧ (∀ d off, W.v = .ptr (.tmp d) off → Rec.ptv i d ∈ R i) ∧ ∀ s2, Fits P l i o (S i) (R i) s2 → ∃ recs2, OpRun P fh l i o s2 recs2 (W.app s2) := by
  intro i
  by_cases hi : i < m
  · obtain ⟨W, hW⟩ := opRun_wr (sq.run i _ (by omega) hi (List.getElem?_eq_getElem (show i < l.length by omega))) (fun hb => hbad (sq.mem i (by omega) hi _ hb))
    refine ⟨W, fun _ o ho => ?_⟩
    rw [List.getElem?_eq_getElem (show i < l.length by omega)] at ho
    cases Option.some.inj ho
    exact hW
  · exact ⟨⟨none, .undef, none, true, none, none⟩, fun h => absurd h hi⟩
 obtain ⟨Wf, hWf⟩ := Classical.axiomOfChoice ex
 have hat : ∀ i, i < m → ∃ o, l[i]? = some o := fun i hi => ⟨_, List.getElem?_eq_getElem (show i < l.length by omega)⟩
 refine ⟨Wf, ⟨fun i o hi ho => sq.run i o (by omega) hi ho, fun i hi => ?_, fun i o hi ho => ?_, fun i d c hi => ?_, fun i hi => ?_, fun i d off hi => ?_, fun i o s2 hi ho => ?_, fun i j hij hj => sq.pair i j (by omega) hij hj, hle⟩⟩
 · obtain ⟨o, ho⟩ := hat i hi; exact (hWf i hi o ho).1
 · exact ⟨(hWf i hi o ho).2.1, (hWf i hi o ho).2.2.1⟩
 · obtain ⟨o, ho⟩ := hat i hi; exact (hWf i hi o ho).2.2.2.1 d c
 · obtain ⟨o, ho⟩ := hat i hi; exact (hWf i hi o ho).2.2.2.2.1
 · obtain ⟨o, ho⟩ := hat i hi; exact (hWf i hi o ho).2.2.2.2.2.1 d off
 · exact (hWf i hi o ho).2.2.2.2.2.2 s2
structure Drawn (P : Program) (fh : FH) (l : List Oper) (m : Nat) (S : Nat → RS) (R : Nat → List Rec) (Wf : Nat → Wr) : Prop where
 tr : Tr P fh l (Region.before l.toArray) m S R Wf
 names : namesOk l (Region.before l.toArray) = true
 edges : edgesDown l = true
 guards : guardsOk l = true
 G0 : ∀ t, (S 0).G.getD t none = none
 al : ∀ o ∈ l, isAl o = true → (S 0).T.any (pointsTo (o.dst.getD 0)) = false
end Go.Mu
namespace Go.Mu
open Go
variable {P : Program} {h : Hd} {fh : FH} {l : List Oper} {m : Nat} {S : Nat → RS} {R : Nat → List Rec} {Wf : Nat → Wr} {L : Nat → Bool} {s s' : RS} {o : Oper} {i : Nat} {recs : List Rec} {w w' : World} {a : Act} {E E' : Env} {H H' : Heap} {β β' : Nat → Option Nat} {st st' : St}
theorem mem_ready' {j : Nat} {listed : Array Bool} (hs : listed.size = l.length) (hj : j ∈ Region.ready .any l.toArray listed) :
 j < l.length ∧ ofList listed j = false ∧ ∀ o, l[j]? = some o → ∀ e ∈ o.after, Region.binds .any e = true → ofList listed e.on = true := by
 obtain ⟨h1, o, ho, h2⟩ := mem_ready.1 hj
 have ho' : l[j]? = some o := by simpa using ho
 have hlt := (List.getElem?_eq_some_iff.1 ho').1
 refine ⟨hlt, ?_, fun o' ho2 e he hb => ?_⟩
 · unfold ofList
   rw [Array.getD_eq_getD_getElem?] at h1 ⊢
   rw [Array.getElem?_eq_getElem (by omega)] at h1 ⊢
   exact h1
 · rw [ho'] at ho2
   cases Option.some.inj ho2
   exact h2 e he hb
theorem ready_some (hed : edgesDown l = true) {listed : Array Bool} (hs : listed.size = l.length) {k : Nat} (hk : k < l.length) (hL : ofList listed k = false) : Region.ready .any l.toArray listed ≠ [] := by
 obtain ⟨j, hj, hjL, hmin⟩ := min_of (p := fun k => ofList listed k = false) k hL
 have hjl : j < l.length := by omega
 intro he
 have : j ∈ Region.ready .any l.toArray listed := by
  rw [mem_ready]
  refine ⟨?_, l[j], by simp [hjl], fun e hae hb => ?_⟩
  · unfold ofList at hjL
    rw [Array.getD_eq_getD_getElem?, Array.getElem?_eq_getElem (by omega)] at hjL ⊢
    exact hjL
  · have hlt : e.on < j := by
     unfold edgesDown at hed
     simp only [List.all_eq_true] at hed
     have hm : (l[j], j) ∈ l.zipIdx := by rw [List.mem_zipIdx_iff_getElem?]; exact List.getElem?_eq_getElem hjl
     have := hed _ hm e (by simpa using hae)
     simpa [hb] using this
    have := hmin e.on hlt
    cases hh : ofList listed e.on with
    | true => exact hh
    | false => exact absurd hh this
 rw [he] at this; simp at this
theorem draw_step (dr : Drawn P fh l m S R Wf) {listed : Array Bool} (hs : listed.size = l.length) (hc : Closed l (ofList listed)) {Q : Exit → Act → World → Prop} {K : Act → World → Prop} (hi : i ∈ Region.ready .any l.toArray listed) (him : i < m)
 (ri : RI w a E β (mg Wf m (S 0) (ofList listed))) (hK : ∀ w' a' E' β', Next w E β (mg Wf m (S 0) (ofList listed)).H w' a' E' β' (mg Wf m (S 0) (ofList (listed.setIfInBounds i true))) → K a' w') : wpOp P l.toArray Q i K a w := by
 obtain ⟨hlt, hno, hall⟩ := mem_ready' hs hi
 have ho := List.getElem?_eq_getElem hlt
 have hd := closed_down dr.edges hc
 have hr := ready_of dr.edges hc hno hall
 have hf := fits dr.tr dr.G0 dr.al dr.names dr.guards hd hr him ho
 obtain ⟨recs2, hrun⟩ := dr.tr.move i _ _ him ho hf
 have hadd := mg_add (Wf := Wf) (s0 := S 0) (L := ofList listed) him hno (fun c hw j hij hjm hL => by
  cases hwj : wrC c (Wf j) with
  | false => rfl
  | true =>
   have cc : cmpB (Region.before l.toArray) i j = true := by
    obtain ⟨oj, hoj⟩ := op_at dr.tr hjm
    have hdst : ∀ t, (Wf i).dst = some t → (Wf j).dst = some t → cmpB (Region.before l.toArray) i j = true := fun t h1 h2 =>
     names_cmp dr.names ho hoj (by omega) (by rw [← (dr.tr.dst i _ him ho).1]; exact h1) (by unfold namesOf; rw [← (dr.tr.dst j _ hjm hoj).1, h2]; simp)
    cases c with
    | T t => exact hdst t (by simpa [wrC] using hw) (by simpa [wrC] using hwj)
    | G t =>
     simp only [wrC, Bool.and_eq_true, beq_iff_eq] at hw hwj
     exact hdst t hw.1 hwj.1
    | B x => exact dr.tr.eff_cmp (c := .B x) (x := some x) rfl him hjm (by omega) hw hwj
    | H => exact dr.tr.eff_cmp (c := .H) (x := none) rfl him hjm (by omega) hw hwj
    | D => simp [wrC] at hw
   have := cmp_iff hd hr (j := j) (by omega) cc
   rw [hL] at this; simp at this; omega)
 rw [← ofList_add (by omega)] at hadd
 refine op_sound hrun ho ri (fun w' a' E' β' n => hK w' a' E' β' ?_)
 rw [hadd]; exact n
theorem closed_set {listed : Array Bool} (hs : listed.size = l.length) (hc : Closed l (ofList listed)) (hi : i ∈ Region.ready .any l.toArray listed) : Closed l (ofList (listed.setIfInBounds i true)) := by
 obtain ⟨hlt, hno, hall⟩ := mem_ready' hs hi
 rw [ofList_add (by omega)]
 exact closed_add hc hall
theorem draw_normal (dr : Drawn P fh l m S R Wf) (hm : m = l.length) {Q : Exit → Act → World → Prop} : ∀ (fuel : Nat) (listed : Array Bool) (w : World) (a : Act) (E : Env) (β : Nat → Option Nat), listed.size = l.length → Closed l (ofList listed) →
 ((List.range l.length).filter (fun j => !ofList listed j)).length ≤ fuel → RI w a E β (mg Wf m (S 0) (ofList listed)) →
 (∀ w' a' E' β', Next w E β (mg Wf m (S 0) (ofList listed)).H w' a' E' β' (S m) → Q .normal a' w') → wpAny P .any l.toArray Q fuel listed a w := by
 have done : ∀ (listed : Array Bool) (w : World) (a : Act) (E : Env) (β : Nat → Option Nat), (∀ j, j < l.length → ofList listed j = true) → RI w a E β (mg Wf m (S 0) (ofList listed)) → (∀ w' a' E' β', Next w E β (mg Wf m (S 0) (ofList listed)).H w' a' E' β' (S m) → Q .normal a' w') → Q .normal a w := by
  intro listed w a E β hall ri hQ
  have e : mg Wf m (S 0) (ofList listed) = S m := by
   rw [dr.tr.text m (Nat.le_refl _)]
   unfold mg
   congr 1
   apply List.filter_congr
   intro j hj
   have := List.mem_range.1 hj
   rw [hall j (by omega)]
   simp [this]
  rw [e] at ri hQ
  exact hQ w a E β ⟨ri, .refl, fun _ _ h => .inl h⟩
 intro fuel
 induction fuel with
 | zero =>
  intro listed w a E β hs hc hf ri hQ
  have hall : ∀ j, j < l.length → ofList listed j = true := fun j hj => by
   cases hL : ofList listed j with
   | true => rfl
   | false =>
    have hm : j ∈ (List.range l.length).filter (fun j => !ofList listed j) := List.mem_filter.2 ⟨List.mem_range.2 hj, by simp [hL]⟩
    rw [List.eq_nil_of_length_eq_zero (Nat.le_zero.1 hf)] at hm; simp at hm
  refine ⟨?_, done listed w a E β hall ri hQ⟩
  cases hr : Region.ready .any l.toArray listed with
  | nil => rfl
  | cons j js =>
   obtain ⟨hlt, hno, _⟩ := mem_ready' hs (j := j) (by rw [hr]; simp)
   rw [hall j hlt] at hno; cases hno
 | succ fuel ih =>
  intro listed w a E β hs hc hf ri hQ
  refine ⟨fun hnil => done listed w a E β (fun j hj => ?_) ri hQ, fun i hi => ?_⟩
  · cases hL : ofList listed j with
    | true => rfl
    | false => exact absurd hnil (ready_some dr.edges hs hj hL)
  · obtain ⟨hlt, hno, hall⟩ := mem_ready' hs hi
    refine draw_step dr hs hc hi (by omega) ri (fun w' a' E' β' n => ?_)
    refine ih _ w' a' E' β' (by simpa using hs) (closed_set hs hc hi) ?_ n.ri (fun w2 a2 E2 β2 n2 => hQ w2 a2 E2 β2 (n.trans n2))
    have := count_add (n := l.length) (L := ofList listed) hlt hno
    rw [ofList_add (by omega)]
    show ((List.range l.length).filter (fun j => !(j == i || ofList listed j))).length ≤ fuel
    omega
theorem draw_panic (dr : Drawn P fh l m S R Wf) {Q : Exit → Act → World → Prop} {p : AVal} {s' : RS} (hom : l[m]? = some o) (hpan : OpPan P fh l o (S m) p s') (hbeh : behind l.length (Region.before l.toArray) m = true)
 (hH : ∀ j, j < m → wrC .H (Wf j) = true → cmpB (Region.before l.toArray) j m = true) : ∀ (fuel : Nat) (listed : Array Bool) (w : World) (a : Act) (E : Env) (β : Nat → Option Nat), listed.size = l.length → Closed l (ofList listed) → (∀ j, ofList listed j = true → j < m) →
 ((List.range l.length).filter (fun j => !ofList listed j)).length ≤ fuel → RI w a E β (mg Wf m (S 0) (ofList listed)) →
 (∀ w' a' E' β' c s2, RI w' a' E' β' s2 → s2.H = s'.H → s2.D = s'.D → s2.T.length = (S 0).T.length → s2.B.length = (S 0).B.length → (∀ t, (∀ o ∈ l, o.dst ≠ some t) → s2.T.getD t .undef = (S 0).T.getD t .undef ∧ s2.G.getD t none = none) →
  Evo (Xβ β) w E (mg Wf m (S 0) (ofList listed)).H w' E' s2.H → (∀ t b, β' t = some b → β t = some b ∨ w.heap.size ≤ b) → Rep w' E' s2.H p c → Q (.panic [{ v := c, recovered := false }]) a' w') →
 wpAny P .any l.toArray Q fuel listed a w := by
 have hml : m < l.length := (List.getElem?_eq_some_iff.1 hom).1
 intro fuel
 induction fuel with
 | zero =>
  intro listed w a E β hs hc hlm hf ri hQ
  have hm : m ∈ (List.range l.length).filter (fun j => !ofList listed j) := List.mem_filter.2 ⟨List.mem_range.2 hml, by
   cases hL : ofList listed m with
   | false => rfl
   | true => have := hlm m hL; omega⟩
  rw [List.eq_nil_of_length_eq_zero (Nat.le_zero.1 hf)] at hm; simp at hm
 | succ fuel ih =>
  intro listed w a E β hs hc hlm hf ri hQ
  have hmno : ofList listed m = false := by
   cases hL : ofList listed m with
   | false => rfl
   | true => have := hlm m hL; omega
  refine ⟨fun hnil => absurd hnil (ready_some dr.edges hs hml hmno), fun i hi => ?_⟩
  obtain ⟨hlt, hno, hall⟩ := mem_ready' hs hi
  have hd := closed_down dr.edges hc
  have hr := ready_of dr.edges hc hno hall
  rcases Nat.lt_trichotomy i m with him | him | him
  · refine draw_step dr hs hc hi him ri (fun w' a' E' β' n => ?_)
    refine ih _ w' a' E' β' (by simpa using hs) (closed_set hs hc hi) (fun j hj => ?_) ?_ n.ri (fun w2 a2 E2 β2 c s2 r0 r1 r2 r3 r4 r5 ev nw rp => hQ w2 a2 E2 β2 c s2 r0 r1 r2 r3 r4 r5 (n.evo.trans ev (fun b hb => ?_)) (fun t b hb => ?_) rp)
    · rw [ofList_add (by omega)] at hj
      simp only [Bool.or_eq_true, beq_iff_eq] at hj
      rcases hj with rfl | hj
      · exact him
      · exact hlm j hj
    · have := count_add (n := l.length) (L := ofList listed) hlt hno
      rw [ofList_add (by omega)]
      show ((List.range l.length).filter (fun j => !(j == i || ofList listed j))).length ≤ fuel
      omega
    · obtain ⟨t, ht⟩ := hb
      exact (n.new t b ht).imp (fun g => ⟨t, g⟩) id
    · rcases nw t b hb with g | g
      · exact n.new t b g
      · exact .inr (Nat.le_trans n.evo.size g)
  · subst him
    -- the panic, where it stands
    have hfit : ∀ t, t ∈ namesOf l o → (mg Wf i (S 0) (ofList listed)).T.getD t .undef = (S i).T.getD t .undef ∧ (mg Wf i (S 0) (ofList listed)).G.getD t none = (S i).G.getD t none := fun t ht => names_req dr.tr dr.names hd hr (Nat.le_refl _) hom ht
    have hheap : (mg Wf i (S 0) (ofList listed)).H = (S i).H := heap_req dr.tr hd hr (Nat.le_refl _) (fun j hj hne hw => by rw [cmp_comm]; exact hH j hj hw)
    have hD : (mg Wf i (S 0) (ofList listed)).D = (S i).D := dr.tr.agree (c := .D) (Nat.le_refl _) (fun j hj hw => by simp [wrC] at hw)
    have rest : ∀ t, (∀ o ∈ l, o.dst ≠ some t) → (mg Wf i (S 0) (ofList listed)).T.getD t .undef = (S 0).T.getD t .undef ∧ (mg Wf i (S 0) (ofList listed)).G.getD t none = none := fun t ht => by
     have hsk : ∀ j, j < i → (Wf j).dst ≠ some t := fun j hj => by
      obtain ⟨oj, hoj⟩ := op_at dr.tr hj
      rw [(dr.tr.dst j _ hj hoj).1]
      exact ht _ (List.mem_of_getElem? hoj)
     have q1 : REq (.T t) (mg Wf i (S 0) (ofList listed)) (S 0) := foldW_skip _ _ _ (fun j hj => by
      have := hsk j (List.mem_range.1 (List.mem_filter.1 hj).1)
      simpa [wrC] using this) .refl
     have q2 : REq (.G t) (mg Wf i (S 0) (ofList listed)) (S 0) := foldW_skip _ _ _ (fun j hj => by
      have := hsk j (List.mem_range.1 (List.mem_filter.1 hj).1)
      simp [wrC, this]) .refl
     exact ⟨q1.2, q2.2.trans (dr.G0 t)⟩
    have lens := mg_len (Wf := Wf) (m := i) (s0 := S 0) (L := ofList listed)
    cases hpan with
    | pan x t v hg hcg htag hkind hif =>
     have hx : aeval (mg Wf i (S 0) (ofList listed)).T x = aeval (S i).T x := aeval_fit hfit (by rw [kind_pan hkind]; simp [Op.operands])
     refine pan_sound (fh := fh) (.pan x t v (guard_fit hfit (free_req dr.tr dr.G0 dr.names dr.guards hd hr (Nat.le_refl _) hom hg.2.1) hg) hcg (okOp_fit hfit htag) hkind (by rw [hx]; exact hif)) hom ri (fun w' E' c f => ?_)
     exact hQ w' a E' β c _ f.ri hheap hD lens.1 lens.2.2 rest f.evo (fun _ _ h => .inl h) f.rep
    | call f args g caps _ H1 hg hgv htag hkind hf' hn hcall =>
     have ha : aeval (mg Wf i (S 0) (ofList listed)).T f = aeval (S i).T f ∧ args.toList.map (aeval (mg Wf i (S 0) (ofList listed)).T) = args.toList.map (aeval (S i).T) := by
      obtain ⟨c, e, hcc, hca⟩ := kind_call hkind
      refine ⟨aeval_fit hfit (by rw [e]; simp [Op.operands, Call.operands, hcc]), List.map_congr_left fun x hx => aeval_fit hfit ?_⟩
      rw [e]
      have hx' : x ∈ args := by simpa using hx
      simp [Op.operands, Call.operands, hcc, hca, hx']
     refine pan_sound (fh := fh) (.call f args g caps p H1 (guard_fit hfit (free_req dr.tr dr.G0 dr.names dr.guards hd hr (Nat.le_refl _) hom hg.2.1) hg) ((gv_fit hfit).trans hgv) (okOp_fit hfit htag) hkind (by rw [ha.1]; exact hf') (by rw [ha.2]; exact hn) (by rw [ha.2, hheap]; exact hcall)) hom ri (fun w' E' c f => ?_)
     exact hQ w' a E' β c _ f.ri rfl hD lens.1 lens.2.2 rest f.evo (fun _ _ h => .inl h) f.rep
  · exfalso
    have hb : ((Region.before l.toArray).getD i 0).testBit m = true := by
     unfold behind at hbeh
     simp only [List.all_eq_true] at hbeh
     have := hbeh i (List.mem_range.2 hlt)
     simp only [Bool.or_eq_true, decide_eq_true_eq] at this
     rcases this with g | g
     · omega
     · exact g
    have := hr.ahead m him hb
    rw [hmno] at this; cases this
theorem closed_none : Closed l (ofList (Array.replicate l.length false)) := by
 intro j o ho hL
 unfold ofList at hL
 rw [Array.getD_eq_getD_getElem?, Array.getElem?_replicate] at hL
 split at hL <;> simp at hL
theorem mg_none : mg Wf m (S 0) (ofList (Array.replicate l.length false)) = S 0 := by
 have : (List.range m).filter (ofList (Array.replicate l.length false)) = [] := by
  rw [List.filter_eq_nil_iff]
  intro j _ hL
  unfold ofList at hL
  rw [Array.getD_eq_getD_getElem?, Array.getElem?_replicate] at hL
  split at hL <;> simp at hL
 unfold mg; rw [this]; rfl
theorem drawn_world (ci : CI w a E β st) : CI { w with drawn := w.drawn + 1 } a E β st := by
 have hs : Sees w E st.H { w with drawn := w.drawn + 1 } E st.H := ⟨fun b hb => ⟨hb, rfl⟩, fun k hk => ⟨hk, rfl⟩, fun k sz u hk => ⟨u, hk, Nat.le_refl _, fun _ => ⟨rfl, fun _ => rfl⟩⟩⟩
 exact ⟨ci.fs.keep (ci.fs.sim.keep hs (fun k hk => rfl) (Nat.le_refl _)) hs (Nat.le_refl _) (fun t b hb => (ci.fs.box t b hb).1) (fun t b hb k hk => (ci.fs.box t b hb).2.2.1 k hk) (fun t b hb => rfl), ci.bad, ci.tag, ci.defs.mono hs⟩
theorem drawn_evo {X : Nat → Prop} (ev : Evo X { w with drawn := w.drawn + 1 } E H w' E' H') : Evo X w E H w' E' H' :=
 ⟨ev.size, ev.kept, ev.immKept, ev.immNew, ev.var, ev.arr, ev.phi, ev.len, ev.tape, ev.os, ev.output⟩
section
variable {l : List Oper} {σ : List Nat}
theorem ren_wp {Q : Exit → Act → World → Prop} {K : Act → World → Prop} {a : Act} {w : World} (o : Oper) : ((renO σ o).wp P a w K Q ∨ ((renO σ o).asks P a w ∧ LetsOut Q)) = (o.wp P a w K Q ∨ (o.asks P a w ∧ LetsOut Q)) := by
 cases o; rfl
theorem ren_binds (e : Edge) (n : Nat) : Region.binds .any { e with on := n } = Region.binds .any e := by cases e; rfl
theorem perm_at (hσ : σ.Perm (List.range l.length)) {i : Nat} (hi : i < l.length) : σ.idxOf i < l.length ∧ (permOps σ l)[σ.idxOf i]? = some (renO σ l[i]) := by
 have hm : i ∈ σ := hσ.mem_iff.2 (List.mem_range.2 hi)
 have hlen : σ.length = l.length := by rw [hσ.length_eq, List.length_range]
 have h1 : σ.idxOf i < σ.length := List.idxOf_lt_length_of_mem hm
 refine ⟨by omega, ?_⟩
 unfold permOps
 rw [List.getElem?_map, List.getElem?_eq_getElem h1, List.getElem_idxOf h1]
 simp [gQ, List.getElem?_eq_getElem hi]
theorem perm_inv (hσ : σ.Perm (List.range l.length)) {p : Nat} (hp : p < l.length) : ∃ i, i < l.length ∧ σ.idxOf i = p := by
 have hlen : σ.length = l.length := by rw [hσ.length_eq, List.length_range]
 have hnd : σ.Nodup := hσ.nodup_iff.2 List.nodup_range
 refine ⟨σ[p]'(by omega), List.mem_range.1 (hσ.mem_iff.1 (List.getElem_mem _)), ?_⟩
 exact hnd.idxOf_getElem p (by omega)
theorem perm_out (hσ : σ.Perm (List.range l.length)) {i : Nat} (hi : ¬ i < l.length) : ¬ σ.idxOf i < l.length := by
 have hlen : σ.length = l.length := by rw [hσ.length_eq, List.length_range]
 have hm : i ∉ σ := fun h => hi (List.mem_range.1 (hσ.mem_iff.1 h))
 rw [List.idxOf_eq_length hm]; omega
theorem permOps_length (hσ : σ.Perm (List.range l.length)) : (permOps σ l).length = l.length := by
 unfold permOps; rw [List.length_map, hσ.length_eq, List.length_range]
def Alike (σ : List Nat) (n : Nat) (x y : Array Bool) : Prop := x.size = n ∧ y.size = n ∧ ∀ i, i < n → x.getD i false = y.getD (σ.idxOf i) false
theorem getD_tf {x : Array Bool} {i : Nat} (h : i < x.size) : x.getD i true = x.getD i false := by
 simp [Array.getD_eq_getD_getElem?, Array.getElem?_eq_getElem h]
theorem ready_perm (hσ : σ.Perm (List.range l.length)) {x y : Array Bool} (hxy : Alike σ l.length x y) {i : Nat} (hi : i < l.length) :
 i ∈ Region.ready .any l.toArray x ↔ σ.idxOf i ∈ Region.ready .any (permOps σ l).toArray y := by
 obtain ⟨hx, hy, he⟩ := hxy
 obtain ⟨p1, p2⟩ := perm_at hσ hi
 rw [mem_ready, mem_ready, getD_tf (by omega), getD_tf (by omega), he i hi]
 have o1 : l.toArray[i]? = some l[i] := by simp [hi]
 have o2 : (permOps σ l).toArray[σ.idxOf i]? = some (renO σ l[i]) := by simpa using p2
 have edge : ∀ n, x.getD n false = true ↔ y.getD (σ.idxOf n) false = true := fun n => by
  by_cases hn : n < l.length
  · rw [he n hn]
  · have := perm_out hσ hn
    simp [Array.getD_eq_getD_getElem?, Array.getElem?_eq_none (show x.size ≤ n by omega), Array.getElem?_eq_none (show y.size ≤ σ.idxOf n by omega)]
 constructor
 · rintro ⟨h1, o, ho, h2⟩
   rw [o1, sJ] at ho
   subst ho
   refine ⟨h1, _, o2, fun e hem hb => ?_⟩
   obtain ⟨e0, h0, rfl⟩ : ∃ e0 ∈ l[i].after, { e0 with on := σ.idxOf e0.on } = e := by simpa [renO] using hem
   rw [ren_binds] at hb
   exact (edge e0.on).1 (h2 e0 h0 hb)
 · rintro ⟨h1, o, ho, h2⟩
   rw [o2, sJ] at ho
   subst ho
   refine ⟨h1, _, o1, fun e hem hb => ?_⟩
   exact (edge e.on).2 (h2 { e with on := σ.idxOf e.on } (by simpa [renO] using ⟨e, hem, rfl, rfl⟩) (by rw [ren_binds]; exact hb))
theorem ready_lt {x : Array Bool} {i : Nat} (h : i ∈ Region.ready .any l.toArray x) : i < l.length := by
 obtain ⟨_, o, ho, _⟩ := mem_ready.1 h
 have : l[i]? = some o := by simpa using ho
 exact (List.getElem?_eq_some_iff.1 this).1
theorem ready_nil (hσ : σ.Perm (List.range l.length)) {x y : Array Bool} (hxy : Alike σ l.length x y) : Region.ready .any l.toArray x = [] ↔ Region.ready .any (permOps σ l).toArray y = [] := by
 constructor <;> intro h <;> apply List.eq_nil_iff_forall_not_mem.2 <;> intro p hp
 · have hlt := ready_lt hp
   rw [permOps_length hσ] at hlt
   obtain ⟨i, hi, rfl⟩ := perm_inv hσ hlt
   have := (ready_perm hσ hxy hi).2 hp
   rw [h] at this; cases this
 · have := (ready_perm hσ hxy (ready_lt hp)).1 hp
   rw [h] at this; cases this
theorem wanted_perm (hσ : σ.Perm (List.range l.length)) (o : Oper) (tm : Array Value) : Region.wanted (renO σ o) (yielded (permOps σ l).toArray tm) = Region.wanted o (yielded l.toArray tm) := by
 have hy : ∀ j, yielded (permOps σ l).toArray tm (σ.idxOf j) = yielded l.toArray tm j := fun j => by
  unfold yielded
  by_cases hj : j < l.length
  · obtain ⟨_, p2⟩ := perm_at hσ hj
    have o1 : l.toArray[j]? = some l[j] := by simp [hj]
    have o2 : (permOps σ l).toArray[σ.idxOf j]? = some (renO σ l[j]) := by simpa using p2
    rw [o1, o2]; rfl
  · have := perm_out hσ hj
    have o1 : l.toArray[j]? = none := by simp; omega
    have o2 : (permOps σ l).toArray[σ.idxOf j]? = none := by simp [permOps_length hσ]; omega
    rw [o1, o2]
 unfold Region.wanted
 obtain ⟨d, op, ty, ps, af, g⟩ := o
 cases g with
 | none => rfl
 | some g => simp only [renO, Option.map_some]; rw [hy]
theorem alike_set (hσ : σ.Perm (List.range l.length)) {x y : Array Bool} (hxy : Alike σ l.length x y) {i : Nat} (hi : i < l.length) : Alike σ l.length (x.setIfInBounds i true) (y.setIfInBounds (σ.idxOf i) true) := by
 obtain ⟨hx, hy, he⟩ := hxy
 refine ⟨by simpa using hx, by simpa using hy, fun j hj => ?_⟩
 have p1 := (perm_at hσ hi).1
 simp only [Array.getD_eq_getD_getElem?]
 by_cases e : j = i
 · subst e; simp [hx, hy, hi, p1]
 · have hne : σ.idxOf j ≠ σ.idxOf i := fun h => by
    have hmj : j ∈ σ := hσ.mem_iff.2 (List.mem_range.2 hj)
    have hmi : i ∈ σ := hσ.mem_iff.2 (List.mem_range.2 hi)
    have a1 := List.getElem_idxOf (List.idxOf_lt_length_of_mem hmj)
    have a2 := List.getElem_idxOf (List.idxOf_lt_length_of_mem hmi)
    have : σ[σ.idxOf j]'(List.idxOf_lt_length_of_mem hmj) = σ[σ.idxOf i]'(List.idxOf_lt_length_of_mem hmi) := by congr 1
    rw [a1, a2] at this
    exact e this
   rw [Array.getElem?_setIfInBounds_ne (Ne.symm e), Array.getElem?_setIfInBounds_ne (Ne.symm hne)]
   have := he j hj
   simpa only [Array.getD_eq_getD_getElem?] using this
theorem wpAny_perm (hσ : σ.Perm (List.range l.length)) {Q : Exit → Act → World → Prop} : ∀ (fuel : Nat) (x y : Array Bool) (a : Act) (w : World), Alike σ l.length x y → wpAny P .any (permOps σ l).toArray Q fuel y a w → wpAny P .any l.toArray Q fuel x a w
 | 0, x, y, a, w, hxy, h => ⟨(ready_nil hσ hxy).2 h.1, h.2⟩
 | fuel + 1, x, y, a, w, hxy, h => by
  refine ⟨fun hn => h.1 ((ready_nil hσ hxy).1 hn), fun i hi => ?_⟩
  have hlt := ready_lt hi
  obtain ⟨p1, p2⟩ := perm_at hσ hlt
  have h1 := h.2 _ ((ready_perm hσ hxy hlt).1 hi)
  have ih := fun a w => wpAny_perm hσ (Q := Q) fuel _ _ a w (alike_set hσ hxy hlt)
  have h2 := wpOp_mono ih h1
  unfold wpOp at h2 ⊢
  have o1 : l.toArray[i]? = some l[i] := by simp [hlt]
  have o2 : (permOps σ l).toArray[σ.idxOf i]? = some (renO σ l[i]) := by simpa using p2
  rw [o1]
  rw [o2] at h2
  simp only [wanted_perm hσ] at h2
  rw [ren_wp] at h2
  exact h2
theorem getD_repF (m i : Nat) : (Array.replicate m false).getD i false = false := by
 rw [Array.getD_eq_getD_getElem?, Array.getElem?_replicate]; split <;> rfl
theorem hoist_perm (two : Bool) (l : List Oper) : (hoistOf two l).Perm (List.range l.length) := by
 unfold hoistOf
 split
 · exact List.filter_append_perm _ _
 · exact List.filter_append_perm _ _
end
theorem draw_core (hh : HOK P h) {l0 : List Oper} {k : Kont} {out : Out} (hi : iDrawn P h fh l0 st k = some out) : P.follows .mixedOrders = true ∧ ∃ e st', (∀ w a E β, CI w a E β st → wpAny P .any l0.toArray (Leaves' w E β st.H e st') l0.length (Array.replicate l0.length false) a { w with drawn := w.drawn + 1 }) ∧ k e st' = some out := by
 obtain ⟨ops, rfl⟩ : ∃ ops : Array Oper, l0 = ops.toList := ⟨l0.toArray, by simp⟩
 simp only [iDrawn, withUntag_eq, iOps_eq, Array.toArray_toList] at hi ⊢
 split at hi
 case isFalse => simp at hi
 rename_i hst
 simp only [Bool.and_eq_true] at hst
 obtain ⟨⟨hfol, hstat⟩, hall⟩ := hst
 unfold staticOk at hstat
 simp only [Bool.and_eq_true] at hstat
 obtain ⟨⟨hn, hed⟩, hg⟩ := hstat
 have hA : ∀ o ∈ ops.toList, isAl o = true → st.T.any (pointsTo (o.dst.getD 0)) = false := by
  intro o ho ha
  unfold allocsFree at hall
  have := List.all_eq_true.1 hall o ho
  unfold isAl at ha
  split at ha
  · rename_i e; rw [e] at this; simpa using this
  · rename_i e; rw [e] at this; simpa using this
  · simp at ha
 have hsize : ops.size = ops.toList.length := by simp
 rcases iOps_run hh _ _ _ _ _ _ (TagInv.none _) hi with ⟨recs, s', h1, h2⟩ | ⟨j, recs, p, s', h1, h2⟩
 · simp only [List.append_nil, Bool.cond_eq_ite] at h2
   split at h2
   case isFalse => simp at h2
   rename_i hdr
   obtain ⟨S, R, hS, hSn, sq⟩ := seq_run (b := Region.before ops) ops.toList 0 _ _ _ h1 rfl hdr (Nat.zero_le _)
   obtain ⟨Wf, tr⟩ := tr_of sq (Nat.le_refl _) (draw_bad _ hdr)
   have dr : Drawn P fh ops.toList ops.toList.length S R Wf := ⟨tr, hn, hed, hg, fun t => by rw [hS]; exact getD_map_none _ _, fun o ho ha => by rw [hS]; exact hA o ho ha⟩
   refine ⟨hfol, .normal, _, fun w a E β ci => ?_, h2⟩
   refine draw_normal dr rfl ops.toList.length _ _ a E β (by simp) closed_none ?_ (by rw [mg_none, hS]; exact drawn_world ci) (fun w' a' E' β' n => ?_)
   · exact Nat.le_trans (List.length_filter_le _ _) (by simp)
   · rw [mg_none, hS] at n
     rw [hSn] at n
     exact ⟨E', β', trivial, n.ri.untag, drawn_evo n.evo, n.new⟩
 · simp only [List.append_nil, Bool.cond_eq_ite] at h2
   split at h2
   case isFalse => simp at h2
   rename_i hdr
   simp only [Bool.and_eq_true] at hdr
   obtain ⟨hbeh, hdr⟩ := hdr
   have hdr' : drawOk P (Region.before ops) recs = true ∧ ∀ x ∈ recs, pairOk P (Region.before ops) x (.pan j) = true := by
    simp only [drawOk, Bool.and_eq_true, List.all_eq_true] at hdr
    exact ⟨hdr.2, hdr.1.1⟩
   obtain ⟨S, R, o, _, hS, hom, hpan, sq⟩ := seq_pan (b := Region.before ops) ops.toList 0 _ _ _ _ _ h1 rfl hdr'.1
   have hjl : j < ops.toList.length := (List.getElem?_eq_some_iff.1 hom).1
   obtain ⟨Wf, tr⟩ := tr_of sq (Nat.le_of_lt hjl) (draw_bad _ hdr'.1)
   have dr : Drawn P fh ops.toList j S R Wf := ⟨tr, hn, hed, hg, fun t => by rw [hS]; exact getD_map_none _ _, fun o ho ha => by rw [hS]; exact hA o ho ha⟩
   refine ⟨hfol, .panic p, _, fun w a E β ci => ?_, h2⟩
   refine draw_panic dr hom hpan hbeh (fun i hi hw => ?_) ops.toList.length _ _ a E β (by simp) closed_none (fun i hi => ?_) ?_ (by rw [mg_none, hS]; exact drawn_world ci) (fun w' a' E' β' c s2 r0 r1 r2 r3 r4 r5 ev nw rp => ?_)
   · have hm := tr.eff_of (c := .H) (x := none) rfl hi hw
     have := hdr'.2 _ (sq.mem i (Nat.zero_le _) hi _ hm)
     simpa [pairOk] using this
   · unfold ofList at hi
     rw [Array.getD_eq_getD_getElem?, Array.getElem?_replicate] at hi
     split at hi <;> simp at hi
   · exact Nat.le_trans (List.length_filter_le _ _) (by simp)
   · rw [mg_none, hS] at ev
     rw [hS] at r3 r4 r5
     have := r0.panicked (st := st) (ops := ops.toList) r5 r3 r4
     rw [r1, r2] at this
     refine ⟨E', β', ⟨c, rfl, by rw [r1] at rp; exact rp⟩, this, by rw [r1] at ev; exact drawn_evo ev, nw⟩
theorem draw_sound (hh : HOK P h) {id : Nat} {ops : Array Oper} {k : Kont} {out : Out} (hi : iRegion P h fh ops true st k = some out) : ∃ e st', CodeOK P (.region id ops true) st e st' ∧ k e st' = some out := by
 replace hi : iDrawn P h fh (if fh.hoist then permOps (hoistOf fh.hoist2 ops.toList) ops.toList else ops.toList) st k = some out := hi
 obtain ⟨hfol, e, st', h1, h2⟩ := draw_core hh hi
 refine ⟨e, st', fun w a E β ci => ?_, h2⟩
 refine wp_region_any hfol ?_
 have key := h1 w a E β ci
 split at key
 · have hp := hoist_perm fh.hoist2 ops.toList
   have hlen := permOps_length hp
   rw [hlen] at key
   have := wpAny_perm hp _ (Array.replicate ops.toList.length false) _ _ _ ⟨by simp, by simp, fun i hi => by rw [getD_repF, getD_repF]⟩ key
   simpa using this
 · simpa using key
theorem regions_ok (hh : HOK P h) (fh : FH) : RegionsOK P h fh := by
 intro id ops draw st k out hi
 cases draw with
 | false => exact region_sound hh hi
 | true => exact draw_sound hh hi
def LoopsOK (P : Program) (fhs : FuncId → FH) : Prop := ∀ g fn c, P.funcs[g]? = some fn → fn.body = some c → LOk P (fhs g) c
theorem LoopsOK.none {fhs : FuncId → FH} (h : ∀ g i, (fhs g).loops i = none) : LoopsOK P fhs := fun g fn c _ _ => LOk.none (h g) c
theorem mu_sound {spec : Hd} {known : FuncId → Bool} {fhs : FuncId → FH} (hs : HOK P spec) (hl : LoopsOK P fhs) (F n : Nat) : HOK P (iAll P spec known fhs F n) := iAll_sound hs (fun h hh g => ⟨regions_ok hh (fhs g), hl g⟩) n
end Go.Mu
namespace Go.Mu
open Go
variable {P : Program} {w : World}
def tile (P : Program) : Nat → List Field → Option Nat
 | o, [] => some o
 | o, f :: fs => if f.offset = o then tile P (o + P.cellsOf f.type) fs else none
def closedOk (P : Program) (ts : List TypeId) : Bool :=
 ts.all fun t => match P.underlying t with
  | some .bool => true
  | some (.int _) => true
  | some .string => true
  | some (.slice e) => ts.contains e && decide (0 < P.cellsOf e)
  | some (.struct fs) => tile P 0 fs.toList == some (P.cellsOf t) && fs.toList.all (fun f => ts.contains f.type)
  | _ => false
def oldB (w : World) (b : Nat) : Prop := b < w.heap.size
def CellsP (w : World) (A : Vs) (cs : List Value) : Prop := A.length = cs.length ∧ ∀ j, j < cs.length → (cs.getD j undef).oneCell' = true ∧ RepP w (oldB w) (A.getD j .undef) (cs.getD j undef)
theorem CellsP.one {v : AVal} {c : Value} (h : RepP w (oldB w) v c) (h1 : c.oneCell' = true) : CellsP w [v] [c] := ⟨rfl, fun j hj => by
 have : j = 0 := by simp at hj; omega
 subst this
 exact ⟨h1, h⟩⟩
theorem CellsP.append {A B : Vs} {cs ds : List Value} (h : CellsP w A cs) (g : CellsP w B ds) : CellsP w (A ++ B) (cs ++ ds) := by
 refine ⟨by simp [h.1, g.1], fun j hj => ?_⟩
 simp only [gQ]
 rcases Nat.lt_or_ge j cs.length with k | k
 · rw [List.getElem?_append_left k, List.getElem?_append_left (by rw [h.1]; exact k)]
   have := h.2 j k
   simpa [gQ] using this
 · rw [List.getElem?_append_right k, List.getElem?_append_right (by rw [h.1]; exact k), h.1]
   have := g.2 (j - cs.length) (by simp at hj; omega)
   simpa [gQ] using this
section
variable {H : Type} {enc : TypeId × Value → H} {base : Nat} {held : Bool} {ts : List TypeId}
end
end Go.Mu
namespace Go.Mu
open Go
variable {P : Program} {w w' W W' : World} {H : Type} {enc : TypeId × Value → H} {base : Nat} {held : Bool} {ts : List TypeId} {sp : Nat → Bool}
theorem trod_spare (hc : closedOk P ts = true) : ∀ (fuel : Nat) (t : TypeId) (cs : List Value) (x : DataW H × List MemPlace), ts.contains t = true → DataW.trod enc P w base (fun _ => true) held fuel t cs = some x → (∀ p ∈ x.2, sp p.block = true) → DataW.trod enc P w base sp held fuel t cs = some x := by
 intro fuel
 induction fuel with
 | zero => intro t cs x _ h; simp [DataW.trod] at h
 | succ fuel ih =>
  intro t cs x ht h hp
  have hct := List.all_eq_true.1 hc t (by simpa using ht)
  unfold DataW.trod at h ⊢
  cases hu : P.underlying t with
  | none => rw [hu] at hct; simp at hct
  | some desc =>
   rw [hu] at hct h
   cases desc <;> simp only [Bool.false_eq_true] at hct
   case bool =>
    rcases cs with _ | ⟨c, _ | ⟨c', cs⟩⟩ <;> try (simp at h; done)
    cases c <;> first | exact h | (simp at h; done)
   case int k =>
    rcases cs with _ | ⟨c, _ | ⟨c', cs⟩⟩ <;> try (simp at h; done)
    cases c <;> first | exact h | (simp at h; done)
   case string =>
    rcases cs with _ | ⟨c, _ | ⟨c', cs⟩⟩ <;> try (simp at h; done)
    cases c <;> first | exact h | (simp at h; done)
   case struct fs =>
    simp only [Bool.and_eq_true, beq_iff_eq] at hct
    simp only at h ⊢
    split at h
    case isFalse => simp at h
    rename_i hlen
    rw [if_pos hlen]
    rw [Option.map_eq_some_iff] at h ⊢
    obtain ⟨xs, hxs, rfl⟩ := h
    refine ⟨xs, mapM_carry hxs (fun f y hf hy hfy => ih f.type _ y (List.all_eq_true.1 hct.2 f hf) hfy (fun p hpp => hp p (by simp only [List.mem_flatMap]; exact ⟨y, hy, hpp⟩))), rfl⟩
   case slice e =>
    simp only [Bool.and_eq_true, decide_eq_true_eq] at hct
    rcases cs with _ | ⟨c, _ | ⟨c', cs⟩⟩ <;> try (simp at h; done)
    cases c <;> try (simp at h; done)
    rename_i ao len cap
    cases ao with
    | none => rcases len with _ | len <;> rcases cap with _ | cap <;> first | exact h | (simp at h; done)
    | some ad =>
     simp only [if_true] at h ⊢
     split at h
     case isFalse => simp at h
     rename_i hcond
     rw [if_pos hcond]
     rw [Option.bind_eq_some_iff] at h ⊢
     obtain ⟨elems, hel, h⟩ := h
     rw [Option.map_eq_some_iff] at h
     obtain ⟨rest, hrest, rfl⟩ := h
     have hin : ∀ (k : Nat) (y : DataW H × List MemPlace), y ∈ elems ++ rest → ((w.cells? base (ad.add (k * P.cellsOf e)) (P.cellsOf e)).bind (DataW.trod enc P w base (fun _ => true) held fuel e)) = some y →
      ((w.cells? base (ad.add (k * P.cellsOf e)) (P.cellsOf e)).bind (DataW.trod enc P w base sp held fuel e)) = some y := fun k y hy hky => by
      rw [Option.bind_eq_some_iff] at hky ⊢
      obtain ⟨csi, g1, g2⟩ := hky
      exact ⟨csi, g1, ih e csi y hct.1 g2 (fun p hpp => hp p (List.mem_append_right _ (List.mem_flatMap.2 ⟨y, hy, hpp⟩)))⟩
     refine ⟨elems, mapM_carry hel (fun k y _ hy hky => hin k y (List.mem_append_left _ hy) hky), ?_⟩
     rw [Option.map_eq_some_iff]
     refine ⟨rest, ?_, rfl⟩
     have hr2 := mapM_carry hrest (fun k y _ hy hky => hin (len + k) y (List.mem_append_right _ hy) hky)
     split
     · exact hr2
     · rename_i hspf
       have r1 := (mapM_some hrest).1
       have m1 := (mapM_some hel).1
       simp only [List.length_range] at r1 m1
       rcases Nat.eq_zero_or_pos (elems.length + rest.length) with h0 | h0
       · have : rest = [] := List.eq_nil_of_length_eq_zero (by omega)
         rw [this]
       · refine absurd (hp (.cell ad.block (ad.off + 0)) (List.mem_append_left _ ?_)) hspf
         simp only [MemPlace.row, List.mem_map, List.mem_range]
         exact ⟨0, Nat.mul_pos h0 hct.2, rfl⟩
theorem trodAll_keep (hc : closedOk P ts = true) (hk : ∀ b, b < W.heap.size → W'.heap[b]? = W.heap[b]?) : ∀ (tl : List TypeId) (vs : List Value) (ds : List (DataW H)) (ps : List MemPlace), tl.all (fun t => ts.contains t) = true → (∀ p ∈ ps, p.block < W.heap.size) →
 DataW.TrodAll enc P W 0 (fun _ => true) true tl vs ds ps → (∀ p ∈ ps, sp p.block = true) → DataW.TrodAll enc P W' 0 sp true tl vs ds ps
 | [], [], [], ps, _, _, h, _ => h
 | t :: tl, v :: vs, d :: ds, ps, ht, hlt, ⟨p, q, ⟨n, h1⟩, h2, e⟩, hp => by
  subst e
  simp only [List.all_cons, Bool.and_eq_true] at ht
  refine ⟨p, q, ⟨n, ?_⟩, trodAll_keep hc hk tl vs ds q ht.2 (fun x hx => hlt x (by simp [hx])) h2 (fun x hx => hp x (by simp [hx])), rfl⟩
  refine trod_spare hc n t _ (d, p) ht.1 (DataW.trod_carry n t _ (d, p) h1 (fun x hx => ?_)) (fun x hx => hp x (by simp only at hx; simp [hx]))
  have := hlt x (by simp only at hx; simp [hx])
  cases x with
  | cell b off => exact cell?_same (hk b this) off
  | map b => exact hk b this
 | [], _ :: _, _, _, _, _, h, _ => h.elim
 | [], [], _ :: _, _, _, _, h, _ => h.elim
 | _ :: _, [], _, _, _, _, h, _ => h.elim
 | _ :: _, _ :: _, [], _, _, _, h, _ => h.elim
theorem true_post {f : Func} {s : ChangeSpec} {apart fresh handsOn again : Bool} {args : Array Value} {ds gs : List (DataW H)} {before : List MemPlace} {tb : TypeId}
 (hc : closedOk P ts = true) (hpar : f.params.toList.all (fun t => ts.contains t) = true) (hvars : s.vars = []) (hrt : f.resultTypes = #[tb]) (hub : P.underlying tb = some .bool)
 (hW : DataW.Whole enc P f.params.toList s.vars apart W args.toList ds gs before) (hfn : ∀ d : List (DataW H), d = ds → gs = [] → (s.fn H (d ++ [])).results = [.lit (.bool true)] ∧ (s.fn H (d ++ [])).args = d ∧ (s.fn H (d ++ [])).vars = [])
 (hok : ∀ (j : Nat) (t : TypeId) (r : Value), f.resultTypes[j]? = some t → ((Value.bool true).resultList f.resultTypes.size)[j]? = some r → Value.okWide P W' .any 0 t r)
 (hk : ∀ b, b < W.heap.size → W'.heap[b]? = W.heap[b]?) (hos : W'.os = W.os) (hout : W'.output = W.output) : s.post enc P f apart fresh handsOn again W args (.bool true) W' := by
 have hlt := hW.lt
 have hW' := hW
 obtain ⟨p, q, hA, hV, rfl, hfz, hnd⟩ := hW
 rw [hvars] at hV
 have hq : gs = [] ∧ q = [] := by
  cases gs with
  | nil => exact ⟨rfl, hV⟩
  | cons g gs => exact hV.elim
 obtain ⟨rfl, rfl⟩ := hq
 obtain ⟨e1, e2, e3⟩ := hfn ds rfl rfl
 have hlt' : ∀ x ∈ p, x.block < W.heap.size := fun x hx => hlt x (by simp [hx])
 have targs : ∀ sp : Nat → Bool, (∀ x ∈ p, sp x.block = true) → DataW.TrodAll enc P W' 0 sp true f.params.toList args.toList (s.fn H (ds ++ [])).args p := fun sp hsp => by
  rw [e2]; exact trodAll_keep hc hk _ _ _ _ hpar hlt' hA hsp
 have tvars : ∀ sp : Nat → Bool, DataW.TrodVars enc P W' sp s.vars (s.fn H (ds ++ [])).vars [] := fun sp => by rw [hvars, e3]; rfl
 have tres : ∀ (b : Nat) (sp : Nat → Bool) (hd : Bool), DataW.TrodAll enc P W' b sp hd f.resultTypes.toList ((Value.bool true).resultList f.resultTypes.size) (s.fn H (ds ++ [])).results [] := fun b sp hd => by
  rw [e1, hrt]
  refine ⟨[], [], ⟨1, ?_⟩, rfl, rfl⟩
  have : (Value.bool true).cells.toList = [.bool true] := rfl
  unfold DataW.trod
  rw [this, hub]
 refine ⟨ds, [], p ++ [], [], p, [], hW', tres _ _ _, targs _ (fun x hx => by simpa using hlt' x hx), tvars _, ⟨hos, hout, fun i hi => ?_⟩, fun _ => ⟨hok, _, _, ([] ++ p) ++ [], ⟨[] ++ p, [], Go.ChangeShapes.trodAll_append (targs _ (fun _ _ => rfl)) (tres _ _ _), tvars _, rfl, ?_, ?_⟩, ?_⟩⟩
 · rw [hk i hi]
   cases hh : W.heap[i]? with
   | none => rfl
   | some o => cases o <;> simp
 · intro b off hx
   have hb := hlt (.cell b off) (by simpa using hx)
   have := hfz b off (by simpa using hx)
   unfold World.frozen? at this ⊢
   rw [hk b hb]; exact this
 · intro ha
   simpa using hnd ha
 · intro x hx _
   simpa using hx
end Go.Mu
namespace Go.Mu
open Go
variable {P : Program} {W W' : World} {H : Type} {enc : TypeId × Value → H} {ts : List TypeId}
def oldE (W : World) : Env := ⟨oldB W, id, fun _ => 0⟩
end Go.Mu
namespace Go.Mu
open Go
variable {P : Program}
structure Sub (x y : AVal) : Prop where
 p : ∀ (w : World) (imm : Nat → Prop) (c : Value), RepP w imm x c → RepP w imm y c
 r : ∀ (w : World) (E : Env) (H : Heap) (c : Value), Rep w E H x c → Rep w E H y c
theorem Sub.refl (x : AVal) : Sub x x := ⟨fun _ _ _ h => h, fun _ _ _ _ h => h⟩
def SubL (xs ys : Vs) : Prop := xs.length = ys.length ∧ ∀ j, j < xs.length → Sub (xs.getD j .undef) (ys.getD j .undef)
theorem SubL.refl (xs : Vs) : SubL xs xs := ⟨rfl, fun j _ => .refl _⟩
theorem SubL.nil : SubL [] [] := .refl _
theorem SubL.cons {x y : AVal} {xs ys : Vs} (h : Sub x y) (g : SubL xs ys) : SubL (x :: xs) (y :: ys) := ⟨by simp [g.1], fun j hj => by
 cases j with
 | zero => exact h
 | succ j => exact g.2 j (by simpa using hj)⟩
theorem Sub.list {full full' : Bool} {n : Nat} {row row' : Nat → Vs} (hf : full' = true → full = true) (hr : ∀ i, i < n → SubL (row i) (row' i)) : Sub (.list full n row) (.list full' n row') := by
 have key : ∀ (w : World) (imm : Nat → Prop) (c : Value), RepP w imm (.list full n row) c → RepP w imm (.list full' n row') c := by
  intro w imm c h
  cases h with
  | list0 full row a cap hc => exact .list0 _ _ _ _ (fun h => hc (hf h))
  | list full n row blk off cap sz cs h1 h2 h3 h4 h5 h6 =>
   exact .list _ n _ blk off cap sz cs h1 (fun h => h2 (hf h)) h3 (fun i hi => by rw [← (hr i hi).1]; exact h4 i hi) h5 (fun i j hi hj => ((hr i hi).2 j (by rw [h4 i hi]; exact hj)).p _ _ _ (h6 i j hi hj))
 exact ⟨key, fun w E H c h => by cases h with | pure _ _ h => exact .pure _ _ (key _ _ _ h)⟩
theorem Sub.agg {xs ys : Vs} (h : SubL xs ys) : Sub (.agg xs) (.agg ys) := by
 have key : ∀ (w : World) (imm : Nat → Prop) (c : Value), RepP w imm (.agg xs) c → RepP w imm (.agg ys) c := by
  intro w imm c k
  cases k with
  | agg _ cs h1 h2 h3 => exact .agg _ cs (by rw [← h.1]; exact h1) (fun j hj => h2 j (by rw [h.1]; exact hj)) (fun j hj => (h.2 j (by rw [h.1]; exact hj)).p _ _ _ (h3 j (by rw [h.1]; exact hj)))
 refine ⟨key, fun w E H c k => ?_⟩
 cases k with
 | pure _ _ k => exact .pure _ _ (key _ _ _ k)
 | agg _ cs h1 h2 h3 => exact .agg _ cs (by rw [← h.1]; exact h1) (fun j hj => h2 j (by rw [h.1]; exact hj)) (fun j hj => (h.2 j (by rw [h.1]; exact hj)).r _ _ _ _ (h3 j (by rw [h.1]; exact hj)))
theorem Sub.tuple {xs ys : Vs} (h : SubL xs ys) : Sub (.tuple xs) (.tuple ys) := by
 have key : ∀ (w : World) (imm : Nat → Prop) (c : Value), RepP w imm (.tuple xs) c → RepP w imm (.tuple ys) c := by
  intro w imm c k
  cases k with
  | tuple _ cs h1 h3 => exact .tuple _ cs (by rw [← h.1]; exact h1) (fun j hj => (h.2 j (by rw [h.1]; exact hj)).p _ _ _ (h3 j (by rw [h.1]; exact hj)))
 refine ⟨key, fun w E H c k => ?_⟩
 cases k with
 | pure _ _ k => exact .pure _ _ (key _ _ _ k)
 | tuple _ cs h1 h3 => exact .tuple _ cs (by rw [← h.1]; exact h1) (fun j hj => (h.2 j (by rw [h.1]; exact hj)).r _ _ _ _ (h3 j (by rw [h.1]; exact hj)))
def SubO : Out → Out → Prop
 | .ret x H, .ret y H' => Sub x y ∧ H = H'
 | .panic x H, .panic y H' => Sub x y ∧ H = H'
 | _, _ => False
theorem Post.sub {w w' : World} {E : Env} {H : Heap} {o o' : Out} {e : Ending} (h : Post w E H o e w') (hs : SubO o o') : Post w E H o' e w' := by
 cases o with
 | ret x Hx => cases o' with
  | ret y Hy =>
   obtain ⟨hs, rfl⟩ := hs
   cases e with
   | returned c => obtain ⟨E', h1, h2, h3⟩ := h; exact ⟨E', h1, h2, hs.r _ _ _ _ h3⟩
   | panicked _ => exact h
   | outgrown => exact h
  | panic _ _ => exact hs.elim
 | panic x Hx => cases o' with
  | panic y Hy =>
   obtain ⟨hs, rfl⟩ := hs
   cases e with
   | panicked c => obtain ⟨E', d, h0, h1, h2, h3⟩ := h; exact ⟨E', d, h0, h1, h2, hs.r _ _ _ _ h3⟩
   | returned _ => exact h
   | outgrown => exact h
  | ret _ _ => exact hs.elim
theorem CallOK.sub {g : FuncId} {xs ys : Vs} {H : Heap} {o o' : Out} (h : CallOK P g ys H o) (hx : SubL xs ys) (ho : SubO o o') : CallOK P g xs H o' := by
 intro w E cs sim hl hr
 refine Calls.mono (h w E cs sim (by rw [hl, hx.1]) (fun j hj => (hx.2 j (by rw [hx.1]; exact hj)).r _ _ _ _ (hr j (by rw [hx.1]; exact hj)))) (fun e w' hp => hp.sub ho)
theorem SubO.refl (o : Out) : SubO o o := by cases o <;> exact ⟨.refl _, rfl⟩
theorem CallOK.subArgs {g : FuncId} {xs ys : Vs} {H : Heap} {o : Out} (h : CallOK P g ys H o) (hx : SubL xs ys) : CallOK P g xs H o := h.sub hx (.refl _)
def SubT (x y : AVal) : Prop := ∀ (w : World) (E : Env) (H : Heap) (β : Nat → Option Nat) (c : Value), RepT w E H β x c → RepT w E H β y c
theorem SubT.refl (x : AVal) : SubT x x := fun _ _ _ _ _ h => h
theorem Sub.t {x y : AVal} (h : Sub x y) (hn : noTmp x = true) : SubT x y := fun w E H β c k => by
 cases k with
 | box t off b hb => simp [noTmp] at hn
 | val _ _ k => exact .val _ _ (h.r _ _ _ _ k)
theorem SubT.undef (x : AVal) : SubT x .undef := fun w E H β c k => .val _ _ (.pure _ _ (.undef _))
def SubTL (xs ys : Vs) : Prop := xs.length = ys.length ∧ ∀ j, j < xs.length → SubT (xs.getD j .undef) (ys.getD j .undef)
theorem SubTL.refl (xs : Vs) : SubTL xs xs := ⟨rfl, fun j _ => .refl _⟩
theorem SubTL.nil : SubTL [] [] := .refl _
theorem SubTL.cons {x y : AVal} {xs ys : Vs} (h : SubT x y) (g : SubTL xs ys) : SubTL (x :: xs) (y :: ys) := ⟨by simp [g.1], fun j hj => by
 cases j with
 | zero => exact h
 | succ j => exact g.2 j (by simpa using hj)⟩
theorem SubTL.tail {x y : AVal} {xs ys : Vs} (h : SubTL (x :: xs) (y :: ys)) : SubTL xs ys := ⟨by have := h.1; simpa using this, fun j hj => by
 have := h.2 (j + 1) (by simpa using hj)
 simpa using this⟩
theorem SubTL.lookup : ∀ (l : List Nat) (vs ws : Vs), SubTL vs ws → ∀ t, SubT (((l.zip vs).lookup t).getD .undef) (((l.zip ws).lookup t).getD .undef)
 | [], vs, ws, h, t => .refl _
 | x :: l, [], ws, h, t => by
  have : ws = [] := List.eq_nil_of_length_eq_zero h.1.symm
  subst this; exact .refl _
 | x :: l, v :: vs, [], h, t => by simp [SubTL] at h
 | x :: l, v :: vs, u :: ws, h, t => by
  simp only [List.zip_cons_cons, List.lookup_cons]
  by_cases hx : (t == x) = true
  · rw [hx]; exact h.2 0 (by simp)
  · rw [Bool.not_eq_true] at hx
    rw [hx]; exact SubTL.lookup l vs ws h.tail t
theorem CI.sub {w : World} {a : Act} {E : Env} {β : Nat → Option Nat} {st st' : St} (ci : CI w a E β st) (hl : st.T.length = st'.T.length) (hT : ∀ t, SubT (st.T.getD t .undef) (st'.T.getD t .undef)) (hB : st'.B = st.B) (hH : st'.H = st.H) (hD : st'.D = st.D) : CI w a E β st' := by
 obtain ⟨T, B, H, D⟩ := st
 obtain ⟨T', B', H', D'⟩ := st'
 simp only at hl hT hB hH hD
 subst hB hH hD
 have fs := ci.fs
 refine ⟨⟨fs.sim, ?_, ?_, by simp [toRS], fun t ht => ?_, fun t b hb => fs.box t b hb, fs.binj⟩, fun t ht => ?_, fun t d q g ht => ?_, ci.defs⟩
 · rw [fs.tsize]; simpa [toRS] using hl
 · have := fs.bsize
   simp only [toRS] at this ⊢
   omega
 · exact hT t _ _ _ _ _ (fs.vals t (valid_none _ _))
 · have : valid (toRS ⟨T', B', H', D'⟩).G t = true := valid_none _ _
   rw [this] at ht; cases ht
 · have : (toRS ⟨T', B', H', D'⟩).G.getD t none = none := getD_map_none _ _
   rw [this] at ht; cases ht
end Go.Mu
namespace Go.Mu
open Go
variable {P : Program} {h : Hd} {fh : FH} {w w' : World} {a : Act} {E E' : Env} {H H' : Heap} {β β' : Nat → Option Nat} {st st' : St} {e : AExit}
def stL (n : Nat) (lv : List Nat) (vs : Vs) (bx : List Nat) (bs : List Vs) (H : Heap) (D : Dfs) : St :=
 { T := (List.range n).map (fun t => ((lv.zip vs).lookup t).getD .undef), B := (List.range n).map (fun t => ((bx.zip bs).lookup t).getD []), H := H, D := D }
def fg2 (l m : List Nat) (st : St) : St :=
 { T := st.T.zipIdx.map (fun x => if l.contains x.2 then x.1 else .undef), B := st.B.zipIdx.map (fun x => if m.contains x.2 then x.1 else []), H := st.H, D := st.D }
theorem CI.fg2 {l m : List Nat} (ci : CI w a E β st) : CI w a E β (fg2 l m st) := by
 have fs := ci.fs
 refine ⟨⟨fs.sim, ?_, ?_, by simp [toRS], fun t ht => ?_, fun t b hb => ?_, fs.binj⟩, fun t ht => ?_, fun t d q g ht => ?_, ci.defs⟩
 · rw [fs.tsize]; simp [toRS, Mu.fg2]
 · have := fs.bsize
   simpa [toRS, Mu.fg2] using this
 · have hv := fs.vals t (valid_none _ _)
   show RepT w E st.H β ((st.T.zipIdx.map _).getD t .undef) _
   rw [zipIdx_get]
   have e : (toRS st).T.getD t .undef = (st.T[t]?).getD .undef := gQ
   rw [e] at hv
   cases hh : st.T[t]? with
   | none => exact .undef _
   | some v =>
    rw [hh] at hv
    simp only
    split
    · exact hv
    · exact .undef _
 · obtain ⟨h1, h2, h3, h4⟩ := fs.box t b hb
   refine ⟨h1, h2, h3, ?_⟩
   have e2 : (toRS (Mu.fg2 l m st)).B.getD t [] = match st.B[t]? with | some x => (if m.contains t then x else []) | none => [] := by
    show (st.B.zipIdx.map (fun x => if m.contains x.2 then x.1 else [])).getD t [] = _
    rw [zipIdx_get]
    cases st.B[t]? <;> rfl
   have e1 : (toRS st).B.getD t [] = (st.B[t]?).getD [] := gQ
   have em : BlockRep w E (toRS (Mu.fg2 l m st)).H b ([] : Vs).length (fun j => ([] : Vs)[j]?) := by
    obtain ⟨ds, ty, fr, b1, b2, b3, b4⟩ := h4
    exact ⟨ds, ty, fr, b1, by simp, fun o ho => by simp at ho, fun j v hv => by simp at hv⟩
   rw [e1] at h4
   rw [e2]
   cases hh : st.B[t]? with
   | none => exact em
   | some x =>
    rw [hh] at h4
    simp only
    split
    · exact h4
    · exact em
 · have : valid (toRS (Mu.fg2 l m st)).G t = true := valid_none _ _
   rw [this] at ht; cases ht
 · have : (toRS (Mu.fg2 l m st)).G.getD t none = none := getD_map_none _ _
   rw [this] at ht; cases ht
theorem CodeOK.fg2 {c : Code} {l m : List Nat} (h : CodeOK P c st e st') : CodeOK P c st e (fg2 l m st') := by
 intro w a E β ci
 refine wp_mono (h w a E β ci) (fun x a' w' hl => ?_)
 obtain ⟨E', β', h1, h2, h3, h4⟩ := hl
 exact ⟨E', β', h1, h2.fg2, h3, h4⟩
theorem lookup_zip {α : Type} (f : Nat → α) (t : Nat) : ∀ l : List Nat, (l.zip (l.map f)).lookup t = if l.contains t then some (f t) else none
 | [] => rfl
 | x :: l => by
  simp only [List.map_cons, List.zip_cons_cons, List.lookup_cons, List.contains_cons]
  by_cases hx : t = x
  · subst hx; simp
  · have h1 : (t == x) = false := by simpa using hx
    simp only [h1, Bool.false_or]
    exact lookup_zip f t l
theorem map_zipIdx {α : Type} (d : α) (n : Nat) (l : List Nat) (T : List α) (hn : T.length = n) : (List.range n).map (fun t => ((l.zip (l.map (fun t => T.getD t d))).lookup t).getD d) = T.zipIdx.map (fun x => if l.contains x.2 then x.1 else d) := by
 apply List.ext_getElem?
 intro i
 simp only [List.getElem?_map, List.getElem?_zipIdx, Nat.zero_add]
 rcases Nat.lt_or_ge i n with g | g
 · rw [List.getElem?_range g, List.getElem?_eq_getElem (by omega)]
   simp only [Option.map_some, lookup_zip]
   split
   · simp [gQ, List.getElem?_eq_getElem (show i < T.length by omega)]
   · rfl
 · rw [List.getElem?_eq_none (by simp; omega), List.getElem?_eq_none (by omega)]
   rfl
theorem fg2_eq {n : Nat} {l m : List Nat} (h1 : st.T.length = n) (h2 : st.B.length = n) : fg2 l m st = stL n l (l.map (fun t => st.T.getD t .undef)) m (m.map (fun t => st.B.getD t [])) st.H st.D := by
 unfold fg2 stL
 rw [map_zipIdx _ _ _ _ h1, map_zipIdx _ _ _ _ h2]
def round (body : St → Kont → Ans) (fg fx : St → St) (st : St) (k : Kont) : Ans :=
 body st fun e st' => match e with
  | .normal => k .normal (fg st')
  | e => k e (fx st')
abbrev rounds (body : St → Kont → Ans) (m : Nat) (st : St) (k : Kont) : Ans := iLoop body (forget none) m st k
theorem rounds_succ' {body : St → Kont → Ans} {m : Nat} {k : Kont} : rounds body (m + 1) st k = body st fun e st' => match e with
 | .normal => rounds body m st' k
 | e => k e st' := rfl
theorem loop_run (hr : RegionsOK P h fh) {F : Nat} {c : Code} (hl : LOk P fh c) {l m lx mx : List Nat} {n : Nat} (hrun : ∀ k, rounds (round (iCode P h fh F c) (fg2 l m) (fg2 lx mx)) n st k = k e st') : CodeOK P (.loop c) st e st' := by
 have hb : ∀ st k out, round (iCode P h fh F c) (Mu.fg2 l m) (Mu.fg2 lx mx) st k = some out → ∃ e st', CodeOK P c st e st' ∧ k e st' = some out := by
  intro st k out hi
  obtain ⟨e, st', h1, h2⟩ := iCode_sound hr c hl _ _ _ hi
  cases e with
  | normal => exact ⟨_, _, h1.fg2, h2⟩
  | exit id => exact ⟨_, _, h1.fg2, h2⟩
  | ret => exact ⟨_, _, h1.fg2, h2⟩
  | panic p => exact ⟨_, _, h1.fg2, h2⟩
 classical
 obtain ⟨e2, st2, q, h1, h2⟩ := iLoop_sound hb _ _ _ (.ret .undef []) ((hrun (fun e' s' => if e' = e ∧ s' = st' then some (.ret .undef []) else none)).trans (by simp))
 split at h2
 case isFalse => simp at h2
 rename_i hc
 obtain ⟨rfl, rfl⟩ := hc
 exact fun w a E β ci => wp_loop_rounds q (h1 w a E β ci)
def loopAt (i : Nat) : Code → Code
 | .loop c => if firstRegion c == i then c else loopAt i c
 | .block _ c => loopAt i c
 | .seq a b => (match loopAt i a with | .skip => loopAt i b | c => c)
 | .cond _ a b => (match loopAt i a with | .skip => loopAt i b | c => c)
 | _ => .skip
def codeOf (P : Program) (f : FuncId) : Code := match P.funcs[f]? with
 | some fn => match fn.body with
  | some c => c
  | none => .skip
 | none => .skip
abbrev LSp := Vs → List Vs → Heap → (AExit → Vs → List Vs → Heap → Ans) → Ans
def loopSpec (n : Nat) (l m lx mx : List Nat) (sp : LSp) (st : St) (k : Kont) : Ans :=
 cond (st.T.length == n && st.B.length == n) (sp (l.map (fun t => st.T.getD t .undef)) (m.map (fun t => st.B.getD t [])) st.H (fun e vs bs H => k e (stL n lx vs mx bs H st.D))) none
theorem stL_len {n : Nat} {l : List Nat} {vs : Vs} {m : List Nat} {bs : List Vs} {H : Heap} {D : List (FuncId × Vs)} : (stL n l vs m bs H D).T.length = n := by simp [stL]
theorem stL_get {n : Nat} {l : List Nat} {vs : Vs} {m : List Nat} {bs : List Vs} {H : Heap} {D : List (FuncId × Vs)} (t : Nat) : (stL n l vs m bs H D).T.getD t .undef = if t < n then ((l.zip vs).lookup t).getD .undef else .undef := by
 simp only [stL, gQ, List.getElem?_map]
 split
 · rename_i h; rw [List.getElem?_range h]; rfl
 · rename_i h; rw [List.getElem?_eq_none (by simp; omega)]; rfl
theorem CI.stL {n : Nat} {l : List Nat} {vs ws : Vs} {m : List Nat} {bs : List Vs} {D : List (FuncId × Vs)} (h : SubTL vs ws) (ci : CI w a E β (stL n l vs m bs H D)) : CI w a E β (stL n l ws m bs H D) := by
 refine ci.sub (by rw [stL_len, stL_len]) (fun t => ?_) rfl rfl rfl
 rw [stL_get, stL_get]
 split
 · exact SubTL.lookup l vs ws h t
 · exact .refl _
def LoopRuns (turn : St → Kont → Ans) (n : Nat) (l m lx mx : List Nat) (vs : Vs) (bs : List Vs) (H : Heap) (e : AExit) (vs' : Vs) (bs' : List Vs) (H' : Heap) : Prop :=
 ∃ q, ∀ D k, rounds turn q (stL n l vs m bs H D) k = k e (stL n lx vs' mx bs' H' D)
theorem loopSpec_ok (hr : RegionsOK P h fh) {F : Nat} {c : Code} (hl : LOk P fh c) {n : Nat} {l m lx mx : List Nat} {sp : LSp}
 (hs : ∀ vs bs H k out, sp vs bs H k = some out → ∃ ws e vs' bs' H' ws', SubTL vs ws ∧ LoopRuns (round (iCode P h fh F c) (fg2 l m) (fg2 lx mx)) n l m lx mx ws bs H e vs' bs' H' ∧ SubTL vs' ws' ∧ k e ws' bs' H' = some out) :
 ∀ st k out, loopSpec n l m lx mx sp st k = some out → ∃ e st', CodeOK P (.loop c) st e st' ∧ k e st' = some out := by
 intro st k out hi
 unfold loopSpec at hi
 rw [Bool.cond_eq_ite] at hi
 split at hi
 case isFalse => simp at hi
 rename_i hc
 simp only [Bool.and_eq_true, beq_iff_eq] at hc
 obtain ⟨ws, e, vs', bs', H', ws', s1, ⟨q, h1⟩, s2, h2⟩ := hs _ _ _ _ _ hi
 refine ⟨e, _, ?_, h2⟩
 have key : CodeOK P (.loop c) (stL n l ws m (m.map (fun t => st.B.getD t [])) st.H st.D) e (stL n lx vs' mx bs' H' st.D) := loop_run hr hl (fun k => h1 st.D k)
 intro w a E β ci
 have c1 := ci.fg2 (l := l) (m := m)
 rw [fg2_eq hc.1 hc.2] at c1
 refine wp_mono (key w a E β (c1.stL s1)) (fun x a' w' hx => ?_)
 obtain ⟨E', β', g1, g2, g3, g4⟩ := hx
 exact ⟨E', β', g1, g2.stL s2, g3, g4⟩
abbrev FSp := Vs → Heap → (Out → Ans) → Ans
def hd (tab : FuncId → Option FSp) : Hd := fun g xs H k => match tab g with
 | some s => s xs H k
 | none => none
def TabOK (P : Program) (tab : FuncId → Option FSp) : Prop := ∀ g s, tab g = some s → ∀ xs H k out, s xs H k = some out → ∃ o, CallOK P g xs H o ∧ k o = some out
theorem hd_ok {tab : FuncId → Option FSp} (h : TabOK P tab) : HOK P (hd tab) := by
 intro g xs H k out hi
 unfold hd at hi
 split at hi
 · rename_i s hs; exact h g s hs _ _ _ _ hi
 · simp at hi
noncomputable abbrev turn (P : Program) (h : Hd) (fhs : FuncId → FH) (F : Nat) (f id : Nat) (l m lx mx : List Nat) : St → Kont → Ans := round (iCode P h (fhs f) F (loopAt id (codeOf P f))) (fg2 l m) (fg2 lx mx)
def loopsIn : Code → List Code
 | .seq a b => loopsIn a ++ loopsIn b
 | .cond _ a b => loopsIn a ++ loopsIn b
 | .block _ c => loopsIn c
 | .loop c => c :: loopsIn c
 | _ => []
def LoopTold (P : Program) (d : Code) (sp : St → Kont → Ans) : Prop := ∀ st k out, sp st k = some out → ∃ e st', CodeOK P (.loop d) st e st' ∧ k e st' = some out
theorem LOk.of : ∀ c : Code, (∀ d ∈ loopsIn c, ∀ sp, fh.loops (firstRegion d) = some sp → LoopTold P d sp) → LOk P fh c := by
 intro c
 induction c <;> intro hc
 case seq a b ih1 ih2 => exact ⟨ih1 (fun d hd => hc d (by simp [loopsIn, hd])), ih2 (fun d hd => hc d (by simp [loopsIn, hd]))⟩
 case cond x a b ih1 ih2 => exact ⟨ih1 (fun d hd => hc d (by simp [loopsIn, hd])), ih2 (fun d hd => hc d (by simp [loopsIn, hd]))⟩
 case block i c ih => exact ih (fun d hd => hc d (by simpa [loopsIn] using hd))
 case loop c ih => exact ⟨ih (fun d hd => hc d (by simp [loopsIn, hd])), fun sp hsp => hc c (by simp [loopsIn]) sp hsp⟩
 all_goals exact trivial
def only (f : FuncId) (fh : FH) : FuncId → FH := fun g => if g = f then fh else {}
end Go.Mu
namespace Go.Mu
open Go
variable {P : Program} {w : World}
inductive T where
 | b (x : Bool)
 | i (k : IntKind) (n : Int)
 | s (x : Oc)
 | l (full : Bool) (es : List T)
 | r (fs : List T)
instance : Inhabited T := ⟨.r []⟩
mutual
def T.enc : T → Vs
 | .b x => [.bool x]
 | .i k n => [.int k n]
 | .s x => [.str x]
 | .l full es => [.list full es.length (T.encAt es)]
 | .r fs => T.encAll fs
def T.encAt : List T → Nat → Vs
 | [], _ => []
 | t :: _, 0 => t.enc
 | _ :: ts, j + 1 => T.encAt ts j
def T.encAll : List T → Vs
 | [] => []
 | t :: ts => t.enc ++ T.encAll ts
end
theorem T.encAt_get : ∀ (es : List T) (j : Nat) (x : T), es[j]? = some x → T.encAt es j = x.enc
 | [], j, x, h => by simp at h
 | t :: ts, 0, x, h => by simp at h; subst h; simp [T.encAt]
 | t :: ts, j + 1, x, h => by
  simp only [T.encAt]
  exact T.encAt_get ts j x (by simpa using h)
mutual
def tOf {H : Type} : DataW H → T
 | .lit (.bool x) => .b x
 | .lit (.int k n) => .i k n
 | .lit (.string x) => .s x
 | .nil => .l true []
 | .slice es sp => .l sp.isEmpty (tOfs es)
 | .agg ps => .r (tOfs ps)
 | _ => .r []
def tOfs {H : Type} : List (DataW H) → List T
 | [] => []
 | d :: ds => tOf d :: tOfs ds
end
theorem tOfs_map {H : Type} : ∀ ds : List (DataW H), tOfs ds = ds.map tOf
 | [] => by simp [tOfs]
 | d :: ds => by simp [tOfs, tOfs_map ds]
inductive HasT (P : Program) : TypeId → T → Prop
 | b {t x} : P.underlying t = some .bool → HasT P t (.b x)
 | i {t k n} : P.underlying t = some (.int k) → (Lit.int k n).wf = true → HasT P t (.i k n)
 | s {t x} : P.underlying t = some .string → HasT P t (.s x)
 | l {t e full es} : P.underlying t = some (.slice e) → (∀ x ∈ es, HasT P e x) → HasT P t (.l full es)
 | r {t fs parts} : P.underlying t = some (.struct fs) → parts.length = fs.size → (∀ (j : Nat) (f : Field) (x : T), fs.toList[j]? = some f → parts[j]? = some x → HasT P f.type x) → HasT P t (.r parts)
section
variable {H : Type} {enc : TypeId × Value → H} {base : Nat} {held : Bool} {ts : List TypeId}
theorem fields_t {fuel : Nat} (ih : ∀ t cs d ps, ts.contains t = true → DataW.trod enc P w base (fun _ => true) held fuel t cs = some (d, ps) → (CellsP w (tOf d).enc cs ∧ HasT P t (tOf d))) (cs : List Value) : ∀ (fs : List Field) (o : Nat) (xs : List (DataW H × List MemPlace)) (total : Nat),
 tile P o fs = some total → cs.length = total → fs.all (fun f => ts.contains f.type) = true → o ≤ total → fs.mapM (fun f => DataW.trod enc P w base (fun _ => true) held fuel f.type ((cs.drop f.offset).take (P.cellsOf f.type))) = some xs →
 (CellsP w (T.encAll (tOfs (xs.map (·.1)))) (cs.drop o) ∧ xs.length = fs.length ∧ ∀ (j : Nat) (f : Field) (x : DataW H × List MemPlace), fs[j]? = some f → xs[j]? = some x → HasT P f.type (tOf x.1))
 | [], o, xs, total, ht, hl, _, ho, hm => by
  simp only [tile, sJ] at ht
  subst ht
  rw [List.drop_eq_nil_iff.2 (by omega)]
  have hxs : xs = [] := by simpa using hm
  subst hxs
  exact ⟨⟨by simp [tOfs, T.encAll], fun j hj => by simp at hj⟩, rfl, fun j f x hf => by simp at hf⟩
 | f :: fs, o, xs, total, ht, hl, hall, ho, hm => by
  simp only [tile] at ht
  split at ht
  case isFalse => simp at ht
  rename_i hoff
  have hle : ∀ (fs : List Field) (o total : Nat), tile P o fs = some total → o ≤ total := by
   intro fs
   induction fs with
   | nil => intro o total h; simp [tile] at h; omega
   | cons f fs ihf =>
    intro o total h
    simp only [tile] at h
    split at h
    · have := ihf _ _ h; omega
    · simp at h
  have hle' := hle _ _ _ ht
  simp only [List.all_cons, Bool.and_eq_true] at hall
  rw [List.mapM_cons] at hm
  cases hx : DataW.trod enc P w base (fun _ => true) held fuel f.type ((cs.drop f.offset).take (P.cellsOf f.type)) with
  | none => rw [hx] at hm; simp at hm
  | some x =>
   cases hxs : fs.mapM (fun f => DataW.trod enc P w base (fun _ => true) held fuel f.type ((cs.drop f.offset).take (P.cellsOf f.type))) with
   | none => rw [hx, hxs] at hm; simp at hm
   | some ys =>
    rw [hx, hxs] at hm
    simp at hm
    subst hm
    have h1 := ih f.type _ x.1 x.2 hall.1 hx
    have h2 := fields_t ih cs fs (o + P.cellsOf f.type) ys total ht hl hall.2 hle' hxs
    have e : cs.drop o = (cs.drop o).take (P.cellsOf f.type) ++ cs.drop (o + P.cellsOf f.type) := by
     rw [← List.drop_drop, List.take_append_drop]
    rw [hoff] at h1
    rw [e]
    refine ⟨by simpa [tOfs, T.encAll] using h1.1.append h2.1, by simp [h2.2.1], fun j g y hg hy => ?_⟩
    cases j with
    | zero =>
     simp at hg hy
     subst hg hy
     exact h1.2
    | succ j => exact h2.2.2 j g y (by simpa using hg) (by simpa using hy)
theorem trod_t (hc : closedOk P ts = true) : ∀ (fuel : Nat) (t : TypeId) (cs : List Value) (d : DataW H) (ps : List MemPlace), ts.contains t = true → DataW.trod enc P w base (fun _ => true) held fuel t cs = some (d, ps) → (CellsP w (tOf d).enc cs ∧ HasT P t (tOf d)) := by
 intro fuel
 induction fuel with
 | zero => intro t cs d ps _ h; simp [DataW.trod] at h
 | succ fuel ih =>
  intro t cs d ps ht h
  unfold closedOk at hc
  have hct := List.all_eq_true.1 hc t (by simpa using ht)
  unfold DataW.trod at h
  cases hu : P.underlying t with
  | none => rw [hu] at hct; simp at hct
  | some desc =>
   rw [hu] at hct h
   cases desc <;> simp only [Bool.false_eq_true] at hct
   case bool =>
    rcases cs with _ | ⟨c, _ | ⟨c', cs⟩⟩ <;> try (simp at h; done)
    cases c <;> simp at h
    obtain ⟨rfl, rfl⟩ := h
    simp only [tOf, T.enc]
    exact ⟨.one (.bool _) rfl, .b hu⟩
   case int k =>
    rcases cs with _ | ⟨c, _ | ⟨c', cs⟩⟩ <;> try (simp at h; done)
    cases c <;> simp at h
    obtain ⟨⟨rfl, hwf⟩, rfl, rfl⟩ := h
    simp only [tOf, T.enc]
    exact ⟨.one (.int _ _) rfl, .i hu hwf⟩
   case string =>
    rcases cs with _ | ⟨c, _ | ⟨c', cs⟩⟩ <;> try (simp at h; done)
    cases c <;> simp at h
    obtain ⟨_, rfl, rfl⟩ := h
    simp only [tOf, T.enc]
    exact ⟨.one (.str _) rfl, .s hu⟩
   case struct fs =>
    simp only [Bool.and_eq_true, beq_iff_eq] at hct
    simp only at h
    split at h
    case isFalse => simp at h
    rename_i hlen
    rw [Option.map_eq_some_iff] at h
    obtain ⟨xs, hxs, he⟩ := h
    simp only [Prod.mk.injEq] at he
    obtain ⟨rfl, _⟩ := he
    have := fields_t ih cs fs.toList 0 xs _ hct.1 hlen hct.2 (Nat.zero_le _) hxs
    simp only [tOf, T.enc]
    refine ⟨by simpa using this.1, .r hu (by rw [tOfs_map]; simpa using this.2.1) (fun j f x hf hx => ?_)⟩
    rw [tOfs_map, List.getElem?_map, Option.map_eq_some_iff] at hx
    obtain ⟨y, hy, rfl⟩ := hx
    rw [List.getElem?_map, Option.map_eq_some_iff] at hy
    obtain ⟨z, hz, rfl⟩ := hy
    exact this.2.2 j f z hf hz
   case slice e =>
    simp only [Bool.and_eq_true, decide_eq_true_eq] at hct
    rcases cs with _ | ⟨c, _ | ⟨c', cs⟩⟩ <;> try (simp at h; done)
    cases c <;> try (simp at h; done)
    rename_i ao len cap
    cases ao with
    | none =>
     rcases len with _ | len <;> rcases cap with _ | cap <;> simp at h
     obtain ⟨rfl, rfl⟩ := h
     simp only [tOf, T.enc]
     exact ⟨.one (.list0 _ _ _ _ (fun _ => rfl)) rfl, .l hu (fun x hx => by simp at hx)⟩
    | some ad =>
     simp only [if_true] at h
     split at h
     case isFalse => simp at h
     rename_i hcond
     rw [Option.bind_eq_some_iff] at h
     obtain ⟨elems, hel, h⟩ := h
     rw [Option.map_eq_some_iff] at h
     obtain ⟨rest, hrest, he⟩ := h
     simp only [Prod.mk.injEq] at he
     obtain ⟨rfl, _⟩ := he
     obtain ⟨m1, m2⟩ := mapM_some hel
     obtain ⟨r1, _⟩ := mapM_some hrest
     simp only [List.length_range] at m1 r1
     simp only [tOf, T.enc]
     have hfull : (rest.map (·.1)).isEmpty = true → cap = len := fun hh => by
      have : rest = [] := by simpa using hh
      rw [this] at r1; simp at r1; omega
     rw [tOfs_map, show ((elems.map (·.1)).map tOf).length = len by simp [m1]]
     have hsz := hct.2
     have elemq : ∀ i, i < len → ∃ x csi, elems[i]? = some x ∧ w.cells? base (ad.add (i * P.cellsOf e)) (P.cellsOf e) = some csi ∧ (CellsP w (tOf x.1).enc csi ∧ HasT P e (tOf x.1)) := fun i hi => by
      obtain ⟨x, g1, g2⟩ := m2 i i (by simp [hi])
      rw [Option.bind_eq_some_iff] at g2
      obtain ⟨csi, g3, g4⟩ := g2
      exact ⟨x, csi, g1, g3, ih e csi x.1 x.2 hct.1 g4⟩
     have arow : ∀ i x, elems[i]? = some x → T.encAt ((elems.map (·.1)).map tOf) i = (tOf x.1).enc := fun i x hx =>
      T.encAt_get _ _ _ (by rw [List.getElem?_map, List.getElem?_map, hx]; rfl)
     refine ⟨.one ?_ rfl, .l hu (fun y hy => ?_)⟩
     rotate_left
     · rw [List.mem_iff_getElem?] at hy
       obtain ⟨i, hi⟩ := hy
       have hlt : i < len := by
        have := (List.getElem?_eq_some_iff.1 hi).1
        simp [m1] at this; exact this
       obtain ⟨x, csi, g1, g2, g3⟩ := elemq i hlt
       rw [List.getElem?_map, List.getElem?_map, g1] at hi
       simp at hi
       rw [← hi]; exact g3.2
     rcases Nat.eq_zero_or_pos len with h0 | h0
     · subst h0
       exact .list0 _ _ _ _ (fun hh => hfull hh)
     · have hspot : ad.spot = none := by
        obtain ⟨x, csi, g1, g2, g3⟩ := elemq 0 h0
        obtain ⟨_, q2, q3⟩ := World.cells?_some g2
        have hc0 := q3 0 hsz
        rw [List.getElem?_eq_getElem (by omega)] at hc0
        have := World.cell?_spot hc0
        simpa [Addr.add] using this
       obtain ⟨b, off, spot⟩ := ad
       simp only at hspot
       subst hspot
       have hb : b < w.heap.size := by
        obtain ⟨x, csi, g1, g2, g3⟩ := elemq 0 h0
        have := World.cells?_block g2 hsz
        simpa [Addr.add] using this
       refine .list _ len _ b off cap (P.cellsOf e) (fun i j => (w.cell? ⟨b, off + i * P.cellsOf e + j, none⟩).getD undef) hcond.2.1 hfull hb (fun i hi => ?_) (fun i j hi hj => ?_) (fun i j hi hj => ?_)
       · obtain ⟨x, csi, g1, g2, g3⟩ := elemq i hi
         rw [arow i x g1, g3.1.1]; exact (World.cells?_some g2).2.1
       · obtain ⟨x, csi, g1, g2, g3⟩ := elemq i hi
         obtain ⟨_, q2, q3⟩ := World.cells?_some g2
         have := q3 j hj
         rw [addr_add, addr_add] at this
         have hjl : j < csi.length := by omega
         rw [List.getElem?_eq_getElem hjl] at this
         rw [this]
         have := (g3.1.2 j hjl).1
         rw [gQ, List.getElem?_eq_getElem hjl] at this
         exact ⟨rfl, this⟩
       · obtain ⟨x, csi, g1, g2, g3⟩ := elemq i hi
         obtain ⟨_, q2, q3⟩ := World.cells?_some g2
         have := q3 j hj
         rw [addr_add, addr_add] at this
         have hjl : j < csi.length := by omega
         rw [List.getElem?_eq_getElem hjl] at this
         rw [this, arow i x g1]
         have := (g3.1.2 j hjl).2
         rw [List.getD_eq_getElem?_getD (l := csi), List.getElem?_eq_getElem hjl] at this
         exact this
end
mutual
def T.size : T → Nat
 | .b _ => 1
 | .i _ _ => 1
 | .s x => x.length + 1
 | .l _ es => T.sizes es + 1
 | .r fs => T.sizes fs + 1
def T.sizes : List T → Nat
 | [] => 0
 | t :: ts => t.size + T.sizes ts
end
def argT (x : T) : AVal := match x with
 | .r fs => .agg (T.encAll fs)
 | x => x.enc.getD 0 .undef
theorem okWide_cells {W : World} {base : Nat} {t : TypeId} {v : Value} (hs : ∀ fs, P.underlying t ≠ some (.struct fs)) (ha : ∀ n e, P.underlying t ≠ some (.array n e)) (hi : ∀ ms, P.underlying t ≠ some (.interface ms)) (h : Value.okWide P W .any base t v) : v.cells = #[v] := by
 cases v <;> try rfl
 rename_i cs
 unfold Value.okWide at h
 split at h
 · rename_i fs e; exact absurd e (hs fs)
 · rename_i n e' e; exact absurd e (ha n e')
 · exfalso
   unfold Cell.okWide at h
   split at h <;> first | (rename_i e; cases e; done) | skip
   all_goals (unfold Cell.ok at h; split at h <;> simp_all)
theorem arg_t {H : Type} {enc : TypeId × Value → H} {W : World} {ts : List TypeId} (hc : closedOk P ts = true) {base : Nat} {t : TypeId} {v : Value} {d : DataW H} {ps : List MemPlace} (ht : ts.contains t = true) (hv : Value.okWide P W .any base t v) (h : DataW.Trod enc P W 0 (fun _ => true) true t v d ps) :
 RepP W (oldB W) (argT (tOf d)) v ∧ HasT P t (tOf d) := by
 obtain ⟨n, hn⟩ := h
 obtain ⟨h1, h2⟩ := trod_t hc n t _ d ps ht hn
 refine ⟨?_, h2⟩
 have one : ∀ x, v.cells = #[v] → CellsP W [x] v.cells.toList → RepP W (oldB W) x v := fun x e k => by
  rw [e] at k
  exact (k.2 0 (by simp)).2
 generalize tOf d = x at h1 h2 ⊢
 cases h2 with
 | b hu => exact one _ (okWide_cells (by simp [hu]) (by simp [hu]) (by simp [hu]) hv) h1
 | i hu hw => exact one _ (okWide_cells (by simp [hu]) (by simp [hu]) (by simp [hu]) hv) h1
 | s hu => exact one _ (okWide_cells (by simp [hu]) (by simp [hu]) (by simp [hu]) hv) h1
 | l hu he' => exact one _ (okWide_cells (by simp [hu]) (by simp [hu]) (by simp [hu]) hv) (by simpa [T.enc, argT] using h1)
 | r hu hl hr =>
  unfold Value.okWide at hv
  rw [hu] at hv
  obtain ⟨cs, rfl, _, _⟩ := hv
  simp only [T.enc, Value.cells] at h1
  have := RepP.agg (w := W) (imm := oldB W) (T.encAll _) cs.toList h1.1 (fun j hj => (h1.2 j (by rw [← h1.1]; exact hj)).1) (fun j hj => (h1.2 j (by rw [← h1.1]; exact hj)).2)
  simpa [argT] using this
inductive HasTs (P : Program) : List TypeId → List T → Prop
 | nil : HasTs P [] []
 | cons {t x ts xs} : HasT P t x → HasTs P ts xs → HasTs P (t :: ts) (x :: xs)
theorem args_t {H : Type} {enc : TypeId × Value → H} {W : World} {ts : List TypeId} (hc : closedOk P ts = true) {base : Nat} : ∀ (tl : List TypeId) (vs : List Value) (ds : List (DataW H)) (ps : List MemPlace), tl.all (fun t => ts.contains t) = true →
 (∀ (j : Nat) t v, tl[j]? = some t → vs[j]? = some v → Value.okWide P W .any base t v) → DataW.TrodAll enc P W 0 (fun _ => true) true tl vs ds ps → RepL W (oldE W) [] ((tOfs ds).map argT) vs ∧ HasTs P tl (tOfs ds)
 | [], [], [], ps, _, _, h => ⟨⟨rfl, fun j hj => by simp [tOfs] at hj⟩, .nil⟩
 | t :: tl, v :: vs, d :: ds, ps, ht, hv, ⟨p, q, h1, h2, e⟩ => by
  simp only [List.all_cons, Bool.and_eq_true] at ht
  obtain ⟨g1, g2⟩ := arg_t hc ht.1 (hv 0 t v rfl rfl) h1
  obtain ⟨k1, k2⟩ := args_t hc tl vs ds q ht.2 (fun j t v a b => hv (j + 1) t v (by simpa using a) (by simpa using b)) h2
  simp only [tOfs]
  refine ⟨⟨by simp [k1.1], fun j hj => ?_⟩, .cons g2 k2⟩
  cases j with
  | zero => exact .pure _ _ g1
  | succ j =>
   have := k1.2 j (by simpa using hj)
   simpa using this
 | [], _ :: _, _, _, _, _, h => h.elim
 | [], [], _ :: _, _, _, _, h => h.elim
 | _ :: _, [], _, _, _, _, h => h.elim
 | _ :: _, _ :: _, [], _, _, _, h => h.elim
theorem trodAll_len {H : Type} {enc : TypeId × Value → H} {W : World} {sp : Nat → Bool} {held : Bool} : ∀ (tl : List TypeId) (vs : List Value) (ds : List (DataW H)) (ps : List MemPlace), DataW.TrodAll enc P W 0 sp held tl vs ds ps → ds.length = tl.length
 | [], [], [], ps, _ => rfl
 | t :: tl, v :: vs, d :: ds, ps, ⟨p, q, h1, h2, e⟩ => by simp [trodAll_len tl vs ds q h2]
 | [], _ :: _, _, _, h => h.elim
 | [], [], _ :: _, _, h => h.elim
 | _ :: _, [], _, _, h => h.elim
 | _ :: _, _ :: _, [], _, h => h.elim
theorem row_true {H : Type} {enc : TypeId × Value → H} {W : World} {ts : List TypeId} (hc : closedOk P ts = true) {f : FuncId} {fn : Func} {s : ChangeSpec} {apart fresh handsOn again : Bool} {args : Array Value} {ds gs : List (DataW H)} {before : List MemPlace} {tb : TypeId} {base : Nat}
 (hg : GlobOK W (oldB W)) (hpar : fn.params.toList.all (fun t => ts.contains t) = true) (hvars : s.vars = []) (hrt : fn.resultTypes = #[tb]) (hub : P.underlying tb = some .bool)
 (hval : ∀ (j : Nat) t v, fn.params[j]? = some t → args[j]? = some v → Value.okWide P W .any base t v)
 (hW : DataW.Whole enc P fn.params.toList s.vars apart W args.toList ds gs before) (hfn : ∀ d : List (DataW H), d = ds → gs = [] → d.length = fn.params.toList.length → (s.fn H (d ++ [])).results = [.lit (.bool true)] ∧ (s.fn H (d ++ [])).args = d ∧ (s.fn H (d ++ [])).vars = [])
 (hcall : HasTs P fn.params.toList (tOfs ds) → ∃ Hn, CallOK P f ((tOfs ds).map argT) [] (.ret (.bool true) Hn)) :
 Calls P f args W fun e W' => ∃ v, e = .returned v ∧ s.post enc P fn apart fresh handsOn again W args v W' := by
 have hW' := hW
 obtain ⟨p, q, hA, hV, rfl, hfz, hnd⟩ := hW
 obtain ⟨h1, h2⟩ := args_t hc _ _ ds p hpar (fun j t v a b => hval j t v (by simpa using a) (by simpa using b)) hA
 obtain ⟨Hn, hok⟩ := hcall h2
 have := hok W (oldE W) args.toList (sim_nil (fun b hb => hb) hg _ _) h1.1 h1.2
 rw [Array.toArray_toList] at this
 refine this.mono (fun e W' hp => ?_)
 cases e with
 | returned c =>
  obtain ⟨E', ev, _, hrep⟩ := hp
  have e1 := rep_bool hrep
  subst e1
  exact ⟨_, rfl, true_post hc hpar hvars hrt hub hW' (fun d a b => hfn d a b (by rw [a]; exact (trodAll_len _ _ _ _ hA))) (Go.RowKit.ok_one hrt rfl (Go.RowKit.okWide_bool_mk hub _)) (fun b hb => ev.kept b hb (fun h => h) (fun k hk => absurd hk live_nil)) ev.os ev.output⟩
 | panicked _ => exact hp.elim
 | outgrown => exact hp.elim
theorem HasT.str_inv {t : TypeId} {x : T} (h : HasT P t x) (hu : P.underlying t = some .string) : ∃ s, x = .s s := by
 cases h with
 | s h1 => exact ⟨_, rfl⟩
 | b h1 | i h1 | l h1 | r h1 => rw [hu] at h1; cases h1
theorem HasTs.cons_inv {t : TypeId} {ts : List TypeId} {xs : List T} (h : HasTs P (t :: ts) xs) : ∃ x xs', xs = x :: xs' ∧ HasT P t x ∧ HasTs P ts xs' := by
 cases h with
 | cons h1 h2 => exact ⟨_, _, rfl, h1, h2⟩
theorem HasTs.nil_inv {xs : List T} (h : HasTs P [] xs) : xs = [] := by cases h; rfl
end Go.Mu
namespace Go.Mu
open Go
variable {P : Program}
structure Lay where
 tab : FuncId → Option FSp
 fhs : FuncId → FH
noncomputable def Lay.hd (P : Program) (L : Lay) : Hd := iAll P (Mu.hd L.tab) (fun g => (L.tab g).isSome) L.fhs 0 12
structure Lay.OK (P : Program) (L : Lay) : Prop where
 t : TabOK P L.tab
 l : LoopsOK P L.fhs
theorem Lay.OK.hok {L : Lay} (h : L.OK P) : HOK P (L.hd P) := mu_sound (hd_ok h.t) h.l 0 12
def Lay.nil : Lay := ⟨fun _ => none, fun _ => {}⟩
theorem Lay.nil_ok : Lay.nil.OK P := ⟨fun g s h => by simp [Lay.nil] at h, .none (fun _ _ => rfl)⟩
def Lay.addF (L : Lay) (f : FuncId) (s : FSp) : Lay := ⟨fun g => if g = f then some s else L.tab g, L.fhs⟩
def Lay.addL (L : Lay) (f : FuncId) (fh : FH) : Lay := ⟨L.tab, fun g => if g = f then fh else L.fhs g⟩
theorem Lay.OK.addF {L : Lay} (h : L.OK P) {f : FuncId} {s : FSp} (hs : ∀ xs H k out, s xs H k = some out → ∃ o, CallOK P f xs H o ∧ k o = some out) : (L.addF f s).OK P := by
 refine ⟨fun g s' hg => ?_, h.l⟩
 simp only [Lay.addF] at hg
 split at hg
 · rename_i e; subst e; cases hg; exact hs
 · exact h.t g s' hg
theorem Lay.OK.addL {L : Lay} (h : L.OK P) {f : FuncId} {fh : FH} (hl : LOk P fh (codeOf P f)) : (L.addL f fh).OK P := by
 refine ⟨h.t, fun g fn c hf hb => ?_⟩
 simp only [Lay.addL]
 split
 · rename_i e
   subst e
   have : codeOf P g = c := by unfold codeOf; simp only [hf, hb]
   rw [← this]; exact hl
 · exact h.l g fn c hf hb
theorem Lay.OK.call {L : Lay} (h : L.OK P) {f : FuncId} {xs : Vs} {H : Heap} {o : Out} (hr : ∀ k, iFun P (L.hd P) L.fhs 0 f xs H k = k o) : CallOK P f xs H o := by
 classical
 have hz : iFun P (L.hd P) L.fhs 0 f xs H (fun o' => if o' = o then some o else none) = some o := (hr _).trans (by simp)
 obtain ⟨o', h1, h2⟩ := iFun_sound h.hok (fun g => ⟨regions_ok h.hok _, h.l g⟩) hz
 split at h2
 · rename_i e; rw [← e]; exact h1
 · simp at h2
noncomputable abbrev lturn (P : Program) (L : Lay) (fh : FH) (f id : Nat) (l m lx mx : List Nat) : St → Kont → Ans := round (iCode P (L.hd P) fh 0 (loopAt id (codeOf P f))) (fg2 l m) (fg2 lx mx)
def SpOK (turn : St → Kont → Ans) (n : Nat) (l m lx mx : List Nat) (sp : LSp) : Prop := ∀ vs bs H k out, sp vs bs H k = some out → ∃ ws e vs' bs' H' ws', SubTL vs ws ∧ LoopRuns turn n l m lx mx ws bs H e vs' bs' H' ∧ SubTL vs' ws' ∧ k e ws' bs' H' = some out
theorem Lay.OK.told {L : Lay} (h : L.OK P) {fh : FH} {f id n : Nat} {l m lx mx : List Nat} {sp : LSp} (hl : LOk P fh (loopAt id (codeOf P f))) (hs : SpOK (lturn P L fh f id l m lx mx) n l m lx mx sp) : LoopTold P (loopAt id (codeOf P f)) (loopSpec n l m lx mx sp) :=
 loopSpec_ok (F := 0) (regions_ok h.hok _) hl hs
theorem Lay.OK.loop1 {L : Lay} (h : L.OK P) {fh : FH} {f id n : Nat} {l m lx mx : List Nat} {sp : LSp} (e1 : loopsIn (codeOf P f) = [loopAt id (codeOf P f)]) (e2 : loopsIn (loopAt id (codeOf P f)) = [])
 (e3 : fh.loops (firstRegion (loopAt id (codeOf P f))) = some (loopSpec n l m lx mx sp)) (hs : SpOK (lturn P L fh f id l m lx mx) n l m lx mx sp) : (L.addL f fh).OK P := by
 refine h.addL (LOk.of _ (fun d hd sp' hsp => ?_))
 rw [e1, List.mem_singleton] at hd
 subst hd
 rw [e3, sJ] at hsp
 subst hsp
 exact h.told (LOk.of _ (fun d hd => by rw [e2] at hd; cases hd)) hs
def FH.of (ls : List (Nat × (St → Kont → Ans))) (fh : FH := {}) : FH := { fh with loops := fun i => ls.lookup i }
theorem search_from {turn : St → Kont → Ans} {S : Nat → St} {hit : Nat → Bool} {n : Nat} {e0 e1 : AExit} {R0 : St} {R1 : Nat → St} (h1 : ∀ i k, i < n → turn (S i) k = cond (hit i) (k e1 (R1 i)) (k .normal (S (i + 1)))) (h0 : ∀ k, turn (S n) k = k e0 R0) (he0 : e0 ≠ .normal) (he1 : e1 ≠ .normal) (k : Kont) :
 ∀ (m i : Nat), i + m = n → rounds turn (m + 1) (S i) k = match (List.range' i m).find? hit with | some j => k e1 (R1 j) | none => k e0 R0
 | 0, i, he => by
  obtain rfl : i = n := by omega
  rw [rounds_succ', h0]
  cases e0 <;> first | exact absurd rfl he0 | rfl
 | m + 1, i, he => by
  rw [rounds_succ', h1 i _ (by omega), List.range'_succ, List.find?_cons]
  cases hit i with
  | true => cases e1 <;> first | exact absurd rfl he1 | rfl
  | false => exact search_from h1 h0 he0 he1 k m (i + 1) (by omega)
theorem search_find {turn : St → Kont → Ans} {S : Nat → St} {hit : Nat → Bool} {n : Nat} {e0 e1 : AExit} {R0 : St} {R1 : Nat → St} (h1 : ∀ i k, i < n → turn (S i) k = cond (hit i) (k e1 (R1 i)) (k .normal (S (i + 1)))) (h0 : ∀ k, turn (S n) k = k e0 R0) (he0 : e0 ≠ .normal) (he1 : e1 ≠ .normal) (k : Kont) :
 rounds turn (n + 1) (S 0) k = match (List.range n).find? hit with | some j => k e1 (R1 j) | none => k e0 R0 := by
 rw [List.range_eq_range']
 exact search_from h1 h0 he0 he1 k n 0 (by omega)
theorem search_any {turn : St → Kont → Ans} {S : Nat → St} {hit : Nat → Bool} {n : Nat} {e0 e1 : AExit} {R0 R1 : St} (h1 : ∀ i k, i < n → turn (S i) k = cond (hit i) (k e1 R1) (k .normal (S (i + 1)))) (h0 : ∀ k, turn (S n) k = k e0 R0) (he0 : e0 ≠ .normal) (he1 : e1 ≠ .normal) (k : Kont) :
 rounds turn (n + 1) (S 0) k = cond ((List.range n).any hit) (k e1 R1) (k e0 R0) := by
 rw [search_find (R1 := fun _ => R1) h1 h0 he0 he1 k]
 have : (List.range n).any hit = ((List.range n).find? hit).isSome := by
  rw [Bool.eq_iff_iff]; simp
 rw [this]
 cases (List.range n).find? hit <;> rfl
abbrev encL {α : Type} (full : Bool) (f : α → Vs) (d : α) (l : List α) : AVal := .list full l.length (fun i => f (l.getD i d))
def decL {α : Type} (g : Vs → α) : AVal → List α
 | .list _ n row => (List.range n).map (fun i => g (row i))
 | _ => []
def wfL (w : Vs → Bool) : AVal → Bool
 | .list _ n row => (List.range n).all (fun i => w (row i))
 | _ => false
def fullOf : AVal → Bool
 | .list f _ _ => f
 | _ => false
theorem range_getD {α : Type} (l : List α) (d : α) : (List.range l.length).map (fun i => l.getD i d) = l := by
 apply List.ext_getElem?
 intro i
 rw [List.getElem?_map]
 rcases Nat.lt_or_ge i l.length with h | h
 · rw [List.getElem?_range h]; simp [gQ, List.getElem?_eq_getElem h]
 · rw [List.getElem?_eq_none (by simpa using h), List.getElem?_eq_none h]; rfl
theorem decL_encL {α : Type} {g : Vs → α} {f : α → Vs} {d : α} {full : Bool} (h : ∀ a, g (f a) = a) (l : List α) : decL g (encL full f d l) = l := by
 simp only [decL, h]
 exact range_getD l d
theorem wfL_encL {α : Type} {w : Vs → Bool} {f : α → Vs} {d : α} {full : Bool} (h : ∀ a, w (f a) = true) (l : List α) : wfL w (encL full f d l) = true := by
 simp [wfL, h]
theorem sub_encL {α : Type} {w : Vs → Bool} {g : Vs → α} {f : α → Vs} {d : α} {x : AVal} (hx : wfL w x = true) (h : ∀ r, w r = true → SubL r (f (g r))) : Sub x (encL (fullOf x) f d (decL g x)) := by
 cases x <;> simp only [wfL, Bool.false_eq_true] at hx
 rename_i full n row
 simp only [decL, fullOf, encL]
 have hl : ((List.range n).map (fun i => g (row i))).length = n := by simp
 rw [hl]
 refine Sub.list (fun h => h) (fun i hi => ?_)
 have : ((List.range n).map (fun i => g (row i))).getD i d = g (row i) := by
  simp [gQ, List.getElem?_range hi]
 rw [this]
 exact h _ (List.all_eq_true.1 hx i (by simpa using hi))
theorem any_getD {α : Type} (p : α → Bool) (l : List α) (d : α) : (List.range l.length).any (fun i => p (l.getD i d)) = l.any p := by
 conv => rhs; rw [← range_getD l d, List.any_map]
 rfl
theorem find_getD {α : Type} (p : α → Bool) (l : List α) (d : α) : (List.range l.length).find? (fun i => p (l.getD i d)) = if l.any p then some (l.findIdx p) else none := by
 induction l with
 | nil => simp
 | cons a l ih =>
  rw [List.length_cons, List.range_succ_eq_map, List.find?_cons]
  simp only [List.getD_cons_zero, List.find?_map, List.any_cons, List.findIdx_cons]
  cases hp : p a with
  | true => simp
  | false =>
   have : ((fun i => p ((a :: l).getD i d)) ∘ Nat.succ) = fun i => p (l.getD i d) := by
    funext i; simp [gQ]
   rw [this, ih]
   simp only [Bool.false_or, Bool.false_eq_true, if_false, cond_false]
   split <;> simp
theorem wrap_add1 {i : Nat} (h : i < 4611686018427387904) : IntKind.i64.wrap ((i : Int) + 1) = ((i + 1 : Nat) : Int) := by
 simp [IntKind.wrap, IntKind.signed, IntKind.bits]
 omega
def encS (s : Oc) : Vs := [.str s]
def decS (r : Vs) : Oc := strOf (r.getD 0 .undef)
def wfS (r : Vs) : Bool := match r with
 | [.str _] => true
 | _ => false
theorem wfS_sub (r : Vs) (h : wfS r = true) : SubL r (encS (decS r)) := by
 unfold wfS at h
 split at h
 · exact .refl _
 · simp at h
def lenL : AVal → Nat
 | .list _ n _ => n
 | _ => 0
theorem lenL_decL {α : Type} {w : Vs → Bool} {g : Vs → α} {x : AVal} (hx : wfL w x = true) : (decL g x).length = lenL x := by
 cases x <;> simp only [wfL, Bool.false_eq_true] at hx
 simp [decL, lenL]
theorem list_of_wfL {w : Vs → Bool} {x : AVal} (hx : wfL w x = true) : noTmp x = true := by
 cases x <;> simp only [wfL, Bool.false_eq_true] at hx
 rfl
theorem subT_encL {α : Type} {w : Vs → Bool} {g : Vs → α} {f : α → Vs} {d : α} {x : AVal} (hx : wfL w x = true) (h : ∀ r, w r = true → SubL r (f (g r))) : SubT x (encL (fullOf x) f d (decL g x)) := (sub_encL hx h).t (list_of_wfL hx)
def idxSp {α : Type} (w : Vs → Bool) (g : Vs → α) (p : α → Bool) (cl : FuncId) : LSp := fun vs bs H k => match vs with
 | [x, .func c [], .int .i64 n, .int .i64 z] => cond (wfL w x && c == cl && n == (lenL x : Int) && z == 0 && decide (lenL x ≤ 1099511627776) && bs.isEmpty)
  (cond ((decL g x).any p) (k .ret [.int .i64 ((decL g x).findIdx p : Nat)] [] H) (k (.exit 0) [.undef] [] H)) none
 | _ => none
theorem idxSp_ok {α : Type} {w : Vs → Bool} {g : Vs → α} {f : α → Vs} {d : α} {p : α → Bool} {cl : FuncId} {turn : St → Kont → Ans} (hw : ∀ r, w r = true → SubL r (f (g r)))
 (hstep : ∀ (full : Bool) (l : List α) (i : Nat) (H : Heap) (D : Dfs) (k : Kont), turn (stL 19 [0,1,7,8] [encL full f d l, .func cl [], .int .i64 l.length, .int .i64 i] [] [] H D) k =
  cond (decide ((i : Int) < l.length)) (cond (decide ((i : Int) < l.length)) (cond (p (l.getD (i : Int).toNat d)) (k .ret (stL 19 [4] [.int .i64 i] [] [] H D)) (k .normal (stL 19 [0,1,7,8] [encL full f d l, .func cl [], .int .i64 l.length, .int .i64 (IntKind.i64.wrap ((i : Int) + 1))] [] [] H D))) none)
   (k (.exit 0) (stL 19 [4] [.undef] [] [] H D))) :
 SpOK turn 19 [0,1,7,8] [] [4] [] (idxSp w g p cl) := by
 intro vs bs H k out ho
 unfold idxSp at ho
 split at ho
 case h_2 => simp at ho
 rename_i x c n z
 rw [Bool.cond_eq_ite] at ho
 split at ho
 case isFalse => simp at ho
 rename_i hc
 simp only [Bool.and_eq_true, beq_iff_eq, decide_eq_true_eq, List.isEmpty_iff] at hc
 obtain ⟨⟨⟨⟨⟨hx, rfl⟩, rfl⟩, rfl⟩, hn⟩, rfl⟩ := hc
 rw [← lenL_decL (g := g) hx] at hn ⊢
 generalize hl : decL g x = l at ho hn ⊢
 have hs : SubT x (encL (fullOf x) f d l) := by rw [← hl]; exact subT_encL hx hw
 have hrun : ∀ D k, rounds turn (l.length + 1) (stL 19 [0,1,7,8] [encL (fullOf x) f d l, .func c [], .int .i64 l.length, .int .i64 0] [] [] H D) k = cond (l.any p) (k .ret (stL 19 [4] [.int .i64 (l.findIdx p : Nat)] [] [] H D)) (k (.exit 0) (stL 19 [4] [.undef] [] [] H D)) := by
  intro D k
  have := search_find (turn := turn) (S := fun i => stL 19 [0,1,7,8] [encL (fullOf x) f d l, .func c [], .int .i64 l.length, .int .i64 (i : Nat)] [] [] H D) (hit := fun i => p (l.getD i d)) (n := l.length) (e0 := .exit 0) (e1 := .ret)
   (R0 := stL 19 [4] [.undef] [] [] H D) (R1 := fun i => stL 19 [4] [.int .i64 (i : Nat)] [] [] H D) (fun i k hi => by
    rw [hstep, decide_eq_true (show (i : Int) < l.length by omega), wrap_add1 (by omega)]; rfl) (fun k => by rw [hstep, decide_eq_false (by omega)]; rfl) (by simp) (by simp) k
  rw [find_getD] at this
  refine Eq.trans this ?_
  cases l.any p <;> rfl
 cases ha : l.any p with
 | true =>
  rw [ha] at ho
  exact ⟨_, _, _, _, _, _, .cons hs (.refl _), ⟨_, fun D k => by rw [hrun, ha]; rfl⟩, .refl _, ho⟩
 | false =>
  rw [ha] at ho
  exact ⟨_, _, _, _, _, _, .cons hs (.refl _), ⟨_, fun D k => by rw [hrun, ha]; rfl⟩, .refl _, ho⟩
def decB (r : Vs) : UInt8 := byteOf r
def wfB (r : Vs) : Bool := match r with
 | [.int .u8 n] => decide (0 ≤ n) && decide (n < 256)
 | _ => false
theorem wfB_sub (r : Vs) (h : wfB r = true) : SubL r (byteRow (decB r)) := by
 unfold wfB at h
 split at h
 · rename_i n
   simp only [Bool.and_eq_true, decide_eq_true_eq] at h
   have : byteRow (decB [.int .u8 n]) = [.int .u8 n] := by
    simp only [byteRow, decB, byteOf, List.getD_cons_zero, intOf]
    congr 2
    have : n.toNat < 256 := by omega
    simp [UInt8.toNat_ofNat', Nat.mod_eq_of_lt this]
    omega
   rw [this]; exact .refl _
 · simp at h
theorem decB_enc (c : UInt8) : decB (byteRow c) = c := by
 simp [decB, byteRow, byteOf, intOf]
theorem wfB_enc (c : UInt8) : wfB (byteRow c) = true := by
 have := c.toNat_lt
 simp [wfB, byteRow]
 omega
noncomputable def tst (p : Prop) : Bool := @decide p (Classical.propDecidable p)
theorem tst_true {p : Prop} (h : p) : tst p = true := by unfold tst; exact @decide_eq_true _ (Classical.propDecidable p) h
theorem of_tst {p : Prop} (h : tst p = true) : p := by unfold tst at h; exact @of_decide_eq_true _ (Classical.propDecidable p) h
end Go.Mu
namespace Go.Mu
open Go
variable {P : Program} {w w' : World} {E E' : Env} {H H' G : Heap}
def refsD : Nat → Nat → AVal → Bool
 | 0, _, _ => false
 | d + 1, m, v => match v with
  | .own k _ _ _ _ => decide (k < m)
  | .ptr (.hp k) _ => decide (k < m)
  | .eptr k _ _ _ => decide (k < m)
  | .map k => decide (k < m)
  | .func _ cs => cs.all (refsD d m)
  | .iface _ x => refsD d m x
  | .agg cs => cs.all (refsD d m)
  | .tuple cs => cs.all (refsD d m)
  | _ => true
def refsO (m : Nat) : Obj → Bool
 | .var cs => cs.all (refsD 6 m)
 | .arr _ rows _ => rows.all (fun r => r.all (refsD 6 m))
 | .note _ _ => true
 | .map _ _ => true
theorem isVar_app {k : Nat} (h : k < H.length) : isVar (H ++ G) k = isVar H k := by
 unfold isVar; rw [List.getElem?_append_left h]
theorem arrInfo_app {k : Nat} (h : k < H.length) : arrInfo (H ++ G) k = arrInfo H k := by
 unfold arrInfo; rw [List.getElem?_append_left h]
theorem all_getD_of {cs : Vs} {p : AVal → Bool} (h : cs.all p = true) {j : Nat} (hj : j < cs.length) : p (cs.getD j .undef) = true := by
 rw [gQ, List.getElem?_eq_getElem hj]
 exact List.all_eq_true.1 h _ (List.getElem_mem hj)
theorem Rep.shrink : ∀ (d : Nat) (v : AVal) (c : Value), refsD d H.length v = true → Rep w E (H ++ G) v c → Rep w E H v c := by
 intro d
 induction d with
 | zero => intro v c h; simp [refsD] at h
 | succ d ih =>
  intro v c hn h
  cases h with
  | pure _ _ h => exact .pure _ _ h
  | own k off len ver clip a cap sz u h1 h2 h3 =>
   simp only [refsD, decide_eq_true_eq] at hn
   rw [arrInfo_app hn] at h1
   exact .own k off len ver clip a cap sz u h1 h2 h3
  | ptrH k off hv =>
   simp only [refsD, decide_eq_true_eq] at hn
   rw [isVar_app hn] at hv
   exact .ptrH k off hv
  | eptr k ver i off p sz u h1 h2 h3 =>
   simp only [refsD, decide_eq_true_eq] at hn
   rw [arrInfo_app hn] at h1
   exact .eptr k ver i off p sz u h1 h2 h3
  | func f caps cs hl hr =>
   simp only [refsD] at hn
   exact .func f caps cs hl (fun j hj => ih _ _ (all_getD_of hn hj) (hr j hj))
  | iface t v c hr => exact .iface t v c (ih _ _ (by simpa [refsD] using hn) hr)
  | agg cells cs hl h1 hr =>
   simp only [refsD] at hn
   exact .agg cells cs hl h1 (fun j hj => ih _ _ (all_getD_of hn hj) (hr j hj))
  | tuple vs cs hl hr =>
   simp only [refsD] at hn
   exact .tuple vs cs hl (fun j hj => ih _ _ (all_getD_of hn hj) (hr j hj))
  | mapH k hv =>
   simp only [refsD, decide_eq_true_eq] at hn
   rw [isVar_app hn] at hv
   exact .mapH k hv
theorem block_shrink {b n : Nat} {cells : Nat → Option AVal} (hc : ∀ j v, cells j = some v → refsD 6 H.length v = true) (r : Mu.BlockRep w E (H ++ G) b n cells) : Mu.BlockRep w E H b n cells := by
 obtain ⟨ds, ty, fr, h1, h2, h3, h4⟩ := r
 exact ⟨ds, ty, fr, h1, h2, h3, fun j v hv => let ⟨c, g1, g2, g3⟩ := h4 j v hv; ⟨c, g1, g2, g3.shrink 6 v c (hc j v hv)⟩⟩
theorem live_app {k : Nat} (h : live E H k) : live E (H ++ G) k := by
 have hk := live_lt h
 unfold live at h ⊢
 rw [isVar_app hk, arrInfo_app hk]
 exact h
theorem Sim.shrink (hH : ∀ x ∈ H, refsO H.length x = true) (s : Sim w E (H ++ G)) : Sim w E H := by
 have get : ∀ {k : Nat} {x : Obj}, H[k]? = some x → (H ++ G)[k]? = some x := fun {k x} h => by
  rw [List.getElem?_append_left (List.getElem?_eq_some_iff.1 h).1, h]
 refine ⟨s.immLt, fun k cs h => ?_, fun k sz rows u h => ?_, fun k h => s.apart k (live_app h), fun k l h g e => s.inj k l (live_app h) (live_app g) e, fun j t n hj hl => s.note j t n (get hj) (live_app hl), s.glob, fun k kk es h => s.map k kk es (get h)⟩
 · refine block_shrink (fun j v hv => ?_) (s.var k cs (get h))
   have := hH _ (List.mem_of_getElem? h)
   simp only [refsO] at this
   exact List.all_eq_true.1 this _ (List.mem_of_getElem? hv)
 · obtain ⟨h1, h2, h3, h4⟩ := s.arr k sz rows u (get h)
   refine ⟨h1, h2, h3, fun hc => block_shrink (fun j v hv => ?_) (h4 hc)⟩
   have := hH _ (List.mem_of_getElem? h)
   simp only [refsO] at this
   unfold Mu.cellAt at hv
   rw [Option.bind_eq_some_iff] at hv
   obtain ⟨r, hr, hv⟩ := hv
   exact List.all_eq_true.1 (List.all_eq_true.1 this _ (List.mem_of_getElem? hr)) _ (List.mem_of_getElem? hv)
theorem Evo.shrink {X : Nat → Prop} {H0 : Heap} (hl : H0.length ≤ H.length) (ev : Evo X w E H0 w' E' (H ++ G)) : Evo X w E H0 w' E' H := by
 refine ⟨ev.size, ev.kept, ev.immKept, ev.immNew, fun k hk => ?_, fun k sz u hk => ?_, fun k hk => ev.phi k (live_app hk), hl, ev.tape, ev.os, ev.output⟩
 · have hlt : k < H0.length := live_lt (E := E) (.inl hk)
   have := ev.var k hk
   rwa [isVar_app (by omega)] at this
 · have hlt : k < H0.length := by
    unfold arrInfo at hk
    rcases Nat.lt_or_ge k H0.length with g | g
    · exact g
    · rw [List.getElem?_eq_none g] at hk; cases hk
   have := ev.arr k sz u hk
   rwa [arrInfo_app (by omega)] at this
theorem CallOK.shrink {f : FuncId} {xs : Vs} {v : AVal} (hc : CallOK P f xs H (.ret v (H' ++ G))) (hl : H.length ≤ H'.length) (hv : refsD 6 H'.length v = true) (hH : ∀ x ∈ H', refsO H'.length x = true) : CallOK P f xs H (.ret v H') := by
 intro w E cs sim hlen hr
 refine Calls.mono (hc w E cs sim hlen hr) (fun e w' hp => ?_)
 cases e with
 | returned c =>
  obtain ⟨E', ev, sim', hrep⟩ := hp
  exact ⟨E', ev.shrink hl, sim'.shrink hH, hrep.shrink 6 _ _ hv⟩
 | panicked _ => exact hp.elim
 | outgrown => exact hp.elim
theorem isVar_app2 {k : Nat} (h : H.length ≤ k) (hl : H'.length = H.length) : isVar (H' ++ G) k = isVar (H ++ G) k := by
 unfold isVar; rw [List.getElem?_append_right h, List.getElem?_append_right (by omega), hl]
theorem arrInfo_app2 {k : Nat} (h : H.length ≤ k) (hl : H'.length = H.length) : arrInfo (H' ++ G) k = arrInfo (H ++ G) k := by
 unfold arrInfo; rw [List.getElem?_append_right h, List.getElem?_append_right (by omega), hl]
def joinE (n : Nat) (E E' : Env) : Env := { imm := E'.imm, φ := fun k => if k < n then E'.φ k else E.φ k, cap := fun k => if k < n then E'.cap k else E.cap k }
theorem frame_sees1 (hl : H'.length = H.length) (ev : Evo No w E H w' E' H') : Sees w E (H ++ G) w' (joinE H.length E E') (H' ++ G) := by
 refine ⟨ev.immKept, fun k hk => ?_, fun k sz u hk => ?_⟩
 · by_cases h : k < H.length
   · rw [isVar_app h] at hk
     rw [isVar_app (by omega)]
     have := ev.var k hk
     exact ⟨this.1, by simp only [joinE, if_pos h]; exact this.2⟩
   · rw [isVar_app2 (by omega) hl]
     exact ⟨hk, by simp only [joinE, if_neg h]⟩
 · by_cases h : k < H.length
   · rw [arrInfo_app h] at hk
     rw [arrInfo_app (by omega)]
     have := ev.arr k sz u hk
     simp only [joinE, if_pos h]; exact this
   · rw [arrInfo_app2 (by omega) hl]
     simp only [joinE, if_neg h]
     exact ⟨u, hk, Nat.le_refl _, fun _ => ⟨trivial, fun _ => trivial⟩⟩
theorem frame_sees2 (hl : H'.length = H.length) : Sees w' E' H' w' (joinE H.length E E') (H' ++ G) := by
 refine ⟨fun b hb => ⟨hb, rfl⟩, fun k hk => ?_, fun k sz u hk => ?_⟩
 · have h : k < H'.length := isVar_lt hk
   rw [isVar_app h]
   exact ⟨hk, by simp only [joinE]; rw [if_pos (by omega)]⟩
 · have h := arrInfo_lt hk
   rw [arrInfo_app h]
   simp only [joinE]
   rw [if_pos (by omega), if_pos (by omega)]
   exact ⟨u, hk, Nat.le_refl _, fun _ => ⟨rfl, fun _ => rfl⟩⟩
theorem frame_live1 {k : Nat} (h : k < H.length) (hl : H'.length = H.length) (hk : live (joinE H.length E E') (H' ++ G) k) : live E' H' k := by
 unfold live at hk ⊢
 rw [isVar_app (by omega), arrInfo_app (by omega)] at hk
 simpa only [joinE, if_pos h] using hk
theorem frame_live2 {k : Nat} (h : ¬ k < H.length) (hl : H'.length = H.length) (hk : live (joinE H.length E E') (H' ++ G) k) : live E (H ++ G) k := by
 unfold live at hk ⊢
 rw [isVar_app2 (by omega) hl, arrInfo_app2 (by omega) hl] at hk
 simpa only [joinE, if_neg h] using hk
theorem frame_core (sim : Sim w E (H ++ G)) (hl : H'.length = H.length) (hG : ∀ t n, G[0]? ≠ some (.note t n)) (ev : Evo No w E H w' E' H') (sim' : Sim w' E' H') :
 Evo No w E (H ++ G) w' (joinE H.length E E') (H' ++ G) ∧ Sim w' (joinE H.length E E') (H' ++ G) := by
 have s1 : Sees w E (H ++ G) w' (joinE H.length E E') (H' ++ G) := frame_sees1 hl ev
 have s2 : Sees w' E' H' w' (joinE H.length E E') (H' ++ G) := frame_sees2 hl
 have get1 : ∀ {k : Nat}, k < H.length → (H' ++ G)[k]? = H'[k]? := fun {k} h => List.getElem?_append_left (by omega)
 have get2 : ∀ {k : Nat}, ¬ k < H.length → (H' ++ G)[k]? = (H ++ G)[k]? := fun {k} h => by
  rw [List.getElem?_append_right (by omega), List.getElem?_append_right (by omega), hl]
 have keep : ∀ k, ¬ k < H.length → live E (H ++ G) k → w'.heap[E.φ k]? = w.heap[E.φ k]? := fun k h hk => by
  refine ev.kept _ (sim.apart k hk).2 (fun h => h) (fun l hlv he => ?_)
  have := sim.inj l k (live_app hlv) hk he
  have := live_lt hlv
  omega
 have joinP : ∀ {k : Nat}, k < H.length → (joinE H.length E E').φ k = E'.φ k ∧ (joinE H.length E E').cap k = E'.cap k := fun {k} h => by
  simp only [joinE, if_pos h, and_self]
 have joinN : ∀ {k : Nat}, ¬ k < H.length → (joinE H.length E E').φ k = E.φ k ∧ (joinE H.length E E').cap k = E.cap k := fun {k} h => by
  simp only [joinE, if_neg h, and_self]
 refine ⟨⟨ev.size, fun b hb hX hk => ev.kept b hb hX (fun k h => hk k (live_app h)), ev.immKept, ev.immNew, s1.var, s1.arr, fun k hk => ?_, by simp [hl], ev.tape, ev.os, ev.output⟩, ⟨sim'.immLt, fun k cs' h => ?_, fun k sz rows u h => ?_, fun k hk => ?_, fun k l hk hl' he => ?_, fun j t n hj hlv => ?_, sim'.glob, fun k kk es h => ?_⟩⟩
 rotate_left 6
 · by_cases hk : k < H.length
   · rw [get1 hk] at h
     rw [(joinP hk).1]
     exact (sim'.map k kk es h).same rfl
   · rw [get2 hk] at h
     rw [(joinN hk).1]
     exact (sim.map k kk es h).same (keep k hk (.inl (map_isVar h)))
 rotate_left 5
 · by_cases h : j < H.length
   · rw [get1 h] at hj
     have h1 : j - 1 < H.length := by omega
     rw [(joinP h1).1]
     exact sim'.note j t n hj (frame_live1 h1 hl hlv)
   · rw [get2 h] at hj
     by_cases h1 : j - 1 < H.length
     · obtain rfl : j = H.length := by omega
       rw [List.getElem?_append_right (Nat.le_refl _), Nat.sub_self] at hj
       exact absurd hj (hG t n)
     · rw [(joinN h1).1]
       have hlv2 := frame_live2 h1 hl hlv
       exact (sim.note j t n hj hlv2).same (keep _ h1 hlv2)
 · by_cases h : k < H.length
   · rw [(joinP h).1]
     rcases ev.phi k (frame_live1 h hl hk) with g | ⟨g1, g2⟩
     · exact .inl g
     · exact .inr ⟨live_app g1, g2⟩
   · exact .inr ⟨frame_live2 h hl hk, (joinN h).1⟩
 · by_cases hk : k < H.length
   · rw [get1 hk] at h
     rw [(joinP hk).1]
     exact (sim'.var k cs' h).mono s2 rfl
   · rw [get2 hk] at h
     rw [(joinN hk).1]
     exact (sim.var k cs' h).mono s1 (keep k hk (.inl (by unfold isVar; rw [h])))
 · by_cases hk : k < H.length
   · rw [get1 hk] at h
     rw [(joinP hk).1, (joinP hk).2]
     obtain ⟨h1, h2, h3, h4⟩ := sim'.arr k sz rows u h
     exact ⟨h1, h2, h3, fun hc => (h4 hc).mono s2 rfl⟩
   · rw [get2 hk] at h
     rw [(joinN hk).1, (joinN hk).2]
     obtain ⟨h1, h2, h3, h4⟩ := sim.arr k sz rows u h
     exact ⟨h1, h2, h3, fun hc => (h4 hc).mono s1 (keep k hk (.inr ⟨⟨sz, u, by unfold arrInfo; rw [h]⟩, hc⟩))⟩
 · by_cases h : k < H.length
   · rw [(joinP h).1]
     exact sim'.apart k (frame_live1 h hl hk)
   · have hlv := frame_live2 h hl hk
     obtain ⟨a1, a2⟩ := sim.apart k hlv
     rw [(joinN h).1]
     refine ⟨fun hi => ?_, Nat.lt_of_lt_of_le a2 ev.size⟩
     rcases ev.immNew _ hi with g | g
     · exact a1 g
     · omega
 · have mixed : ∀ k l, k < H.length → ¬ l < H.length → live (joinE H.length E E') (H' ++ G) k → live (joinE H.length E E') (H' ++ G) l → (joinE H.length E E').φ k = (joinE H.length E E').φ l → False := fun k l h1 h2 hk hl' he => by
    rw [(joinP h1).1, (joinN h2).1] at he
    have hlv := frame_live2 h2 hl hl'
    rcases ev.phi k (frame_live1 h1 hl hk) with g | ⟨g1, g2⟩
    · have := (sim.apart l hlv).2
      omega
    · have := sim.inj k l (live_app g1) hlv (by rw [← g2]; exact he)
      omega
   by_cases h1 : k < H.length <;> by_cases h2 : l < H.length
   · rw [(joinP h1).1, (joinP h2).1] at he
     exact sim'.inj k l (frame_live1 h1 hl hk) (frame_live1 h2 hl hl') he
   · exact (mixed k l h1 h2 hk hl' he).elim
   · exact (mixed l k h2 h1 hl' hk he.symm).elim
   · rw [(joinN h1).1, (joinN h2).1] at he
     exact sim.inj k l (frame_live2 h1 hl hk) (frame_live2 h2 hl hl') he
theorem CallOK.frame {f : FuncId} {xs : Vs} {v : AVal} (hc : CallOK P f xs H (.ret v H')) (hl : H'.length = H.length) (hx : ∀ x ∈ xs, refsD 6 H.length x = true) (hH : ∀ x ∈ H, refsO H.length x = true) (G : Heap) (hG : ∀ t n, G[0]? ≠ some (.note t n)) : CallOK P f xs (H ++ G) (.ret v (H' ++ G)) := by
 intro w E cs sim hlen hr
 refine Calls.mono (hc w E cs (sim.shrink hH) hlen (fun j hj => (hr j hj).shrink 6 _ _ ?_)) (fun e w' hp => ?_)
 · rw [gQ, List.getElem?_eq_getElem hj]
   exact hx _ (List.getElem_mem hj)
 cases e with
 | panicked _ => exact hp.elim
 | outgrown => exact hp.elim
 | returned c =>
  obtain ⟨E', ev, sim', hrep⟩ := hp
  obtain ⟨h1, h2⟩ := frame_core sim hl hG ev sim'
  exact ⟨_, h1, h2, hrep.mono (frame_sees2 hl)⟩
theorem CallOK.frameP {f : FuncId} {xs : Vs} {p : AVal} (hc : CallOK P f xs H (.panic p H')) (hl : H'.length = H.length) (hx : ∀ x ∈ xs, refsD 6 H.length x = true) (hH : ∀ x ∈ H, refsO H.length x = true) (G : Heap) (hG : ∀ t n, G[0]? ≠ some (.note t n)) : CallOK P f xs (H ++ G) (.panic p (H' ++ G)) := by
 intro w E cs sim hlen hr
 refine Calls.mono (hc w E cs (sim.shrink hH) hlen (fun j hj => (hr j hj).shrink 6 _ _ ?_)) (fun e w' hp => ?_)
 · rw [gQ, List.getElem?_eq_getElem hj]
   exact hx _ (List.getElem_mem hj)
 cases e with
 | returned _ => exact hp.elim
 | outgrown => exact hp.elim
 | panicked chain =>
  obtain ⟨E', c, hch, ev, sim', hrep⟩ := hp
  obtain ⟨h1, h2⟩ := frame_core sim hl hG ev sim'
  exact ⟨_, c, hch, h1, h2, hrep.mono (frame_sees2 hl)⟩
end Go.Mu
set_option linter.constructorNameAsVariable false
namespace Go.Mu
open Go
variable {P : Program}
noncomputable def mkL {α : Type} (dec : Vs → List Vs → Heap → α) (ok : α → Prop) (ev : α → Vs) (eb : α → List Vs) (eh : α → Heap) (post : α → (AExit → Vs → List Vs → Heap → Ans) → Ans) : LSp := fun vs bs H k =>
 cond (tst (ok (dec vs bs H) ∧ SubTL vs (ev (dec vs bs H)) ∧ bs = eb (dec vs bs H) ∧ H = eh (dec vs bs H))) (post (dec vs bs H) k) none
theorem mkL_ok {α : Type} {turn : St → Kont → Ans} {n : Nat} {l m lx mx : List Nat} {dec : Vs → List Vs → Heap → α} {ok : α → Prop} {ev : α → Vs} {eb : α → List Vs} {eh : α → Heap} {post : α → (AExit → Vs → List Vs → Heap → Ans) → Ans}
 (h : ∀ a, ok a → ∃ e vs bs H, (∀ k, post a k = k e vs bs H) ∧ LoopRuns turn n l m lx mx (ev a) (eb a) (eh a) e vs bs H) : SpOK turn n l m lx mx (mkL dec ok ev eb eh post) := by
 intro vs bs H k out ho
 unfold mkL at ho
 rw [Bool.cond_eq_ite] at ho
 split at ho
 case isFalse => simp at ho
 rename_i hc
 obtain ⟨h1, h2, h3, h4⟩ := of_tst hc
 generalize dec vs bs H = a at *
 obtain ⟨e, vs', bs', H', h5, h6⟩ := h a h1
 rw [h5] at ho
 subst h3 h4
 exact ⟨ev a, e, vs', bs', H', vs', h2, h6, .refl _, ho⟩
noncomputable def mkF {α : Type} (dec : Vs → Heap → α) (ok : α → Prop) (ex : α → Vs) (eh : α → Heap) (post : α → (Out → Ans) → Ans) : FSp := fun xs H k =>
 cond (tst (ok (dec xs H) ∧ SubL xs (ex (dec xs H)) ∧ H = eh (dec xs H))) (post (dec xs H) k) none
theorem mkF_ok {α : Type} {f : FuncId} {dec : Vs → Heap → α} {ok : α → Prop} {ex : α → Vs} {eh : α → Heap} {post : α → (Out → Ans) → Ans}
 (h : ∀ a, ok a → ∃ o, (∀ k, post a k = k o) ∧ CallOK P f (ex a) (eh a) o) (xs : Vs) (H : Heap) (k : Out → Ans) (out : Out) (ho : mkF dec ok ex eh post xs H k = some out) : ∃ o, CallOK P f xs H o ∧ k o = some out := by
 unfold mkF at ho
 rw [Bool.cond_eq_ite] at ho
 split at ho
 case isFalse => simp at ho
 rename_i hc
 obtain ⟨h1, h2, h3⟩ := of_tst hc
 generalize dec xs H = a at *
 obtain ⟨o, h4, h5⟩ := h a h1
 rw [h4] at ho
 subst h3
 exact ⟨o, h5.subArgs h2, ho⟩
abbrev aS (vs : Vs) (i : Nat) : Oc := strOf (vs.getD i .undef)
abbrev aI (vs : Vs) (i : Nat) : Int := intOf (vs.getD i .undef)
abbrev aB (vs : Vs) (i : Nat) : Bool := boolOf (vs.getD i .undef)
theorem tstL {α : Type} {ok : α → Prop} {a : α} {vs : Vs} {bs : List Vs} {H : Heap} (h : ok a) : tst (ok a ∧ SubTL vs vs ∧ bs = bs ∧ H = H) = true := tst_true ⟨h, .refl _, rfl, rfl⟩
theorem LoopRuns.step {turn : St → Kont → Ans} {n : Nat} {l m lx mx : List Nat} {vs ws : Vs} {bs cs : List Vs} {H G : Heap} {e : AExit} {vs' : Vs} {bs' : List Vs} {H' : Heap}
 (h : ∀ D k, turn (stL n l vs m bs H D) k = k .normal (stL n l ws m cs G D)) (g : LoopRuns turn n l m lx mx ws cs G e vs' bs' H') : LoopRuns turn n l m lx mx vs bs H e vs' bs' H' := by
 obtain ⟨q, hq⟩ := g
 exact ⟨q + 1, fun D k => by rw [rounds_succ', h]; exact hq D k⟩
theorem LoopRuns.stop {turn : St → Kont → Ans} {n : Nat} {l m lx mx : List Nat} {vs : Vs} {bs : List Vs} {H : Heap} {e : AExit} {vs' : Vs} {bs' : List Vs} {H' : Heap} (he : e ≠ .normal)
 (h : ∀ D k, turn (stL n l vs m bs H D) k = k e (stL n lx vs' mx bs' H' D)) : LoopRuns turn n l m lx mx vs bs H e vs' bs' H' :=
 ⟨1, fun D k => by rw [rounds_succ', h]; cases e <;> first | exact absurd rfl he | rfl⟩
theorem wrap_of {n : Int} (h1 : -4611686018427387904 ≤ n) (h2 : n ≤ 4611686018427387904) : IntKind.i64.wrap n = n := by
 simp [IntKind.wrap, IntKind.signed, IntKind.bits]
 omega
theorem dT {p : Prop} [Decidable p] (h : p) : decide p = true := decide_eq_true h
theorem dF {p : Prop} [Decidable p] (h : ¬ p) : decide p = false := decide_eq_false h
theorem List.getD_drop {α : Type} (l : List α) (i j : Nat) (d : α) : (l.drop i).getD j d = l.getD (i + j) d := by
 simp [gQ, List.getElem?_drop]
theorem drop_cons_of {α : Type} (l : List α) (i : Nat) (d : α) (h : i < l.length) : l.drop i = l.getD i d :: l.drop (i + 1) := by
 rw [List.drop_eq_getElem_cons h]
 simp [gQ, List.getElem?_eq_getElem h]
theorem tstP {p : Prop} {xs : Vs} (h : p) : tst (p ∧ SubL xs xs ∧ True) = true := tst_true ⟨h, .refl _, trivial⟩
theorem sameV_refl (a : AVal) : sameV a a = true := by unfold sameV; simp
theorem Lay.OK.addN {L : Lay} (h : L.OK P) {f : FuncId} {fh : FH} (h0 : loopsIn (codeOf P f) = []) : (L.addL f fh).OK P := h.addL (LOk.of _ (fun d hd => by rw [h0] at hd; cases hd))
theorem g1 {p q : Prop} [Decidable p] [Decidable q] (h : q → p) : (decide p || !decide q) = true := by
 by_cases hq : q
 · rw [dT (h hq)]; rfl
 · rw [dF hq]; simp
theorem g2 {p r q : Prop} [Decidable p] [Decidable r] [Decidable q] (h : q → p ∧ r) : (decide p && decide r || !decide q) = true := by
 by_cases hq : q
 · rw [dT (h hq).1, dT (h hq).2]; rfl
 · rw [dF hq]; simp
theorem g3 {p q : Prop} [Decidable p] [Decidable q] {x : Bool} (h : q → p) : (decide p || !(decide q && x)) = true := by
 by_cases hq : q
 · rw [dT (h hq)]; rfl
 · rw [dF hq]; simp
theorem g4 {p r q : Prop} [Decidable p] [Decidable r] [Decidable q] {x : Bool} (h : q → p ∧ r) : (decide p && decide r || !(decide q && x)) = true := by
 by_cases hq : q
 · rw [dT (h hq).1, dT (h hq).2]; rfl
 · rw [dF hq]; simp
theorem g5 {p q : Prop} [Decidable p] [Decidable q] {x y : Bool} (h : q → p) : (decide p || !(decide q && x && y)) = true := by
 by_cases hq : q
 · rw [dT (h hq)]; rfl
 · rw [dF hq]; simp
theorem g6 {p r q : Prop} [Decidable p] [Decidable r] [Decidable q] {x y : Bool} (h : q → p ∧ r) : (decide p && decide r || !(decide q && x && y)) = true := by
 by_cases hq : q
 · rw [dT (h hq).1, dT (h hq).2]; rfl
 · rw [dF hq]; simp
theorem eqc {c : UInt8} {n : Nat} (h : n < 256) : ((c.toNat : Int) == no_index (@OfNat.ofNat Int n _)) = (c == (@OfNat.ofNat UInt8 n _)) := by
 have e : (@OfNat.ofNat Int n _) = ((n : Nat) : Int) := rfl
 rw [e, Bool.eq_iff_iff]
 simp only [beq_iff_eq, ← UInt8.toNat_inj]
 have : (OfNat.ofNat n : UInt8).toNat = n := by simp [UInt8.toNat_ofNat, Nat.mod_eq_of_lt h]
 rw [this]; omega
theorem bif_and {x y : Bool} : (bif x then y else false) = (x && y) := by cases x <;> rfl
theorem bif_or {x y : Bool} : (bif x then true else y) = (x || y) := by cases x <;> rfl
theorem toNat_sub1 {n : Nat} : ((n : Int) - 1).toNat = n - 1 := by omega
inductive Sh where
 | s
 | i (k : IntKind)
 | b
 | c (l : Oc)
 | a
def Sh.ok : Sh → AVal → Bool
 | .s, v => isStr v
 | .i k, v => isInt k v
 | .b, v => isBool v
 | .c l, v => isStr v && strOf v == l
 | .a, _ => true
def Sh.re : Sh → AVal → AVal
 | .s, v => .str (strOf v)
 | .i k, v => .int k (intOf v)
 | .b, v => .bool (boolOf v)
 | .c l, v => .str l
 | .a, v => v
def shOk : List Sh → Vs → Bool
 | [], [] => true
 | s :: ss, v :: vs => s.ok v && shOk ss vs
 | _, _ => false
def shRe : List Sh → Vs → Vs
 | [], _ => []
 | s :: ss, vs => s.re (vs.headD .undef) :: shRe ss vs.tail
theorem Sh.eq {s : Sh} {v : AVal} (h : s.ok v = true) : v = s.re v := by
 cases s <;> cases v <;> simp_all [Sh.ok, Sh.re, isStr, isInt, isBool, strOf, intOf, boolOf]
theorem sh_eq : ∀ {ss : List Sh} {vs : Vs}, shOk ss vs = true → vs = shRe ss vs
 | [], [], _ => rfl
 | [], _ :: _, h => by simp [shOk] at h
 | _ :: _, [], h => by simp [shOk] at h
 | s :: ss, v :: vs, h => by
  simp only [shOk, Bool.and_eq_true] at h
  simp only [shRe, List.headD_cons, List.tail_cons]
  rw [← Sh.eq h.1, ← sh_eq h.2]
def mkFS (ss : List Sh) (ok : Vs → Bool) (post : Vs → (Out → Ans) → Ans) : FSp := fun xs H k => cond (shOk ss xs && H.isEmpty && ok xs) (post xs k) none
theorem mkFS_ok {f : FuncId} {ss : List Sh} {ok : Vs → Bool} {post : Vs → (Out → Ans) → Ans} (h : ∀ ys xs, xs = shRe ss ys → ok xs = true → ∃ o, (∀ k, post xs k = k o) ∧ CallOK P f xs [] o) (xs : Vs) (H : Heap) (k : Out → Ans) (out : Out) (ho : mkFS ss ok post xs H k = some out) : ∃ o, CallOK P f xs H o ∧ k o = some out := by
 unfold mkFS at ho
 rw [Bool.cond_eq_ite] at ho
 split at ho
 case isFalse => simp at ho
 rename_i hc
 simp only [Bool.and_eq_true, List.isEmpty_iff] at hc
 obtain ⟨⟨h1, rfl⟩, h2⟩ := hc
 obtain ⟨o, h4, h5⟩ := h xs xs (sh_eq h1) h2
 rw [h4] at ho
 exact ⟨o, h5, ho⟩
def mkLS (ss : List Sh) (ok : Vs → Bool) (post : Vs → (AExit → Vs → Ans) → Ans) : LSp := fun vs bs H k => cond (shOk ss vs && bs.isEmpty && ok vs) (post vs (fun e ws => k e ws [] H)) none
theorem mkLS_ok {turn : St → Kont → Ans} {n : Nat} {l lx : List Nat} {ss : List Sh} {ok : Vs → Bool} {post : Vs → (AExit → Vs → Ans) → Ans}
 (h : ∀ ys vs H, vs = shRe ss ys → ok vs = true → ∃ e ws, (∀ k, post vs k = k e ws) ∧ LoopRuns turn n l [] lx [] vs [] H e ws [] H) : SpOK turn n l [] lx [] (mkLS ss ok post) := by
 intro vs bs H k out ho
 unfold mkLS at ho
 rw [Bool.cond_eq_ite] at ho
 split at ho
 case isFalse => simp at ho
 rename_i hc
 simp only [Bool.and_eq_true, List.isEmpty_iff] at hc
 obtain ⟨⟨h1, rfl⟩, h2⟩ := hc
 obtain ⟨e, ws, h4, h5⟩ := h vs vs H (sh_eq h1) h2
 rw [h4] at ho
 exact ⟨vs, e, ws, [], H, ws, .refl _, h5, .refl _, ho⟩
theorem Lay.OK.callF {L : Lay} (h : L.OK P) {f : FuncId} {xs : Vs} {v : AVal} {G : Heap} (hv : refsD 6 0 v = true) (hr : ∀ k, iFun P (L.hd P) L.fhs 0 f xs [] k = k (.ret v G)) : CallOK P f xs [] (.ret v []) :=
 CallOK.shrink (H := []) (H' := []) (G := G) (h.call hr) (Nat.le_refl _) hv (fun x hx => by cases hx)
def cellsO : Obj → Vs
 | .var cs => cs
 | _ => []
def rowsO : Obj → List Vs
 | .arr _ rows _ => rows
 | _ => []
def verO : Obj → Nat
 | .arr _ _ u => u
 | _ => 0
theorem freezeW {H : Heap} {k sz off len u d : Nat} {clip : Bool} {rows rows' : List Vs} (hk : H[k]? = some (.arr sz rows u)) (hl : off + len ≤ rows.length) (hr : ((rows.drop off).take len).mapM (fun r => r.mapM (freezeV H d)) = some rows') : freezeV H (d + 1) (.own k off len u clip) = some (.list false len (fun i => rows'.getD i [])) := by
 unfold freezeV
 simp only [hk]
 rw [if_pos (by simp [hl]), hr]
theorem freeze_pures (H : Heap) (d : Nat) : ∀ rows : List Vs, (∀ r ∈ rows, r.mapM (freezeV H (d + 1)) = some r) → rows.mapM (fun r => r.mapM (freezeV H (d + 1))) = some rows
 | [], _ => rfl
 | r :: rows, h => by
  have ih := freeze_pures H d rows (fun x hx => h x (by simp [hx]))
  rw [List.mapM_cons, h r (by simp), ih]
  rfl
theorem freeze_t3 {H : Heap} {o v : AVal} {a b : Int} {ka kb : IntKind} (h : freezeV H 2 o = some v) : freezeV H 3 (.tuple [o, .int ka a, .int kb b]) = some (.tuple [v, .int ka a, .int kb b]) := by
 show ([o, AVal.int ka a, AVal.int kb b].mapM (freezeV H 2)).map AVal.tuple = _
 rw [List.mapM_cons, h]
 rfl
theorem Sub.nilX : Sub .nilX nilList := by
 refine ⟨fun w imm c h => ?_, fun w E H c h => ?_⟩
 · cases h; exact .list0 _ _ _ _ (fun _ => rfl)
 · have := rep_nilX h
   subst this
   exact .pure _ _ (.list0 _ _ _ _ (fun _ => rfl))
end Go.Mu
namespace Go.Mu
open Go
variable {P : Program} {w w' : World} {E E' : Env} {H H' G : Heap} {β : Nat → Option Nat} {a : Act}
def fzV (k : Nat) (rows : List Vs) (u : Nat) : Nat → AVal → AVal
 | 0, _ => .undef
 | d + 1, v => match v with
  | .own k' off len ver clip => if k' = k then (if ver = u ∧ off + len ≤ rows.length then .list false len (fun i => rows.getD (off + i) []) else .undef) else .own k' off len ver clip
  | .ptr (.hp k') o => if k' = k then .undef else .ptr (.hp k') o
  | .eptr k' v i o => if k' = k then .undef else .eptr k' v i o
  | .map k' => if k' = k then .undef else .map k'
  | .func f cs => .func f (cs.map (fzV k rows u d))
  | .iface t x => .iface t (fzV k rows u d x)
  | .agg cs => .agg (cs.map (fzV k rows u d))
  | .tuple cs => .tuple (cs.map (fzV k rows u d))
  | v => v
def fzO (k : Nat) (rows : List Vs) (u : Nat) : Obj → Obj
 | .var cs => .var (cs.map (fzV k rows u 6))
 | .arr sz rs v => .arr sz (rs.map (fun r => r.map (fzV k rows u 6))) v
 | .note t n => .note t n
 | .map kk es => .map kk es
def fzE (k : Nat) (E : Env) : Env := { imm := fun b => E.imm b ∨ (E.cap k ≠ 0 ∧ b = E.φ k), φ := E.φ, cap := E.cap }
theorem getD_map_fz {f : AVal → AVal} {cs : Vs} {j : Nat} (h : j < cs.length) : (cs.map f).getD j .undef = f (cs.getD j .undef) := by
 simp [gQ, List.getElem?_eq_getElem h]
theorem isVar_fz {k : Nat} {rows : List Vs} {u l : Nat} : isVar (H.map (fzO k rows u)) l = isVar H l := by
 unfold isVar
 rw [List.getElem?_map]
 cases H[l]? with
 | none => rfl
 | some x => cases x <;> rfl
theorem arrInfo_fz {k : Nat} {rows : List Vs} {u l : Nat} : arrInfo (H.map (fzO k rows u)) l = arrInfo H l := by
 unfold arrInfo
 rw [List.getElem?_map]
 cases H[l]? with
 | none => rfl
 | some x => cases x <;> rfl
theorem fz_list {sz u off len : Nat} {rows : List Vs} {clip : Bool} {c : Value} (hs : Sim w E (H ++ [.arr sz rows u])) (hall : rows.all (fun r => r.all isPure) = true) (hle : off + len ≤ rows.length) (r : Rep w E (H ++ [.arr sz rows u]) (.own H.length off len u clip) c) :
 RepP w (fzE H.length E).imm (.list false len (fun i => rows.getD (off + i) [])) c := by
 have hk : (H ++ [Obj.arr sz rows u])[H.length]? = some (.arr sz rows u) := by simp
 obtain ⟨ao, cap, sz', u', rfl, g1, g2, g3⟩ := rep_own r
 rw [arr_of_get hk] at g1
 simp only [sJ, Prod.mk.injEq] at g1
 obtain ⟨rfl, rfl⟩ := g1
 obtain ⟨s1, s2, s3, s4, s5⟩ := g3 rfl
 obtain ⟨k1, k2, k3, k4⟩ := hs.arr H.length sz rows u hk
 by_cases h0 : len = 0
 · subst h0; exact .list0 _ _ _ _ (fun h => by simp at h)
 · have hcap : E.cap H.length ≠ 0 := by omega
   obtain ⟨ds, ty, fr, b1, b2, b3, b4⟩ := k4 hcap
   rw [s5 hcap (.inl h0)]
   have cellq : ∀ m j, m < len → j < sz → ∃ c, ds[(off + m) * sz + j]? = some c ∧ c.oneCell' = true ∧ RepP w E.imm ((rows.getD (off + m) []).getD j .undef) c := fun m j hm hj => by
    have hlt : off + m < rows.length := by omega
    have hrl := k3 _ (List.getElem_mem hlt)
    have hrow : rows.getD (off + m) [] = rows[off + m] := by rw [gQ, List.getElem?_eq_getElem hlt]; rfl
    obtain ⟨c, c1, c2, c3⟩ := b4 ((off + m) * sz + j) (rows[off + m].getD j .undef) (by
     show Mu.cellAt sz rows ((off + m) * sz + j) = _
     unfold Mu.cellAt
     rw [show ((off + m) * sz + j) / sz = off + m by rw [Nat.mul_comm, Nat.mul_add_div k1, Nat.div_eq_of_lt hj, Nat.add_zero], show ((off + m) * sz + j) % sz = j by rw [Nat.mul_comm, Nat.mul_add_mod, Nat.mod_eq_of_lt hj],
      List.getElem?_eq_getElem hlt]
     exact getD_some _ (by omega))
    refine ⟨c, c1, c2, ?_⟩
    rw [hrow]
    exact isPure_rep (List.all_eq_true.1 (List.all_eq_true.1 hall _ (List.getElem_mem hlt)) _ (getD_mem (by omega))) c3
   refine .list false len _ (E.φ H.length) (off * sz) cap sz (fun i j => ds.getD ((off + i) * sz + j) undef) s1 (fun h => by simp at h) (.inr ⟨hcap, rfl⟩) (fun i hi => ?_) (fun i j hi hj => ?_) (fun i j hi hj => ?_)
   · have hlt : off + i < rows.length := by omega
     rw [gQ, List.getElem?_eq_getElem hlt]
     exact k3 _ (List.getElem_mem hlt)
   · obtain ⟨c, c1, c2, c3⟩ := cellq i j hi hj
     rw [cell?_block b1, ← Nat.add_mul, c1]
     simp [c1, c2]
   · obtain ⟨c, c1, c2, c3⟩ := cellq i j hi hj
     simp only [Array.getD_eq_getD_getElem?, c1, Option.getD_some]
     exact c3.imm (fun b hb => .inl hb)
def HOwn (w : World) (E : Env) (H : Heap) (X : Obj) (rows : List Vs) (u : Nat) : Prop := ∀ off len clip c, off + len ≤ rows.length → Rep w E (H ++ [X]) (.own H.length off len u clip) c → RepP w (fzE H.length E).imm (.list false len (fun i => rows.getD (off + i) [])) c
theorem hown_melt {sz u : Nat} {rows : List Vs} (hs : Sim w E (H ++ [.arr sz rows u])) (hall : rows.all (fun r => r.all isPure) = true) : HOwn w E H (.arr sz rows u) rows u := fun off len clip c hle r => fz_list hs hall hle r
theorem fz_rep {X : Obj} {u : Nat} {rows : List Vs} (hown : HOwn w E H X rows u) : ∀ (d : Nat) (v : AVal) (c : Value), Rep w E (H ++ [X]) v c → Rep w (fzE H.length E) H (fzV H.length rows u d v) c := by
 intro d
 induction d with
 | zero => intro v c h; exact .undef _
 | succ d ih =>
  intro v c h
  have base : (∀ {w : World} {E : Env} {H : Heap}, Rep w E H v c → RepP w E.imm v c) → Rep w (fzE H.length E) H v c := fun hp => .pure _ _ ((hp h).imm (fun b hb => .inl hb))
  cases v <;> simp only [fzV]
  case own k off len ver clip =>
   split
   · rename_i hk
     subst hk
     split
     · rename_i hc
       obtain ⟨rfl, hle⟩ := hc
       exact .pure _ _ (hown off len clip c hle h)
     · exact .undef _
   · rename_i hk
     obtain ⟨ao, cap, sz', u', rfl, g1, g2, g3⟩ := rep_own h
     have hlt : k < H.length := by
      have := arrInfo_lt g1
      simp only [List.length_append, List.length_singleton] at this
      omega
     rw [arrInfo_app hlt] at g1
     exact .own k off len ver clip ao cap sz' u' g1 g2 g3
  case ptr o off =>
   cases o with
   | tmp t => cases h with | pure _ _ h => cases h
   | hp k =>
    simp only
    split
    · exact .undef _
    · rename_i hk
      obtain ⟨rfl, hv⟩ := rep_ptrH h
      have hlt : k < H.length := by
       have := isVar_lt hv
       simp only [List.length_append, List.length_singleton] at this
       omega
      rw [isVar_app hlt] at hv
      exact .ptrH k off hv
  case eptr k ver i off =>
   split
   · exact .undef _
   · rename_i hk
     obtain ⟨p, sz', u', rfl, g1, g2, g3⟩ := rep_eptr h
     have hlt : k < H.length := by
      have := arrInfo_lt g1
      simp only [List.length_append, List.length_singleton] at this
      omega
     rw [arrInfo_app hlt] at g1
     exact .eptr k ver i off p sz' u' g1 g2 g3
  case map k =>
   split
   · exact .undef _
   · rename_i hk
     obtain ⟨rfl, hv⟩ := rep_map h
     have hlt : k < H.length := by
      have := isVar_lt hv
      simp only [List.length_append, List.length_singleton] at this
      omega
     rw [isVar_app hlt] at hv
     exact .mapH k hv
  case func f cs =>
   obtain ⟨ds, rfl, hl, hr⟩ := rep_func h
   exact .func f _ ds (by simpa using hl) (fun j hj => by
    have hj' : j < cs.length := by simpa using hj
    rw [getD_map_fz hj']; exact ih _ _ (hr j hj'))
  case agg cs =>
   obtain ⟨ds, rfl, hl, hr⟩ := rep_agg h
   exact .agg _ ds (by simpa using hl) (fun j hj => (hr j (by simpa using hj)).1) (fun j hj => by
    have hj' : j < cs.length := by simpa using hj
    rw [getD_map_fz hj']; exact ih _ _ (hr j hj').2)
  case tuple cs =>
   obtain ⟨ds, rfl, hl, hr⟩ := rep_tuple h
   exact .tuple _ ds (by simpa using hl) (fun j hj => by
    have hj' : j < cs.length := by simpa using hj
    rw [getD_map_fz hj']; exact ih _ _ (hr j hj'))
  case iface t x =>
   obtain ⟨dd, rfl, hr⟩ := rep_iface h
   exact .iface t _ dd (ih _ _ hr)
  all_goals exact base (fun h => by cases h with | pure _ _ h => exact h)
section
variable {sz u u0 : Nat} {rows rows0 : List Vs}
theorem fz_sees : Sees w (fzE H.length E) H w (fzE H.length E) (H.map (fzO H.length rows u)) := by
 refine ⟨fun b hb => ⟨hb, rfl⟩, fun k hk => ⟨by rw [isVar_fz]; exact hk, rfl⟩, fun k sz u hk => ⟨u, by rw [arrInfo_fz]; exact hk, Nat.le_refl _, fun _ => ⟨rfl, fun _ => rfl⟩⟩⟩
theorem fz_block {b n : Nat} {cells cells' : Nat → Option AVal} (hown : HOwn w E H (.arr sz rows0 u0) rows u) (hc : ∀ j v, cells' j = some v → ∃ x, cells j = some x ∧ v = fzV H.length rows u 6 x)
 (r : Mu.BlockRep w E (H ++ [.arr sz rows0 u0]) b n cells) : Mu.BlockRep w (fzE H.length E) (H.map (fzO H.length rows u)) b n cells' := by
 obtain ⟨ds, ty, fr, h1, h2, h3, h4⟩ := r
 refine ⟨ds, ty, fr, h1, h2, h3, fun j v hv => ?_⟩
 obtain ⟨x, hx, rfl⟩ := hc j v hv
 obtain ⟨c, g1, g2, g3⟩ := h4 j x hx
 exact ⟨c, g1, g2, (fz_rep hown 6 x c g3).mono fz_sees⟩
theorem fz_live {k : Nat} (h : live (fzE H.length E) (H.map (fzO H.length rows u)) k) : live E (H ++ G) k := by
 have hk := live_lt h
 rw [List.length_map] at hk
 unfold live at h ⊢
 rw [isVar_fz, arrInfo_fz] at h
 rw [isVar_app hk, arrInfo_app hk]
 exact h
theorem fz_imm {k : Nat} (hs : Sim w E (H ++ [.arr sz rows0 u0])) (hk : live (fzE H.length E) (H.map (fzO H.length rows u)) k) : ¬ (fzE H.length E).imm (E.φ k) := by
 have hlt := live_lt hk
 rw [List.length_map] at hlt
 have hlv : live E (H ++ [.arr sz rows0 u0]) k := fz_live hk
 rintro (h | ⟨h1, h2⟩)
 · exact (hs.apart k hlv).1 h
 · have hl2 : live E (H ++ [.arr sz rows0 u0]) H.length := .inr ⟨⟨sz, u0, by simp [arrInfo]⟩, h1⟩
   have := hs.inj k H.length hlv hl2 h2
   omega
theorem Sim.melt (hs : Sim w E (H ++ [.arr sz rows0 u0])) (hown : HOwn w E H (.arr sz rows0 u0) rows u) : Sim w (fzE H.length E) (H.map (fzO H.length rows u)) := by
 have get : ∀ {k : Nat} {x : Obj}, (H.map (fzO H.length rows u))[k]? = some x → ∃ y, (H ++ [Obj.arr sz rows0 u0])[k]? = some y ∧ x = fzO H.length rows u y := fun {k x} h => by
  rw [List.getElem?_map, Option.map_eq_some_iff] at h
  obtain ⟨y, hy, rfl⟩ := h
  exact ⟨y, by rw [List.getElem?_append_left (List.getElem?_eq_some_iff.1 hy).1, hy], rfl⟩
 refine ⟨fun b hb => ?_, fun k cs h => ?_, fun k sz' rs v h => ?_, fun k h => ⟨fz_imm hs h, (hs.apart k (fz_live h)).2⟩, fun k l h g e => hs.inj k l (fz_live h) (fz_live g) e, fun j t n hj hl => ?_, hs.glob.mono (fun b hb => ⟨.inl hb, rfl⟩), fun k kk es h => by
  obtain ⟨y, hy, e⟩ := get h
  cases y with
  | arr _ _ _ => cases e
  | var _ => cases e
  | note _ _ => cases e
  | map kk' es' =>
   simp only [fzO, Obj.map.injEq] at e
   obtain ⟨rfl, rfl⟩ := e
   exact hs.map k _ _ hy⟩
 rotate_left 3
 · obtain ⟨y, hy, e⟩ := get hj
   cases y with
   | arr _ _ _ => cases e
   | var _ => cases e
   | map _ _ => cases e
   | note t' n' =>
    simp only [fzO, Obj.note.injEq] at e
    obtain ⟨rfl, rfl⟩ := e
    exact hs.note j _ _ hy (fz_live hl)
 · rcases hb with hb | ⟨h1, rfl⟩
   · exact hs.immLt b hb
   · exact (hs.apart H.length (.inr ⟨⟨sz, u0, by simp [arrInfo]⟩, h1⟩)).2
 · obtain ⟨y, hy, e⟩ := get h
   cases y with
   | arr _ _ _ => cases e
   | note _ _ => cases e
   | map _ _ => cases e
   | var cs0 =>
    simp only [fzO, Obj.var.injEq] at e
    subst e
    rw [List.length_map]
    refine fz_block hown (fun j v hv => ?_) (hs.var k cs0 hy)
    rw [List.getElem?_map, Option.map_eq_some_iff] at hv
    obtain ⟨x, hx, rfl⟩ := hv
    exact ⟨x, hx, rfl⟩
 · obtain ⟨y, hy, e⟩ := get h
   cases y with
   | var _ => cases e
   | note _ _ => cases e
   | map _ _ => cases e
   | arr sz0 rs1 v0 =>
    simp only [fzO, Obj.arr.injEq] at e
    obtain ⟨rfl, rfl, rfl⟩ := e
    obtain ⟨h1, h2, h3, h4⟩ := hs.arr k _ rs1 _ hy
    refine ⟨h1, by simpa [fzE] using h2, fun r hr => ?_, fun hc => fz_block hown (fun j x hx => ?_) (h4 hc)⟩
    · obtain ⟨r0, hr0, rfl⟩ := List.mem_map.1 hr
      rw [List.length_map]; exact h3 r0 hr0
    · unfold Mu.cellAt at hx ⊢
      rw [List.getElem?_map] at hx
      cases hq : rs1[j / sz']? with
      | none => rw [hq] at hx; simp at hx
      | some r0 =>
       rw [hq] at hx
       simp only [Option.map_some, Option.bind_some, List.getElem?_map, Option.map_eq_some_iff] at hx ⊢
       obtain ⟨z, hz, rfl⟩ := hx
       exact ⟨z, hz, rfl⟩
theorem Evo.melt {X : Nat → Prop} {w0 : World} {E0 : Env} {H0 : Heap} (hl : H0.length ≤ H.length) (ev : Evo X w0 E0 H0 w E (H ++ [.arr sz rows0 u0])) : Evo X w0 E0 H0 w (fzE H.length E) (H.map (fzO H.length rows u)) := by
 refine ⟨ev.size, ev.kept, fun b hb => ⟨.inl (ev.immKept b hb).1, (ev.immKept b hb).2⟩, fun b hb => ?_, fun k hk => ?_, fun k sz' u' hk => ?_, fun k hk => ev.phi k (fz_live hk), by simpa using hl, ev.tape, ev.os, ev.output⟩
 · rcases hb with hb | ⟨h1, rfl⟩
   · exact ev.immNew b hb
   · rcases ev.phi H.length (.inr ⟨⟨sz, u0, by simp [arrInfo]⟩, h1⟩) with g | ⟨g, _⟩
     · exact .inr g
     · have := live_lt g; omega
 · have hlt := isVar_lt hk
   have := ev.var k hk
   rw [isVar_app (by omega)] at this
   exact ⟨by rw [isVar_fz]; exact this.1, this.2⟩
 · have hlt := arrInfo_lt hk
   have := ev.arr k sz' u' hk
   rw [arrInfo_app (by omega)] at this
   rw [arrInfo_fz]
   exact this
end
end Go.Mu
