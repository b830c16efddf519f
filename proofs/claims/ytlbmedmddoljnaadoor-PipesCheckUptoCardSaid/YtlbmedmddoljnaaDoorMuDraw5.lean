/-
  Mu: a region whose order is drawn: all together.
-/
import Derived.Test.YtlbmedmddoljnaaDoorMuDraw4
set_option linter.unusedVariables false
set_option linter.unusedSimpArgs false
namespace Go.Mu
open Go
variable {P : Program} {h : Hd} {fh : FH} {l : List Oper} {m : Nat} {S : Nat → RS} {R : Nat → List Rec} {Wf : Nat → Wr} {L : Nat → Bool} {s s' : RS} {o : Oper} {i : Nat} {recs : List Rec} {w w' : World} {a : Act} {E E' : Env} {H H' : Heap} {β β' : Nat → Option Nat} {st st' : St}

theorem mem_ready' {j : Nat} {listed : Array Bool} (hs : listed.size = l.length) (hj : j ∈ Region.ready .any l.toArray listed) :
    j < l.length ∧ ofList listed j = false ∧ ∀ o, l[j]? = some o → ∀ e ∈ o.after, Region.binds .any e = true → ofList listed e.on = true := by
  obtain ⟨h1, o, ho, h2⟩ := mem_ready.1 hj
  have ho' : l[j]? = some o := by simpa using ho
  have hlt := (List.getElem?_eq_some_iff.1 ho').1
  refine ⟨hlt, ?_, fun o' ho2 e he hb => ?_⟩
  · unfold ofList
    rw [Array.getD_eq_getD_getElem?] at h1 ⊢
    rw [Array.getElem?_eq_getElem (by omega)] at h1 ⊢
    exact h1
  · rw [ho'] at ho2
    cases Option.some.inj ho2
    exact h2 e he hb
/-- the first that is not listed is ready -/
theorem ready_some (hed : edgesDown l = true) {listed : Array Bool} (hs : listed.size = l.length) {k : Nat} (hk : k < l.length) (hL : ofList listed k = false) : Region.ready .any l.toArray listed ≠ [] := by
  obtain ⟨j, hj, hjL, hmin⟩ := min_of (p := fun k => ofList listed k = false) k hL
  have hjl : j < l.length := by omega
  intro he
  have : j ∈ Region.ready .any l.toArray listed := by
    rw [mem_ready]
    refine ⟨?_, l[j], by simp [hjl], fun e hae hb => ?_⟩
    · unfold ofList at hjL
      rw [Array.getD_eq_getD_getElem?, Array.getElem?_eq_getElem (by omega)] at hjL ⊢
      exact hjL
    · have hlt : e.on < j := by
        unfold edgesDown at hed
        simp only [List.all_eq_true] at hed
        have hm : (l[j], j) ∈ l.zipIdx := by rw [List.mem_zipIdx_iff_getElem?]; exact List.getElem?_eq_getElem hjl
        have := hed _ hm e (by simpa using hae)
        simpa [hb] using this
      have := hmin e.on hlt
      cases hh : ofList listed e.on with
      | true => exact hh
      | false => exact absurd hh this
  rw [he] at this; simp at this

/-- one of the ready -/
theorem draw_step (dr : Drawn P fh l m S R Wf) {listed : Array Bool} (hs : listed.size = l.length) (hc : Closed l (ofList listed)) {Q : Exit → Act → World → Prop} {K : Act → World → Prop} (hi : i ∈ Region.ready .any l.toArray listed) (him : i < m)
    (ri : RI w a E β (mg Wf m (S 0) (ofList listed))) (hK : ∀ w' a' E' β', Next w E β (mg Wf m (S 0) (ofList listed)).H w' a' E' β' (mg Wf m (S 0) (ofList (listed.setIfInBounds i true))) → K a' w') : wpOp P l.toArray Q i K a w := by
  obtain ⟨hlt, hno, hall⟩ := mem_ready' hs hi
  have ho := List.getElem?_eq_getElem hlt
  have hd := closed_down dr.edges hc
  have hr := ready_of dr.edges hc hno hall
  have hf := fits dr.tr dr.G0 dr.al dr.names dr.guards hd hr him ho
  obtain ⟨recs2, hrun⟩ := dr.tr.move i _ _ him ho hf
  have hadd := mg_add (Wf := Wf) (s0 := S 0) (L := ofList listed) him hno (fun c hw j hij hjm hL => by
    cases hwj : wrC c (Wf j) with
    | false => rfl
    | true =>
      have cc : cmpB (Region.before l.toArray) i j = true := by
        obtain ⟨oj, hoj⟩ := op_at dr.tr hjm
        have hdst : ∀ t, (Wf i).dst = some t → (Wf j).dst = some t → cmpB (Region.before l.toArray) i j = true := fun t h1 h2 =>
          names_cmp dr.names ho hoj (by omega) (by rw [← (dr.tr.dst i _ him ho).1]; exact h1) (by unfold namesOf; rw [← (dr.tr.dst j _ hjm hoj).1, h2]; simp)
        cases c with
        | T t => exact hdst t (by simpa [wrC] using hw) (by simpa [wrC] using hwj)
        | G t =>
          simp only [wrC, Bool.and_eq_true, beq_iff_eq] at hw hwj
          exact hdst t hw.1 hwj.1
        | B x => exact dr.tr.eff_cmp (c := .B x) (x := some x) rfl him hjm (by omega) hw hwj
        | H => exact dr.tr.eff_cmp (c := .H) (x := none) rfl him hjm (by omega) hw hwj
        | D => simp [wrC] at hw
      have := cmp_iff hd hr (j := j) (by omega) cc
      rw [hL] at this; simp at this; omega)
  rw [← ofList_add (by omega)] at hadd
  refine op_sound hrun ho ri (fun w' a' E' β' n => hK w' a' E' β' ?_)
  rw [hadd]; exact n

theorem closed_set {listed : Array Bool} (hs : listed.size = l.length) (hc : Closed l (ofList listed)) (hi : i ∈ Region.ready .any l.toArray listed) : Closed l (ofList (listed.setIfInBounds i true)) := by
  obtain ⟨hlt, hno, hall⟩ := mem_ready' hs hi
  rw [ofList_add (by omega)]
  exact closed_add hc hall

theorem draw_normal (dr : Drawn P fh l m S R Wf) (hm : m = l.length) {Q : Exit → Act → World → Prop} : ∀ (fuel : Nat) (listed : Array Bool) (w : World) (a : Act) (E : Env) (β : Nat → Option Nat), listed.size = l.length → Closed l (ofList listed) →
    ((List.range l.length).filter (fun j => !ofList listed j)).length ≤ fuel → RI w a E β (mg Wf m (S 0) (ofList listed)) →
    (∀ w' a' E' β', Next w E β (mg Wf m (S 0) (ofList listed)).H w' a' E' β' (S m) → Q .normal a' w') → wpAny P .any l.toArray Q fuel listed a w := by
  have done : ∀ (listed : Array Bool) (w : World) (a : Act) (E : Env) (β : Nat → Option Nat), (∀ j, j < l.length → ofList listed j = true) → RI w a E β (mg Wf m (S 0) (ofList listed)) → (∀ w' a' E' β', Next w E β (mg Wf m (S 0) (ofList listed)).H w' a' E' β' (S m) → Q .normal a' w') → Q .normal a w := by
    intro listed w a E β hall ri hQ
    have e : mg Wf m (S 0) (ofList listed) = S m := by
      rw [dr.tr.text m (Nat.le_refl _)]
      unfold mg
      congr 1
      apply List.filter_congr
      intro j hj
      have := List.mem_range.1 hj
      rw [hall j (by omega)]
      simp [this]
    rw [e] at ri hQ
    exact hQ w a E β ⟨ri, .refl, fun _ _ h => .inl h⟩
  intro fuel
  induction fuel with
  | zero =>
    intro listed w a E β hs hc hf ri hQ
    have hall : ∀ j, j < l.length → ofList listed j = true := fun j hj => by
      cases hL : ofList listed j with
      | true => rfl
      | false =>
        have hm : j ∈ (List.range l.length).filter (fun j => !ofList listed j) := List.mem_filter.2 ⟨List.mem_range.2 hj, by simp [hL]⟩
        rw [List.eq_nil_of_length_eq_zero (Nat.le_zero.1 hf)] at hm; simp at hm
    refine ⟨?_, done listed w a E β hall ri hQ⟩
    cases hr : Region.ready .any l.toArray listed with
    | nil => rfl
    | cons j js =>
      obtain ⟨hlt, hno, _⟩ := mem_ready' hs (j := j) (by rw [hr]; simp)
      rw [hall j hlt] at hno; cases hno
  | succ fuel ih =>
    intro listed w a E β hs hc hf ri hQ
    refine ⟨fun hnil => done listed w a E β (fun j hj => ?_) ri hQ, fun i hi => ?_⟩
    · cases hL : ofList listed j with
      | true => rfl
      | false => exact absurd hnil (ready_some dr.edges hs hj hL)
    · obtain ⟨hlt, hno, hall⟩ := mem_ready' hs hi
      refine draw_step dr hs hc hi (by omega) ri (fun w' a' E' β' n => ?_)
      refine ih _ w' a' E' β' (by simpa using hs) (closed_set hs hc hi) ?_ n.ri (fun w2 a2 E2 β2 n2 => hQ w2 a2 E2 β2 (n.trans n2))
      have := count_add (n := l.length) (L := ofList listed) hlt hno
      rw [ofList_add (by omega)]
      show ((List.range l.length).filter (fun j => !(j == i || ofList listed j))).length ≤ fuel
      omega

theorem draw_panic (dr : Drawn P fh l m S R Wf) {Q : Exit → Act → World → Prop} {p : AVal} {s' : RS} (hom : l[m]? = some o) (hpan : OpPan P fh l o (S m) p s') (hbeh : behind l.length (Region.before l.toArray) m = true)
    (hH : ∀ j, j < m → wrC .H (Wf j) = true → cmpB (Region.before l.toArray) j m = true) : ∀ (fuel : Nat) (listed : Array Bool) (w : World) (a : Act) (E : Env) (β : Nat → Option Nat), listed.size = l.length → Closed l (ofList listed) → (∀ j, ofList listed j = true → j < m) →
    ((List.range l.length).filter (fun j => !ofList listed j)).length ≤ fuel → RI w a E β (mg Wf m (S 0) (ofList listed)) →
    (∀ w' a' E' β' c s2, RI w' a' E' β' s2 → s2.H = s'.H → s2.D = s'.D → s2.T.length = (S 0).T.length → s2.B.length = (S 0).B.length → (∀ t, (∀ o ∈ l, o.dst ≠ some t) → s2.T.getD t .undef = (S 0).T.getD t .undef ∧ s2.G.getD t none = none) →
      Evo (Xβ β) w E (mg Wf m (S 0) (ofList listed)).H w' E' s2.H → (∀ t b, β' t = some b → β t = some b ∨ w.heap.size ≤ b) → Rep w' E' s2.H p c → Q (.panic [{ v := c, recovered := false }]) a' w') →
    wpAny P .any l.toArray Q fuel listed a w := by
  have hml : m < l.length := (List.getElem?_eq_some_iff.1 hom).1
  intro fuel
  induction fuel with
  | zero =>
    intro listed w a E β hs hc hlm hf ri hQ
    have hm : m ∈ (List.range l.length).filter (fun j => !ofList listed j) := List.mem_filter.2 ⟨List.mem_range.2 hml, by
      cases hL : ofList listed m with
      | false => rfl
      | true => have := hlm m hL; omega⟩
    rw [List.eq_nil_of_length_eq_zero (Nat.le_zero.1 hf)] at hm; simp at hm
  | succ fuel ih =>
    intro listed w a E β hs hc hlm hf ri hQ
    have hmno : ofList listed m = false := by
      cases hL : ofList listed m with
      | false => rfl
      | true => have := hlm m hL; omega
    refine ⟨fun hnil => absurd hnil (ready_some dr.edges hs hml hmno), fun i hi => ?_⟩
    obtain ⟨hlt, hno, hall⟩ := mem_ready' hs hi
    have hd := closed_down dr.edges hc
    have hr := ready_of dr.edges hc hno hall
    rcases Nat.lt_trichotomy i m with him | him | him
    · refine draw_step dr hs hc hi him ri (fun w' a' E' β' n => ?_)
      refine ih _ w' a' E' β' (by simpa using hs) (closed_set hs hc hi) (fun j hj => ?_) ?_ n.ri (fun w2 a2 E2 β2 c s2 r0 r1 r2 r3 r4 r5 ev nw rp => hQ w2 a2 E2 β2 c s2 r0 r1 r2 r3 r4 r5 (n.evo.trans ev (fun b hb => ?_)) (fun t b hb => ?_) rp)
      · rw [ofList_add (by omega)] at hj
        simp only [Bool.or_eq_true, beq_iff_eq] at hj
        rcases hj with rfl | hj
        · exact him
        · exact hlm j hj
      · have := count_add (n := l.length) (L := ofList listed) hlt hno
        rw [ofList_add (by omega)]
        show ((List.range l.length).filter (fun j => !(j == i || ofList listed j))).length ≤ fuel
        omega
      · obtain ⟨t, ht⟩ := hb
        exact (n.new t b ht).imp (fun g => ⟨t, g⟩) id
      · rcases nw t b hb with g | g
        · exact n.new t b g
        · exact .inr (Nat.le_trans n.evo.size g)
    · subst him
      -- the panic, where it stands
      have hfit : ∀ t, t ∈ namesOf l o → (mg Wf i (S 0) (ofList listed)).T.getD t .undef = (S i).T.getD t .undef ∧ (mg Wf i (S 0) (ofList listed)).G.getD t none = (S i).G.getD t none := fun t ht => names_req dr.tr dr.names hd hr (Nat.le_refl _) hom ht
      have hheap : (mg Wf i (S 0) (ofList listed)).H = (S i).H := heap_req dr.tr hd hr (Nat.le_refl _) (fun j hj hne hw => by rw [cmp_comm]; exact hH j hj hw)
      have hD : (mg Wf i (S 0) (ofList listed)).D = (S i).D := dr.tr.agree (c := .D) (Nat.le_refl _) (fun j hj hw => by simp [wrC] at hw)
      have rest : ∀ t, (∀ o ∈ l, o.dst ≠ some t) → (mg Wf i (S 0) (ofList listed)).T.getD t .undef = (S 0).T.getD t .undef ∧ (mg Wf i (S 0) (ofList listed)).G.getD t none = none := fun t ht => by
        have hsk : ∀ j, j < i → (Wf j).dst ≠ some t := fun j hj => by
          obtain ⟨oj, hoj⟩ := op_at dr.tr hj
          rw [(dr.tr.dst j _ hj hoj).1]
          exact ht _ (List.mem_of_getElem? hoj)
        have q1 : REq (.T t) (mg Wf i (S 0) (ofList listed)) (S 0) := foldW_skip _ _ _ (fun j hj => by
          have := hsk j (List.mem_range.1 (List.mem_filter.1 hj).1)
          simpa [wrC] using this) .refl
        have q2 : REq (.G t) (mg Wf i (S 0) (ofList listed)) (S 0) := foldW_skip _ _ _ (fun j hj => by
          have := hsk j (List.mem_range.1 (List.mem_filter.1 hj).1)
          simp [wrC, this]) .refl
        exact ⟨q1.2, q2.2.trans (dr.G0 t)⟩
      have lens := mg_len (Wf := Wf) (m := i) (s0 := S 0) (L := ofList listed)
      cases hpan with
      | pan x t v hg hcg htag hkind hif =>
        have hx : aeval (mg Wf i (S 0) (ofList listed)).T x = aeval (S i).T x := aeval_fit hfit (by rw [kind_pan hkind]; simp [Op.operands])
        refine pan_sound (fh := fh) (.pan x t v (guard_fit hfit (free_req dr.tr dr.G0 dr.names dr.guards hd hr (Nat.le_refl _) hom hg.2.1) hg) hcg (okOp_fit hfit htag) hkind (by rw [hx]; exact hif)) hom ri (fun w' E' c f => ?_)
        exact hQ w' a E' β c _ f.ri hheap hD lens.1 lens.2.2 rest f.evo (fun _ _ h => .inl h) f.rep
      | call f args g caps _ H1 hg hgv htag hkind hf' hn hcall =>
        have ha : aeval (mg Wf i (S 0) (ofList listed)).T f = aeval (S i).T f ∧ args.toList.map (aeval (mg Wf i (S 0) (ofList listed)).T) = args.toList.map (aeval (S i).T) := by
          obtain ⟨c, e, hcc, hca⟩ := kind_call hkind
          refine ⟨aeval_fit hfit (by rw [e]; simp [Op.operands, Call.operands, hcc]), List.map_congr_left fun x hx => aeval_fit hfit ?_⟩
          rw [e]
          have hx' : x ∈ args := by simpa using hx
          simp [Op.operands, Call.operands, hcc, hca, hx']
        refine pan_sound (fh := fh) (.call f args g caps p H1 (guard_fit hfit (free_req dr.tr dr.G0 dr.names dr.guards hd hr (Nat.le_refl _) hom hg.2.1) hg) ((gv_fit hfit).trans hgv) (okOp_fit hfit htag) hkind (by rw [ha.1]; exact hf') (by rw [ha.2]; exact hn) (by rw [ha.2, hheap]; exact hcall)) hom ri (fun w' E' c f => ?_)
        exact hQ w' a E' β c _ f.ri rfl hD lens.1 lens.2.2 rest f.evo (fun _ _ h => .inl h) f.rep
    · exfalso
      have hb : ((Region.before l.toArray).getD i 0).testBit m = true := by
        unfold behind at hbeh
        simp only [List.all_eq_true] at hbeh
        have := hbeh i (List.mem_range.2 hlt)
        simp only [Bool.or_eq_true, decide_eq_true_eq] at this
        rcases this with g | g
        · omega
        · exact g
      have := hr.ahead m him hb
      rw [hmno] at this; cases this

theorem closed_none : Closed l (ofList (Array.replicate l.length false)) := by
  intro j o ho hL
  unfold ofList at hL
  rw [Array.getD_eq_getD_getElem?, Array.getElem?_replicate] at hL
  split at hL <;> simp at hL
theorem mg_none : mg Wf m (S 0) (ofList (Array.replicate l.length false)) = S 0 := by
  have : (List.range m).filter (ofList (Array.replicate l.length false)) = [] := by
    rw [List.filter_eq_nil_iff]
    intro j _ hL
    unfold ofList at hL
    rw [Array.getD_eq_getD_getElem?, Array.getElem?_replicate] at hL
    split at hL <;> simp at hL
  unfold mg; rw [this]; rfl
theorem drawn_world (ci : CI w a E β st) : CI { w with drawn := w.drawn + 1 } a E β st := by
  have hs : Sees w E st.H { w with drawn := w.drawn + 1 } E st.H := ⟨fun b hb => ⟨hb, rfl⟩, fun k hk => ⟨hk, rfl⟩, fun k sz u hk => ⟨u, hk, Nat.le_refl _, fun _ => ⟨rfl, fun _ => rfl⟩⟩⟩
  exact ⟨ci.fs.keep (ci.fs.sim.keep hs (fun k hk => rfl) (Nat.le_refl _)) hs (Nat.le_refl _) (fun t b hb => (ci.fs.box t b hb).1) (fun t b hb k hk => (ci.fs.box t b hb).2.2.1 k hk) (fun t b hb => rfl), ci.bad, ci.tag, ci.defs.mono hs⟩
theorem drawn_evo {X : Nat → Prop} (ev : Evo X { w with drawn := w.drawn + 1 } E H w' E' H') : Evo X w E H w' E' H' :=
  ⟨ev.size, ev.kept, ev.immKept, ev.immNew, ev.var, ev.arr, ev.phi, ev.len, ev.tape, ev.os, ev.output⟩

theorem draw_sound (hh : HOK P h) {id : Nat} {ops : Array Oper} {k : Kont} {out : Out} (hi : iRegion P h fh ops true st k = some out) : ∃ e st', CodeOK P (.region id ops true) st e st' ∧ k e st' = some out := by
  simp only [iRegion, withUntag_eq, iOps_eq] at hi
  split at hi
  case isFalse => simp at hi
  rename_i hst
  simp only [Bool.and_eq_true] at hst
  obtain ⟨⟨hfol, hstat⟩, hall⟩ := hst
  unfold staticOk at hstat
  simp only [Bool.and_eq_true] at hstat
  obtain ⟨⟨hn, hed⟩, hg⟩ := hstat
  have hA : ∀ o ∈ ops.toList, isAl o = true → st.T.any (pointsTo (o.dst.getD 0)) = false := by
    intro o ho ha
    unfold allocsFree at hall
    have := List.all_eq_true.1 hall o ho
    unfold isAl at ha
    split at ha
    · rename_i e; rw [e] at this; simpa using this
    · rename_i e; rw [e] at this; simpa using this
    · simp at ha
  have hsize : ops.size = ops.toList.length := by simp
  rcases iOps_run hh _ _ _ _ _ _ (TagInv.none _) hi with ⟨recs, s', h1, h2⟩ | ⟨j, recs, p, s', h1, h2⟩
  · simp only [List.append_nil, Bool.cond_eq_ite] at h2
    split at h2
    case isFalse => simp at h2
    rename_i hdr
    obtain ⟨S, R, hS, hSn, sq⟩ := seq_run (b := Region.before ops) ops.toList 0 _ _ _ h1 rfl hdr (Nat.zero_le _)
    obtain ⟨Wf, tr⟩ := tr_of sq (Nat.le_refl _) (draw_bad _ hdr)
    have dr : Drawn P fh ops.toList ops.toList.length S R Wf := ⟨tr, hn, hed, hg, fun t => by rw [hS]; exact getD_map_none _ _, fun o ho ha => by rw [hS]; exact hA o ho ha⟩
    refine ⟨.normal, _, fun w a E β ci => ?_, h2⟩
    refine wp_region_any hfol ?_
    rw [hsize]
    refine draw_normal dr rfl ops.toList.length _ _ a E β (by simp) closed_none ?_ (by rw [mg_none, hS]; exact drawn_world ci) (fun w' a' E' β' n => ?_)
    · exact Nat.le_trans (List.length_filter_le _ _) (by simp)
    · rw [mg_none, hS] at n
      rw [hSn] at n
      exact ⟨E', β', trivial, n.ri.untag, drawn_evo n.evo, n.new⟩
  · simp only [List.append_nil, Bool.cond_eq_ite] at h2
    split at h2
    case isFalse => simp at h2
    rename_i hdr
    simp only [Bool.and_eq_true] at hdr
    obtain ⟨hbeh, hdr⟩ := hdr
    have hdr' : drawOk P (Region.before ops) recs = true ∧ ∀ x ∈ recs, pairOk P (Region.before ops) x (.pan j) = true := by
      simp only [drawOk, Bool.and_eq_true, List.all_eq_true] at hdr
      exact ⟨hdr.2, hdr.1.1⟩
    obtain ⟨S, R, o, _, hS, hom, hpan, sq⟩ := seq_pan (b := Region.before ops) ops.toList 0 _ _ _ _ _ h1 rfl hdr'.1
    have hjl : j < ops.toList.length := (List.getElem?_eq_some_iff.1 hom).1
    obtain ⟨Wf, tr⟩ := tr_of sq (Nat.le_of_lt hjl) (draw_bad _ hdr'.1)
    have dr : Drawn P fh ops.toList j S R Wf := ⟨tr, hn, hed, hg, fun t => by rw [hS]; exact getD_map_none _ _, fun o ho ha => by rw [hS]; exact hA o ho ha⟩
    refine ⟨.panic p, _, fun w a E β ci => ?_, h2⟩
    refine wp_region_any hfol ?_
    rw [hsize]
    refine draw_panic dr hom hpan hbeh (fun i hi hw => ?_) ops.toList.length _ _ a E β (by simp) closed_none (fun i hi => ?_) ?_ (by rw [mg_none, hS]; exact drawn_world ci) (fun w' a' E' β' c s2 r0 r1 r2 r3 r4 r5 ev nw rp => ?_)
    · have hm := tr.eff_of (c := .H) (x := none) rfl hi hw
      have := hdr'.2 _ (sq.mem i (Nat.zero_le _) hi _ hm)
      simpa [pairOk] using this
    · unfold ofList at hi
      rw [Array.getD_eq_getD_getElem?, Array.getElem?_replicate] at hi
      split at hi <;> simp at hi
    · exact Nat.le_trans (List.length_filter_le _ _) (by simp)
    · rw [mg_none, hS] at ev
      rw [hS] at r3 r4 r5
      have := r0.panicked (st := st) (ops := ops.toList) r5 r3 r4
      rw [r1, r2] at this
      refine ⟨E', β', ⟨c, rfl, by rw [r1] at rp; exact rp⟩, this, by rw [r1] at ev; exact drawn_evo ev, nw⟩

theorem regions_ok (hh : HOK P h) (fh : FH) : RegionsOK P h fh := by
  intro id ops draw st k out hi
  cases draw with
  | false => exact region_sound hh hi
  | true => exact draw_sound hh hi
/-- every loop that is told ahead is told right -/
def LoopsOK (P : Program) (fhs : FuncId → FH) : Prop := ∀ g fn c, P.funcs[g]? = some fn → fn.body = some c → LOk P (fhs g) c
theorem LoopsOK.none {fhs : FuncId → FH} (h : ∀ g i, (fhs g).loops i = none) : LoopsOK P fhs := fun g fn c _ _ => LOk.none (h g) c
theorem mu_sound {spec : Hd} {known : FuncId → Bool} {fhs : FuncId → FH} (hs : HOK P spec) (hl : LoopsOK P fhs) (F n : Nat) : HOK P (iAll P spec known fhs F n) := iAll_sound hs (fun h hh g => ⟨regions_ok hh (fhs g), hl g⟩) n
end Go.Mu
