/-
  Mu: what a call's outcome says, and how it is carried to a larger heap.
-/
import Derived.Test.YtlbmedmddoljnaaDoorMuSound
set_option linter.unusedVariables false
set_option linter.unusedSimpArgs false
namespace Go.Mu
open Go
variable {P : Program} {w w' : World} {E E' : Env} {H H' : Heap}

def No : Nat → Prop := fun _ => False

def Post (w : World) (E : Env) (H : Heap) : Out → Ending → World → Prop
  | .ret v H', .returned c, w' => ∃ E', Evo No w E H w' E' H' ∧ Sim w' E' H' ∧ Rep w' E' H' v c
  | .panic p H', .panicked chain, w' => ∃ E' c, chain = [{ v := c, recovered := false }] ∧ Evo No w E H w' E' H' ∧ Sim w' E' H' ∧ Rep w' E' H' p c
  | _, _, _ => False

def CallOK (P : Program) (g : FuncId) (xs : List AVal) (H : Heap) (o : Out) : Prop :=
  ∀ w E (cs : List Value), Sim w E H → cs.length = xs.length → (∀ j, j < xs.length → Rep w E H (xs.getD j .undef) (cs.getD j undef)) → Calls P g cs.toArray w (Post w E H o)

def HOK (P : Program) (h : Hd) : Prop := ∀ g xs H k out, h g xs H k = some out → ∃ o, CallOK P g xs H o ∧ k o = some out

def outV : Out → AVal
  | .ret v _ => v
  | .panic p _ => p
def outH : Out → Heap
  | .ret _ H => H
  | .panic _ H => H
def outSet (o : Out) (v : AVal) (H : Heap) : Out :=
  match o with
  | .ret _ _ => .ret v H
  | .panic _ _ => .panic v H

/-- the end of a call, seen from elsewhere -/
theorem Post.map {o : Out} {E1 : Env} {H1 : Heap} {v : AVal} {e : Ending} {w0 w' : World} {H2 : Heap} (h : Post w0 E1 H1 o e w')
    (hm : ∀ E' c, Evo No w0 E1 H1 w' E' (outH o) → Sim w' E' (outH o) → Rep w' E' (outH o) (outV o) c → ∃ E'', Evo No w E H w' E'' H2 ∧ Sim w' E'' H2 ∧ Rep w' E'' H2 v c) : Post w E H (outSet o v H2) e w' := by
  cases o with
  | ret u Hn =>
    cases e with
    | returned c =>
      obtain ⟨E', h1, h2, h3⟩ := h
      exact hm E' c h1 h2 h3
    | panicked _ => exact h
    | outgrown => exact h
  | panic u Hn =>
    cases e with
    | returned c => exact h
    | panicked chain =>
      obtain ⟨E', c, hc, h1, h2, h3⟩ := h
      obtain ⟨E'', k1, k2, k3⟩ := hm E' c h1 h2 h3
      exact ⟨E'', c, hc, k1, k2, k3⟩
    | outgrown => exact h

theorem sim_nil {imm : Nat → Prop} (h : ∀ b, imm b → b < w.heap.size) (hg : GlobOK w imm) (φ cap : Nat → Nat) : Sim w ⟨imm, φ, cap⟩ [] :=
  ⟨h, fun k cs hc => by simp at hc, fun k sz rows u hc => by simp at hc, fun k hk => by
    have := live_lt hk; simp at this, fun k l hk => by have := live_lt hk; simp at this, fun j t n h => by simp at h, hg⟩
theorem live_nil {E : Env} {k : Nat} : ¬ live E [] k := fun h => by have := live_lt h; simp at this

/-- what a call in an empty heap leaves alone -/
theorem lift_evo {imm0 : Nat → Prop} {φ cap : Nat → Nat} {E0' : Env} {H0' : Heap} (hi : ∀ b, E.imm b → imm0 b) (ev : Evo No w ⟨imm0, φ, cap⟩ [] w' E0' H0') (hs : Sim w E H) {imm' : Nat → Prop} (h1 : ∀ b, E.imm b → imm' b) (h2 : ∀ b, imm' b → E.imm b ∨ (E0'.imm b ∧ w.heap.size ≤ b))
    (hs' : Sim w' E0' H0') : Evo No w E H w' ⟨imm', E.φ, E.cap⟩ H ∧ Sim w' ⟨imm', E.φ, E.cap⟩ H := by
  have kept : ∀ b, b < w.heap.size → w'.heap[b]? = w.heap[b]? := fun b hb => ev.kept b hb (fun h => h) (fun k hk => absurd hk live_nil)
  have e1 : Evo No w E H w' ⟨imm', E.φ, E.cap⟩ H := by
    refine ⟨ev.size, fun b hb _ _ => kept b hb, fun b hb => ⟨h1 b hb, kept b (hs.immLt b hb)⟩, fun b hb => ?_, fun k hk => ⟨hk, rfl⟩, fun k sz u hk => ⟨u, hk, Nat.le_refl _, fun _ => ⟨rfl, fun _ => rfl⟩⟩,
      fun k hk => .inr ⟨hk, rfl⟩, Nat.le_refl _, ev.tape, ev.os, ev.output⟩
    rcases h2 b hb with h | h
    · exact .inl h
    · exact .inr h.2
  refine ⟨e1, ⟨fun b hb => ?_, fun k cs hc => ?_, fun k sz rows u hc => ?_, fun k hk => ⟨fun hb => ?_, ?_⟩, fun k l hk hl he => hs.inj k l hk hl he, fun j t n hj hl => (hs.note j t n hj hl).same (kept _ (hs.apart _ hl).2), hs.glob.mono e1.sees.imm⟩⟩
  · rcases h2 b hb with h | h
    · exact Nat.lt_of_lt_of_le (hs.immLt b h) ev.size
    · exact hs'.immLt b h.1
  · exact (hs.var k cs hc).mono e1.sees (kept _ (hs.apart k (.inl (var_of_get hc))).2)
  · obtain ⟨g1, g2, g3, g4⟩ := hs.arr k sz rows u hc
    exact ⟨g1, g2, g3, fun hcap => (g4 hcap).mono e1.sees (kept _ (hs.apart k (.inr ⟨⟨sz, u, arr_of_get hc⟩, hcap⟩)).2)⟩
  · have := hs.apart k hk
    rcases h2 _ hb with h | h
    · exact this.1 h
    · exact absurd this.2 (Nat.not_lt.2 h.2)
  · exact Nat.lt_of_lt_of_le (hs.apart k hk).2 ev.size

theorem getD_mem {l : List AVal} {j : Nat} (h : j < l.length) : l.getD j .undef ∈ l := by
  rw [List.getD_eq_getElem?_getD, List.getElem?_eq_getElem h]; exact List.getElem_mem h

/-- plain arguments: the call does not see the heap -/
theorem CallOK.lift {g : FuncId} {xs : List AVal} {o : Out} (h : CallOK P g xs [] o) (hx : xs.all isPure = true) (hv : isPure (outV o) = true) (H : Heap) : CallOK P g xs H (outSet o (outV o) H) := by
  intro w E cs hs hl hr
  have h0 := h w ⟨E.imm, E.φ, E.cap⟩ cs (sim_nil hs.immLt hs.glob _ _) hl (fun j hj => .pure _ _ (isPure_rep (List.all_eq_true.1 hx _ (getD_mem hj)) (hr j hj)))
  refine Calls.mono h0 (fun e w' hp => hp.map (fun E0' c ev hs' hrep => ?_))
  obtain ⟨k1, k2⟩ := lift_evo (imm' := E0'.imm) (fun b hb => hb) ev hs (fun b hb => (ev.immKept b hb).1) (fun b hb => (ev.immNew b hb).imp id (fun g => ⟨hb, g⟩)) hs'
  exact ⟨_, k1, k2, .pure _ _ (isPure_rep (E := E0') hv hrep)⟩

/-- the blocks that a value lent out lies in -/
def lent (E : Env) (H : Heap) (b : Nat) : Prop := E.imm b ∨ ∃ k, live E H k ∧ E.φ k = b

theorem RepP.imm {imm imm' : Nat → Prop} {v : AVal} {c : Value} (h : ∀ b, imm b → imm' b) (r : RepP w imm v c) : RepP w imm' v c := r.mono (fun b hb => ⟨h b hb, rfl⟩)

theorem borrow_rep (hs : Sim w E H) {x : AVal} {c : Value} (hx : borrowOk H x = true) (r : Rep w E H x c) : RepP w (lent E H) (borrowV H x) c := by
  have base : isPure x = true → borrowV H x = x → RepP w (lent E H) (borrowV H x) c := fun hp e => by
    rw [e]; exact (isPure_rep hp r).imm (fun b hb => .inl hb)
  cases x with
  | own k off len ver clip =>
    simp only [borrowOk] at hx
    split at hx
    · rename_i sz rows u hk
      simp only [Bool.and_eq_true, beq_iff_eq, decide_eq_true_eq] at hx
      obtain ⟨⟨rfl, hle⟩, hall⟩ := hx
      obtain ⟨ao, cap, sz', u', rfl, g1, g2, g3⟩ := rep_own r
      rw [arr_of_get hk] at g1
      simp only [Option.some.injEq, Prod.mk.injEq] at g1
      obtain ⟨rfl, rfl⟩ := g1
      obtain ⟨s1, s2, s3, s4, s5⟩ := g3 rfl
      obtain ⟨k1, k2, k3, k4⟩ := hs.arr k sz rows u hk
      simp only [borrowV, hk]
      by_cases h0 : len = 0
      · subst h0; exact .list0 _ _ _ _ (fun h => by simp at h)
      · have hcap : E.cap k ≠ 0 := by omega
        have hlv : live E H k := .inr ⟨⟨sz, u, arr_of_get hk⟩, hcap⟩
        obtain ⟨ds, ty, fr, b1, b2, b3, b4⟩ := k4 hcap
        rw [s5 hcap (.inl h0)]
        have cellq : ∀ m j, m < len → j < sz → ∃ c, ds[(off + m) * sz + j]? = some c ∧ c.oneCell' = true ∧ RepP w E.imm ((rows.getD (off + m) []).getD j .undef) c := fun m j hm hj => by
          have hlt : off + m < rows.length := by omega
          have hrl := k3 _ (List.getElem_mem hlt)
          have hrow : rows.getD (off + m) [] = rows[off + m] := by rw [List.getD_eq_getElem?_getD, List.getElem?_eq_getElem hlt]; rfl
          obtain ⟨c, c1, c2, c3⟩ := b4 ((off + m) * sz + j) (rows[off + m].getD j .undef) (by
            show cellAt sz rows ((off + m) * sz + j) = _
            unfold Mu.cellAt
            rw [show ((off + m) * sz + j) / sz = off + m by rw [Nat.mul_comm, Nat.mul_add_div k1, Nat.div_eq_of_lt hj, Nat.add_zero], show ((off + m) * sz + j) % sz = j by rw [Nat.mul_comm, Nat.mul_add_mod, Nat.mod_eq_of_lt hj],
              List.getElem?_eq_getElem hlt]
            exact getD_some _ (by omega))
          refine ⟨c, c1, c2, ?_⟩
          rw [hrow]
          exact isPure_rep (List.all_eq_true.1 (List.all_eq_true.1 hall _ (List.getElem_mem hlt)) _ (getD_mem (by omega))) c3
        refine .list false len _ (E.φ k) (off * sz) cap sz (fun i j => ds.getD ((off + i) * sz + j) undef) s1 (fun h => by simp at h) (.inr ⟨k, hlv, rfl⟩) (fun i hi => ?_) (fun i j hi hj => ?_) (fun i j hi hj => ?_)
        · have hlt : off + i < rows.length := by omega
          rw [List.getD_eq_getElem?_getD, List.getElem?_eq_getElem hlt]
          exact k3 _ (List.getElem_mem hlt)
        · obtain ⟨c, c1, c2, c3⟩ := cellq i j hi hj
          rw [cell?_block b1, ← Nat.add_mul, c1]
          simp [c1, c2]
        · obtain ⟨c, c1, c2, c3⟩ := cellq i j hi hj
          simp only [Array.getD_eq_getD_getElem?, c1, Option.getD_some]
          exact c3.imm (fun b hb => .inl hb)
    · simp at hx
  | _ => exact base hx rfl

theorem flat_pureD : ∀ (d : Nat) (v : AVal), flatD d v = true → pureD d v = true := by
  intro d
  induction d with
  | zero => intro v h; simp [flatD] at h
  | succ d ih =>
    intro v h
    cases v <;> simp only [flatD, pureD, List.all_eq_true, Bool.false_eq_true] at h ⊢
    · exact ih _ h
    · exact fun x hx => ih _ (h x hx)
    · exact fun x hx => ih _ (h x hx)
theorem flat_pure (d : Nat) (v : AVal) (c : Value) (h : flatD d v = true) (r : Rep w E H v c) : RepP w E.imm v c := pureD_rep d v c (flat_pureD d v h) r

/-- arrays lent out to a call that hands plain scalars back -/
theorem CallOK.borrow {g : FuncId} {xs : List AVal} {o : Out} (h : CallOK P g (xs.map (borrowV H)) [] o) (hx : xs.all (borrowOk H) = true) (hv : isFlat (outV o) = true) : CallOK P g xs H (outSet o (outV o) H) := by
  intro w E cs hs hl hr
  have hlt : ∀ b, lent E H b → b < w.heap.size := fun b hb => by
    rcases hb with hb | ⟨k, hk, rfl⟩
    · exact hs.immLt b hb
    · exact (hs.apart k hk).2
  have h0 := h w ⟨lent E H, E.φ, E.cap⟩ cs (sim_nil hlt (hs.glob.mono (fun b hb => ⟨.inl hb, rfl⟩)) _ _) (by simpa using hl) (fun j hj => by
    have hj' : j < xs.length := by simpa using hj
    have e : (xs.map (borrowV H)).getD j .undef = borrowV H (xs.getD j .undef) := by
      simp [List.getD_eq_getElem?_getD, List.getElem?_eq_getElem hj']
    rw [e]
    exact .pure _ _ (borrow_rep hs (List.all_eq_true.1 hx _ (getD_mem hj')) (hr j hj')))
  refine Calls.mono h0 (fun e w' hp => hp.map (fun E0' c ev hs' hrep => ?_))
  have hpure : RepP w' E0'.imm (outV o) c := by
    have : ∀ v, isFlat v = true → Rep w' E0' (outH o) v c → RepP w' E0'.imm v c := fun v hf r => by
      exact flat_pure 4 v c hf r
    exact this _ hv hrep
  obtain ⟨k1, k2⟩ := lift_evo (imm' := E.imm) (fun b hb => .inl hb) ev hs (fun b hb => hb) (fun b hb => .inl hb) hs'
  exact ⟨_, k1, k2, .pure _ _ (flatD_rep 4 _ _ hv hpure)⟩

theorem callA_sound {h : Hd} (hh : HOK P h) {fh : FH} {g : FuncId} {xs : List AVal} {k : Out → Ans} {out : Out} (hc : callA h fh g xs H k = some out) :
    ∃ o, CallOK P g xs H o ∧ k o = some out ∧ xs.all noTmp = true ∧ (quietCall fh g xs = true → outH o = H) ∧ (quietCall fh g xs = true → xs.all isPure = true → ∀ H2, CallOK P g xs H2 (outSet o (outV o) H2)) := by
  have pn : ∀ x, isPure x = true → noTmp x = true := fun x hx => by
    cases x <;> simp_all [isPure, pureD, noTmp]
  unfold callA at hc
  split at hc
  · rename_i hp0
    have hp := (Bool.and_eq_true_iff.1 hp0).1
    obtain ⟨o, ho, hk⟩ := hh _ _ _ _ _ hc
    have hnt : xs.all noTmp = true := List.all_eq_true.2 fun x hx => pn x (List.all_eq_true.1 hp x hx)
    cases o with
    | ret v H1 =>
      simp only at hk
      split at hk
      · rename_i hv
        exact ⟨.ret v H, ho.lift hp hv H, hk, hnt, fun _ => rfl, fun _ _ H2 => ho.lift hp hv H2⟩
      · simp at hk
    | panic v H1 =>
      simp only at hk
      split at hk
      · rename_i hv
        exact ⟨.panic v H, ho.lift hp hv H, hk, hnt, fun _ => rfl, fun _ _ H2 => ho.lift hp hv H2⟩
      · simp at hk
  · rename_i hp
    split at hc
    · rename_i hq
      rw [Bool.cond_eq_ite] at hc
      split at hc
      · rename_i hb
        have hnt : xs.all noTmp = true := List.all_eq_true.2 fun x hx => by
          have := List.all_eq_true.1 (Bool.and_eq_true_iff.1 (Bool.and_eq_true_iff.1 hq).1).1 x hx
          rcases Bool.or_eq_true_iff.1 this with h | h
          · exact pn x h
          · cases x <;> simp_all [isOwn, noTmp]
        obtain ⟨o, ho, hk⟩ := hh _ _ _ _ _ hc
        cases o with
        | ret v H1 =>
          simp only at hk
          split at hk
          · rename_i hv
            exact ⟨.ret v H, ho.borrow hb hv, hk, hnt, fun _ => rfl, fun e1 e => by
              have hth : (!fh.thaw.contains g) = true := (Bool.and_eq_true_iff.1 hq).2
              exact absurd (Bool.and_eq_true_iff.2 ⟨e, hth⟩) hp⟩
          · simp at hk
        | panic v H1 =>
          simp only at hk
          split at hk
          · rename_i hv
            exact ⟨.panic v H, ho.borrow hb hv, hk, hnt, fun _ => rfl, fun e1 e => by
              have hth : (!fh.thaw.contains g) = true := (Bool.and_eq_true_iff.1 hq).2
              exact absurd (Bool.and_eq_true_iff.2 ⟨e, hth⟩) hp⟩
          · simp at hk
      · simp at hc
    · rename_i hq
      rw [Bool.cond_eq_ite] at hc
      split at hc
      · rename_i hb
        obtain ⟨o, ho, hk⟩ := hh _ _ _ _ _ hc
        have hnq : quietCall fh g xs = true → False := fun e => by
          unfold quietCall at e
          rcases Bool.or_eq_true_iff.1 e with h | h
          · exact absurd h hp
          · exact absurd h hq
        refine ⟨o, ho, hk, hb, fun e => (hnq e).elim, fun e => (hnq e).elim⟩
      · simp at hc
end Go.Mu
