/-
  Mu: what is handed on as plain data; all of the program.
-/
import Derived.Test.YtlbmedmddoljnaaDoorMuAll
set_option linter.unusedVariables false
set_option linter.unusedSimpArgs false
namespace Go.Mu
open Go
variable {P : Program} {h : Hd} {fh : FH} {fhs : FuncId → FH} {w w' : World} {a : Act} {E E' : Env} {H H' : Heap}

theorem mapM_some {α β : Type} {f : α → Option β} : ∀ {l : List α} {l' : List β}, l.mapM f = some l' → l'.length = l.length ∧ ∀ (i : Nat) (x : α), l[i]? = some x → ∃ y, l'[i]? = some y ∧ f x = some y
  | [], l', h => by
    simp at h; subst h
    exact ⟨rfl, fun i x hx => by simp at hx⟩
  | x :: l, l', h => by
    rw [List.mapM_cons] at h
    cases hx : f x with
    | none => rw [hx] at h; simp at h
    | some y =>
      cases hl : l.mapM f with
      | none => rw [hx, hl] at h; simp at h
      | some ys =>
        rw [hx, hl] at h
        simp at h
        subst h
        obtain ⟨g1, g2⟩ := mapM_some hl
        refine ⟨by simp [g1], fun i z hz => ?_⟩
        cases i with
        | zero => simp at hz; subst hz; exact ⟨y, rfl, hx⟩
        | succ i => exact g2 i z (by simpa using hz)
theorem lent_imm (b : Nat) (h : E.imm b) : lent E H b := .inl h

theorem freeze_rep (sim : Sim w E H) : ∀ (d : Nat) (v v' : AVal) (c : Value), freezeV H d v = some v' → Rep w E H v c → RepP w (lent E H) v' c := by
  intro d
  induction d with
  | zero => intro v v' c h; simp [freezeV] at h
  | succ d ih =>
    intro v v' c h r
    have cells : ∀ (cs cs' : List AVal) (ds : List Value), cs.mapM (freezeV H d) = some cs' → cs.length = ds.length → (∀ j, j < cs.length → Rep w E H (cs.getD j .undef) (ds.getD j undef)) → cs'.length = ds.length ∧ ∀ j, j < cs'.length → RepP w (lent E H) (cs'.getD j .undef) (ds.getD j undef) := by
      intro cs cs' ds hm hl hr
      obtain ⟨g1, g2⟩ := mapM_some hm
      refine ⟨by omega, fun j hj => ?_⟩
      obtain ⟨y, k1, k2⟩ := g2 j _ (getD_some .undef (show j < cs.length by omega))
      have e : cs'.getD j .undef = y := by rw [List.getD_eq_getElem?_getD, k1]; rfl
      rw [e]
      exact ih _ _ _ k2 (hr j (by omega))
    have base : (if isPure v = true then some v else none) = some v' → RepP w (lent E H) v' c := fun hh => by
      split at hh
      · rename_i hp
        simp only [Option.some.injEq] at hh
        subst hh
        exact (isPure_rep hp r).imm lent_imm
      · simp at hh
    cases v <;> simp only [freezeV] at h
    case own k off len ver clip =>
      split at h
      case h_2 => simp at h
      rename_i sz rows u hk
      split at h
      case isFalse => simp at h
      rename_i hc
      simp only [Bool.and_eq_true, beq_iff_eq, decide_eq_true_eq] at hc
      obtain ⟨rfl, hle⟩ := hc
      split at h
      case h_2 => simp at h
      rename_i rows' hrows
      simp only [Option.some.injEq] at h
      subst h
      obtain ⟨ao, cap, sz', u', rfl, g1, g2, g3⟩ := rep_own r
      rw [arr_of_get hk] at g1
      simp only [Option.some.injEq, Prod.mk.injEq] at g1
      obtain ⟨rfl, rfl⟩ := g1
      obtain ⟨s1, s2, s3, s4, s5⟩ := g3 rfl
      obtain ⟨k1, k2, k3, k4⟩ := sim.arr k sz rows u hk
      by_cases h0 : len = 0
      · subst h0; exact .list0 _ _ _ _ (fun h => by simp at h)
      · have hcap : E.cap k ≠ 0 := by omega
        have hlv : live E H k := .inr ⟨⟨sz, u, arr_of_get hk⟩, hcap⟩
        obtain ⟨ds, ty, fr, b1, b2, b3, b4⟩ := k4 hcap
        rw [s5 hcap (.inl h0)]
        obtain ⟨m1, m2⟩ := mapM_some hrows
        have rowq : ∀ i, i < len → ∃ hlt : off + i < rows.length, ∃ row', rows'.getD i [] = row' ∧ rows[off + i].mapM (freezeV H d) = some row' := fun i hi => by
          have hlt : off + i < rows.length := by omega
          have : ((rows.drop off).take len)[i]? = some rows[off + i] := by
            rw [List.getElem?_take_of_lt hi, List.getElem?_drop, List.getElem?_eq_getElem hlt]
          obtain ⟨y, q1, q2⟩ := m2 i _ this
          exact ⟨hlt, y, by rw [List.getD_eq_getElem?_getD, q1]; rfl, q2⟩
        have cellq : ∀ m j, m < len → j < sz → ∃ c, ds[(off + m) * sz + j]? = some c ∧ c.oneCell' = true ∧ RepP w (lent E H) ((rows'.getD m []).getD j .undef) c := fun m j hm hj => by
          obtain ⟨hlt, row', q1, q2⟩ := rowq m hm
          have hrl := k3 _ (List.getElem_mem hlt)
          obtain ⟨c, c1, c2, c3⟩ := b4 ((off + m) * sz + j) (rows[off + m].getD j .undef) (by
            show cellAt sz rows ((off + m) * sz + j) = _
            unfold Mu.cellAt
            rw [show ((off + m) * sz + j) / sz = off + m by rw [Nat.mul_comm, Nat.mul_add_div k1, Nat.div_eq_of_lt hj, Nat.add_zero], show ((off + m) * sz + j) % sz = j by rw [Nat.mul_comm, Nat.mul_add_mod, Nat.mod_eq_of_lt hj],
              List.getElem?_eq_getElem hlt]
            exact getD_some _ (by omega))
          refine ⟨c, c1, c2, ?_⟩
          obtain ⟨p1, p2⟩ := mapM_some q2
          obtain ⟨y, q3, q4⟩ := p2 j _ (getD_some .undef (show j < rows[off + m].length by omega))
          rw [q1, List.getD_eq_getElem?_getD, q3]
          exact ih _ _ _ q4 c3
        refine .list false len _ (E.φ k) (off * sz) cap sz (fun i j => ds.getD ((off + i) * sz + j) undef) s1 (fun h => by simp at h) (.inr ⟨k, hlv, rfl⟩) (fun i hi => ?_) (fun i j hi hj => ?_) (fun i j hi hj => ?_)
        · obtain ⟨hlt, row', q1, q2⟩ := rowq i hi
          rw [q1, (mapM_some q2).1]
          exact k3 _ (List.getElem_mem hlt)
        · obtain ⟨c, c1, c2, c3⟩ := cellq i j hi hj
          rw [cell?_block b1, ← Nat.add_mul, c1]
          simp [c1, c2]
        · obtain ⟨c, c1, c2, c3⟩ := cellq i j hi hj
          simp only [Array.getD_eq_getD_getElem?, c1, Option.getD_some]
          exact c3
    case agg cs =>
      obtain ⟨ds, rfl, hl, hr⟩ := rep_agg r
      rw [Option.map_eq_some_iff] at h
      obtain ⟨cs', hm, rfl⟩ := h
      obtain ⟨g1, g2⟩ := cells cs cs' ds hm hl (fun j hj => (hr j hj).2)
      exact .agg cs' ds g1 (fun j hj => (hr j (by omega)).1) g2
    case tuple cs =>
      obtain ⟨ds, rfl, hl, hr⟩ := rep_tuple r
      rw [Option.map_eq_some_iff] at h
      obtain ⟨cs', hm, rfl⟩ := h
      obtain ⟨g1, g2⟩ := cells cs cs' ds hm hl hr
      exact .tuple cs' ds g1 g2
    case iface t x =>
      obtain ⟨dd, rfl, hr⟩ := rep_iface r
      rw [Option.map_eq_some_iff] at h
      obtain ⟨x', hx, rfl⟩ := h
      exact .iface t x' dd (ih _ _ _ hx hr)
    all_goals exact base h

theorem CallOK.freeze {f : FuncId} {xs : List AVal} {o : Out} {v' : AVal} {d : Nat} (hc : CallOK P f xs [] o) (hv : freezeV (outH o) d (outV o) = some v') : CallOK P f xs [] (outSet o v' []) := by
  intro w E cs sim hl hr
  refine Calls.mono (hc w E cs sim hl hr) (fun e w' hp => hp.map (fun E' c ev sim' hrep => ?_))
  have hlt : ∀ b, lent E' (outH o) b → b < w'.heap.size := fun b hb => by
    rcases hb with hb | ⟨k, hk, rfl⟩
    · exact sim'.immLt b hb
    · exact (sim'.apart k hk).2
  refine ⟨⟨lent E' (outH o), id, fun _ => 0⟩, ?_, sim_nil hlt (sim'.glob.mono (fun b hb => ⟨.inl hb, rfl⟩)) _ _, .pure _ _ (freeze_rep sim' d _ _ _ hv hrep)⟩
  refine ⟨ev.size, fun b hb _ _ => ev.kept b hb (fun h => h) (fun k hk => absurd hk live_nil), fun b hb => ⟨.inl (ev.immKept b hb).1, (ev.immKept b hb).2⟩, fun b hb => ?_, fun k hk => by simp [isVar] at hk, fun k sz u hk => by simp [arrInfo] at hk,
    fun k hk => absurd hk live_nil, Nat.le_refl _, ev.tape, ev.os, ev.output⟩
  rcases hb with hb | ⟨k, hk, rfl⟩
  · exact ev.immNew b hb
  · rcases ev.phi k hk with g | ⟨g, _⟩
    · exact .inr g
    · exact absurd g live_nil

theorem iPure_sound (hh : HOK P h) (hr : ∀ g, FnOK P h (fhs g) g) {F : Nat} {f : FuncId} {xs : List AVal} {k : Out → Ans} {out : Out} (hi : iPure P h fhs F f xs k = some out) : ∃ o, CallOK P f xs [] o ∧ k o = some out := by
  unfold iPure at hi
  obtain ⟨o, ho, hk⟩ := iFun_sound hh hr hi
  cases o with
  | ret v H1 =>
    simp only at hk
    split at hk
    · rename_i v' hv
      exact ⟨_, ho.freeze hv, hk⟩
    · simp at hk
  | panic v H1 =>
    simp only at hk
    split at hk
    · rename_i v' hv
      exact ⟨_, ho.freeze hv, hk⟩
    · simp at hk

theorem iAll_sound {spec : Hd} {known : FuncId → Bool} (hs : HOK P spec) (hr : ∀ h, HOK P h → ∀ g, FnOK P h (fhs g) g) {F : Nat} : ∀ n, HOK P (iAll P spec known fhs F n)
  | 0 => fun g xs H k out h => by simp [iAll] at h
  | n + 1 => fun g xs H k out hi => by
    have ih := iAll_sound (known := known) hs hr (F := F) n
    have hr' := hr _ ih
    unfold iAll at hi
    split at hi
    · exact hs _ _ _ _ _ hi
    · split at hi
      · split at hi
        · exact iPure_sound ih hr' hi
        · exact iFun_sound ih hr' hi
      · exact iFun_sound ih hr' hi
end Go.Mu
