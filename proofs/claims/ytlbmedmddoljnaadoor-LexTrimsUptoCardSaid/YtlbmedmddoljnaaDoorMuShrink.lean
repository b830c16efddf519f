/-
  Mu: what no one points at any more at the heap's end may be forgotten.
-/
import Derived.Test.YtlbmedmddoljnaaDoorMuLay
set_option linter.unusedVariables false
set_option linter.unusedSimpArgs false
namespace Go.Mu
open Go
variable {P : Program} {w w' : World} {E E' : Env} {H H' G : Heap}
/-- a value's objects lie ahead of m -/
def refsD : Nat → Nat → AVal → Bool
  | 0, _, _ => false
  | d + 1, m, v => match v with
    | .own k _ _ _ _ => decide (k < m)
    | .ptr (.hp k) _ => decide (k < m)
    | .eptr k _ _ _ => decide (k < m)
    | .func _ cs => cs.all (refsD d m)
    | .iface _ x => refsD d m x
    | .agg cs => cs.all (refsD d m)
    | .tuple cs => cs.all (refsD d m)
    | _ => true
def refsO (m : Nat) : Obj → Bool
  | .var cs => cs.all (refsD 6 m)
  | .arr _ rows _ => rows.all (fun r => r.all (refsD 6 m))
  | .note _ _ => true
theorem isVar_app {k : Nat} (h : k < H.length) : isVar (H ++ G) k = isVar H k := by
  unfold isVar; rw [List.getElem?_append_left h]
theorem arrInfo_app {k : Nat} (h : k < H.length) : arrInfo (H ++ G) k = arrInfo H k := by
  unfold arrInfo; rw [List.getElem?_append_left h]
theorem all_getD_of {cs : List AVal} {p : AVal → Bool} (h : cs.all p = true) {j : Nat} (hj : j < cs.length) : p (cs.getD j .undef) = true := by
  rw [List.getD_eq_getElem?_getD, List.getElem?_eq_getElem hj]
  exact List.all_eq_true.1 h _ (List.getElem_mem hj)
theorem Rep.shrink : ∀ (d : Nat) (v : AVal) (c : Value), refsD d H.length v = true → Rep w E (H ++ G) v c → Rep w E H v c := by
  intro d
  induction d with
  | zero => intro v c h; simp [refsD] at h
  | succ d ih =>
    intro v c hn h
    cases h with
    | pure _ _ h => exact .pure _ _ h
    | own k off len ver clip a cap sz u h1 h2 h3 =>
      simp only [refsD, decide_eq_true_eq] at hn
      rw [arrInfo_app hn] at h1
      exact .own k off len ver clip a cap sz u h1 h2 h3
    | ptrH k off hv =>
      simp only [refsD, decide_eq_true_eq] at hn
      rw [isVar_app hn] at hv
      exact .ptrH k off hv
    | eptr k ver i off p sz u h1 h2 h3 =>
      simp only [refsD, decide_eq_true_eq] at hn
      rw [arrInfo_app hn] at h1
      exact .eptr k ver i off p sz u h1 h2 h3
    | func f caps cs hl hr =>
      simp only [refsD] at hn
      exact .func f caps cs hl (fun j hj => ih _ _ (all_getD_of hn hj) (hr j hj))
    | iface t v c hr => exact .iface t v c (ih _ _ (by simpa [refsD] using hn) hr)
    | agg cells cs hl h1 hr =>
      simp only [refsD] at hn
      exact .agg cells cs hl h1 (fun j hj => ih _ _ (all_getD_of hn hj) (hr j hj))
    | tuple vs cs hl hr =>
      simp only [refsD] at hn
      exact .tuple vs cs hl (fun j hj => ih _ _ (all_getD_of hn hj) (hr j hj))
theorem block_shrink {b n : Nat} {cells : Nat → Option AVal} (hc : ∀ j v, cells j = some v → refsD 6 H.length v = true) (r : Mu.BlockRep w E (H ++ G) b n cells) : Mu.BlockRep w E H b n cells := by
  obtain ⟨ds, ty, fr, h1, h2, h3, h4⟩ := r
  exact ⟨ds, ty, fr, h1, h2, h3, fun j v hv => let ⟨c, g1, g2, g3⟩ := h4 j v hv; ⟨c, g1, g2, g3.shrink 6 v c (hc j v hv)⟩⟩
theorem live_app {k : Nat} (h : live E H k) : live E (H ++ G) k := by
  have hk := live_lt h
  unfold live at h ⊢
  rw [isVar_app hk, arrInfo_app hk]
  exact h
theorem Sim.shrink (hH : ∀ x ∈ H, refsO H.length x = true) (s : Sim w E (H ++ G)) : Sim w E H := by
  have get : ∀ {k : Nat} {x : Obj}, H[k]? = some x → (H ++ G)[k]? = some x := fun {k x} h => by
    rw [List.getElem?_append_left (List.getElem?_eq_some_iff.1 h).1, h]
  refine ⟨s.immLt, fun k cs h => ?_, fun k sz rows u h => ?_, fun k h => s.apart k (live_app h), fun k l h g e => s.inj k l (live_app h) (live_app g) e, fun j t n hj hl => s.note j t n (get hj) (live_app hl), s.glob⟩
  · refine block_shrink (fun j v hv => ?_) (s.var k cs (get h))
    have := hH _ (List.mem_of_getElem? h)
    simp only [refsO] at this
    exact List.all_eq_true.1 this _ (List.mem_of_getElem? hv)
  · obtain ⟨h1, h2, h3, h4⟩ := s.arr k sz rows u (get h)
    refine ⟨h1, h2, h3, fun hc => block_shrink (fun j v hv => ?_) (h4 hc)⟩
    have := hH _ (List.mem_of_getElem? h)
    simp only [refsO] at this
    unfold Mu.cellAt at hv
    rw [Option.bind_eq_some_iff] at hv
    obtain ⟨r, hr, hv⟩ := hv
    exact List.all_eq_true.1 (List.all_eq_true.1 this _ (List.mem_of_getElem? hr)) _ (List.mem_of_getElem? hv)
theorem Evo.shrink {X : Nat → Prop} {H0 : Heap} (hl : H0.length ≤ H.length) (ev : Evo X w E H0 w' E' (H ++ G)) : Evo X w E H0 w' E' H := by
  refine ⟨ev.size, ev.kept, ev.immKept, ev.immNew, fun k hk => ?_, fun k sz u hk => ?_, fun k hk => ev.phi k (live_app hk), hl, ev.tape, ev.os, ev.output⟩
  · have hlt : k < H0.length := live_lt (E := E) (.inl hk)
    have := ev.var k hk
    rwa [isVar_app (by omega)] at this
  · have hlt : k < H0.length := by
      unfold arrInfo at hk
      rcases Nat.lt_or_ge k H0.length with g | g
      · exact g
      · rw [List.getElem?_eq_none g] at hk; cases hk
    have := ev.arr k sz u hk
    rwa [arrInfo_app (by omega)] at this
theorem CallOK.shrink {f : FuncId} {xs : List AVal} {v : AVal} (hc : CallOK P f xs H (.ret v (H' ++ G))) (hl : H.length ≤ H'.length) (hv : refsD 6 H'.length v = true) (hH : ∀ x ∈ H', refsO H'.length x = true) : CallOK P f xs H (.ret v H') := by
  intro w E cs sim hlen hr
  refine Calls.mono (hc w E cs sim hlen hr) (fun e w' hp => ?_)
  cases e with
  | returned c =>
    obtain ⟨E', ev, sim', hrep⟩ := hp
    exact ⟨E', ev.shrink hl, sim'.shrink hH, hrep.shrink 6 _ _ hv⟩
  | panicked _ => exact hp.elim
  | outgrown => exact hp.elim
/- a call that needs a part of the heap alone -/
theorem isVar_app2 {k : Nat} (h : H.length ≤ k) (hl : H'.length = H.length) : isVar (H' ++ G) k = isVar (H ++ G) k := by
  unfold isVar; rw [List.getElem?_append_right h, List.getElem?_append_right (by omega), hl]
theorem arrInfo_app2 {k : Nat} (h : H.length ≤ k) (hl : H'.length = H.length) : arrInfo (H' ++ G) k = arrInfo (H ++ G) k := by
  unfold arrInfo; rw [List.getElem?_append_right h, List.getElem?_append_right (by omega), hl]
def joinE (n : Nat) (E E' : Env) : Env := { imm := E'.imm, φ := fun k => if k < n then E'.φ k else E.φ k, cap := fun k => if k < n then E'.cap k else E.cap k }
theorem frame_sees1 (hl : H'.length = H.length) (ev : Evo No w E H w' E' H') : Sees w E (H ++ G) w' (joinE H.length E E') (H' ++ G) := by
  refine ⟨ev.immKept, fun k hk => ?_, fun k sz u hk => ?_⟩
  · by_cases h : k < H.length
    · rw [isVar_app h] at hk
      rw [isVar_app (by omega)]
      have := ev.var k hk
      exact ⟨this.1, by simp only [joinE, if_pos h]; exact this.2⟩
    · rw [isVar_app2 (by omega) hl]
      exact ⟨hk, by simp only [joinE, if_neg h]⟩
  · by_cases h : k < H.length
    · rw [arrInfo_app h] at hk
      rw [arrInfo_app (by omega)]
      have := ev.arr k sz u hk
      simp only [joinE, if_pos h]; exact this
    · rw [arrInfo_app2 (by omega) hl]
      simp only [joinE, if_neg h]
      exact ⟨u, hk, Nat.le_refl _, fun _ => ⟨trivial, fun _ => trivial⟩⟩
theorem frame_sees2 (hl : H'.length = H.length) : Sees w' E' H' w' (joinE H.length E E') (H' ++ G) := by
  refine ⟨fun b hb => ⟨hb, rfl⟩, fun k hk => ?_, fun k sz u hk => ?_⟩
  · have h : k < H'.length := isVar_lt hk
    rw [isVar_app h]
    exact ⟨hk, by simp only [joinE]; rw [if_pos (by omega)]⟩
  · have h := arrInfo_lt hk
    rw [arrInfo_app h]
    simp only [joinE]
    rw [if_pos (by omega), if_pos (by omega)]
    exact ⟨u, hk, Nat.le_refl _, fun _ => ⟨rfl, fun _ => rfl⟩⟩
theorem frame_live1 {k : Nat} (h : k < H.length) (hl : H'.length = H.length) (hk : live (joinE H.length E E') (H' ++ G) k) : live E' H' k := by
  unfold live at hk ⊢
  rw [isVar_app (by omega), arrInfo_app (by omega)] at hk
  simpa only [joinE, if_pos h] using hk
theorem frame_live2 {k : Nat} (h : ¬ k < H.length) (hl : H'.length = H.length) (hk : live (joinE H.length E E') (H' ++ G) k) : live E (H ++ G) k := by
  unfold live at hk ⊢
  rw [isVar_app2 (by omega) hl, arrInfo_app2 (by omega) hl] at hk
  simpa only [joinE, if_neg h] using hk
theorem CallOK.frame {f : FuncId} {xs : List AVal} {v : AVal} (hc : CallOK P f xs H (.ret v H')) (hl : H'.length = H.length) (hx : ∀ x ∈ xs, refsD 6 H.length x = true) (hH : ∀ x ∈ H, refsO H.length x = true) (G : Heap) (hG : ∀ t n, G[0]? ≠ some (.note t n)) : CallOK P f xs (H ++ G) (.ret v (H' ++ G)) := by
  intro w E cs sim hlen hr
  refine Calls.mono (hc w E cs (sim.shrink hH) hlen (fun j hj => (hr j hj).shrink 6 _ _ ?_)) (fun e w' hp => ?_)
  · rw [List.getD_eq_getElem?_getD, List.getElem?_eq_getElem hj]
    exact hx _ (List.getElem_mem hj)
  cases e with
  | panicked _ => exact hp.elim
  | outgrown => exact hp.elim
  | returned c =>
    obtain ⟨E', ev, sim', hrep⟩ := hp
    have s1 : Sees w E (H ++ G) w' (joinE H.length E E') (H' ++ G) := frame_sees1 hl ev
    have s2 : Sees w' E' H' w' (joinE H.length E E') (H' ++ G) := frame_sees2 hl
    have get1 : ∀ {k : Nat}, k < H.length → (H' ++ G)[k]? = H'[k]? := fun {k} h => List.getElem?_append_left (by omega)
    have get2 : ∀ {k : Nat}, ¬ k < H.length → (H' ++ G)[k]? = (H ++ G)[k]? := fun {k} h => by
      rw [List.getElem?_append_right (by omega), List.getElem?_append_right (by omega), hl]
    have keep : ∀ k, ¬ k < H.length → live E (H ++ G) k → w'.heap[E.φ k]? = w.heap[E.φ k]? := fun k h hk => by
      refine ev.kept _ (sim.apart k hk).2 (fun h => h) (fun l hlv he => ?_)
      have := sim.inj l k (live_app hlv) hk he
      have := live_lt hlv
      omega
    have joinP : ∀ {k : Nat}, k < H.length → (joinE H.length E E').φ k = E'.φ k ∧ (joinE H.length E E').cap k = E'.cap k := fun {k} h => by
      simp only [joinE, if_pos h, and_self]
    have joinN : ∀ {k : Nat}, ¬ k < H.length → (joinE H.length E E').φ k = E.φ k ∧ (joinE H.length E E').cap k = E.cap k := fun {k} h => by
      simp only [joinE, if_neg h, and_self]
    refine ⟨joinE H.length E E', ⟨ev.size, fun b hb hX hk => ev.kept b hb hX (fun k h => hk k (live_app h)), ev.immKept, ev.immNew, s1.var, s1.arr, fun k hk => ?_, by simp [hl], ev.tape, ev.os, ev.output⟩, ⟨sim'.immLt, fun k cs' h => ?_, fun k sz rows u h => ?_, fun k hk => ?_, fun k l hk hl' he => ?_, fun j t n hj hlv => ?_, sim'.glob⟩, hrep.mono s2⟩
    rotate_left 5
    · by_cases h : j < H.length
      · rw [get1 h] at hj
        have h1 : j - 1 < H.length := by omega
        rw [(joinP h1).1]
        exact sim'.note j t n hj (frame_live1 h1 hl hlv)
      · rw [get2 h] at hj
        by_cases h1 : j - 1 < H.length
        · obtain rfl : j = H.length := by omega
          rw [List.getElem?_append_right (Nat.le_refl _), Nat.sub_self] at hj
          exact absurd hj (hG t n)
        · rw [(joinN h1).1]
          have hlv2 := frame_live2 h1 hl hlv
          exact (sim.note j t n hj hlv2).same (keep _ h1 hlv2)
    · by_cases h : k < H.length
      · rw [(joinP h).1]
        rcases ev.phi k (frame_live1 h hl hk) with g | ⟨g1, g2⟩
        · exact .inl g
        · exact .inr ⟨live_app g1, g2⟩
      · exact .inr ⟨frame_live2 h hl hk, (joinN h).1⟩
    · by_cases hk : k < H.length
      · rw [get1 hk] at h
        rw [(joinP hk).1]
        exact (sim'.var k cs' h).mono s2 rfl
      · rw [get2 hk] at h
        rw [(joinN hk).1]
        exact (sim.var k cs' h).mono s1 (keep k hk (.inl (by unfold isVar; rw [h])))
    · by_cases hk : k < H.length
      · rw [get1 hk] at h
        rw [(joinP hk).1, (joinP hk).2]
        obtain ⟨h1, h2, h3, h4⟩ := sim'.arr k sz rows u h
        exact ⟨h1, h2, h3, fun hc => (h4 hc).mono s2 rfl⟩
      · rw [get2 hk] at h
        rw [(joinN hk).1, (joinN hk).2]
        obtain ⟨h1, h2, h3, h4⟩ := sim.arr k sz rows u h
        exact ⟨h1, h2, h3, fun hc => (h4 hc).mono s1 (keep k hk (.inr ⟨⟨sz, u, by unfold arrInfo; rw [h]⟩, hc⟩))⟩
    · by_cases h : k < H.length
      · rw [(joinP h).1]
        exact sim'.apart k (frame_live1 h hl hk)
      · have hlv := frame_live2 h hl hk
        obtain ⟨a1, a2⟩ := sim.apart k hlv
        rw [(joinN h).1]
        refine ⟨fun hi => ?_, Nat.lt_of_lt_of_le a2 ev.size⟩
        rcases ev.immNew _ hi with g | g
        · exact a1 g
        · omega
    · have mixed : ∀ k l, k < H.length → ¬ l < H.length → live (joinE H.length E E') (H' ++ G) k → live (joinE H.length E E') (H' ++ G) l → (joinE H.length E E').φ k = (joinE H.length E E').φ l → False := fun k l h1 h2 hk hl' he => by
        rw [(joinP h1).1, (joinN h2).1] at he
        have hlv := frame_live2 h2 hl hl'
        rcases ev.phi k (frame_live1 h1 hl hk) with g | ⟨g1, g2⟩
        · have := (sim.apart l hlv).2
          omega
        · have := sim.inj k l (live_app g1) hlv (by rw [← g2]; exact he)
          omega
      by_cases h1 : k < H.length <;> by_cases h2 : l < H.length
      · rw [(joinP h1).1, (joinP h2).1] at he
        exact sim'.inj k l (frame_live1 h1 hl hk) (frame_live1 h2 hl hl') he
      · exact (mixed k l h1 h2 hk hl' he).elim
      · exact (mixed l k h2 h1 hl' hk he.symm).elim
      · rw [(joinN h1).1, (joinN h2).1] at he
        exact sim.inj k l (frame_live2 h1 hl hk) (frame_live2 h2 hl hl') he
end Go.Mu
