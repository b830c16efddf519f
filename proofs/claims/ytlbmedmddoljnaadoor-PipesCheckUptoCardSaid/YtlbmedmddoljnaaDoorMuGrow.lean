/-
  Mu: arrays that grow: in their place, or in a new block.
-/
import Derived.Test.YtlbmedmddoljnaaDoorMuStep5
import Derived.Deep.Upon
set_option linter.unusedVariables false
set_option linter.unusedSimpArgs false
namespace Go.Mu
open Go
variable {P : Program} {fh : FH} {w w' : World} {a : Act} {E E' : Env} {H H' : Heap} {β : Nat → Option Nat} {T : List AVal} {B : Boxes} {G : Tags}

theorem get_lt {k : Nat} {obj : Obj} (h : H[k]? = some obj) : k < H.length := by
  rcases Nat.lt_or_ge k H.length with g | g
  · exact g
  · rw [List.getElem?_eq_none g] at h; cases h
theorem isVar_setArr {k sz u : Nat} {old new : List (List AVal)} {u' : Nat} (hk : H[k]? = some (.arr sz old u)) (l : Nat) : isVar (H.set k (.arr sz new u')) l = isVar H l := by
  have hlt := get_lt hk
  by_cases e : l = k
  · subst e; simp [isVar, List.getElem?_set_self hlt, hk]
  · simp [isVar, List.getElem?_set_ne (Ne.symm e)]
theorem arrInfo_setArr {k sz u : Nat} {old new : List (List AVal)} {u' : Nat} (hk : H[k]? = some (.arr sz old u)) (l : Nat) : arrInfo (H.set k (.arr sz new u')) l = if l = k then some (sz, u') else arrInfo H l := by
  have hlt := get_lt hk
  by_cases e : l = k
  · subst e; simp [arrInfo, List.getElem?_set_self hlt]
  · simp [arrInfo, List.getElem?_set_ne (Ne.symm e), e]

/-- a new array of no elements, without a block -/
theorem fresh_virtual (fs : FS w a E H β T B G) {sz : Nat} (hsz : 0 < sz) :
    Evo (Xβ β) w E H w (pushEnv E H.length 0 0) (H ++ [.arr sz [] 0]) ∧ FS w a (pushEnv E H.length 0 0) (H ++ [.arr sz [] 0]) β T B G := by
  have hl : ∀ k, live (pushEnv E H.length 0 0) (H ++ [.arr sz [] 0]) k → live E H k ∧ k < H.length := by
    intro k hk
    rcases live_append hk with h | rfl
    · exact h
    · rcases hk with hk | ⟨_, hk⟩
      · simp [isVar] at hk
      · simp [pushEnv] at hk
  have ev : Evo (Xβ β) w E H w (pushEnv E H.length 0 0) (H ++ [.arr sz [] 0]) := by
    refine ⟨Nat.le_refl _, fun _ _ _ _ => rfl, fun b hb => ⟨hb, rfl⟩, fun b hb => .inl hb, fun k hk => ?_, fun k sz u hk => ?_, fun k hk => ?_, by simp, rfl, rfl, rfl⟩
    · have := isVar_lt hk
      exact ⟨by rw [isVar_append this]; exact hk, by simp only [pushEnv]; rw [upd_other _ _ (by omega)]⟩
    · have := arrInfo_lt hk
      exact ⟨u, by rw [arrInfo_append this]; exact hk, Nat.le_refl _, fun _ => ⟨by simp only [pushEnv]; rw [upd_other _ _ (by omega)], fun _ => by simp only [pushEnv]; rw [upd_other _ _ (by omega)]⟩⟩
    · obtain ⟨h1, h2⟩ := hl k hk
      exact .inr ⟨h1, by simp only [pushEnv]; rw [upd_other _ _ (by omega)]⟩
  have hs := ev.sees
  have φe : ∀ k, k < H.length → (pushEnv E H.length 0 0).φ k = E.φ k := fun k hk => by simp only [pushEnv]; rw [upd_other _ _ (by omega)]
  have ce : ∀ k, k < H.length → (pushEnv E H.length 0 0).cap k = E.cap k := fun k hk => by simp only [pushEnv]; rw [upd_other _ _ (by omega)]
  refine ⟨ev, fs.keep ?_ hs (Nat.le_refl _) (fun t b hb => (fs.box t b hb).1) (fun t b hb k hk => ?_) (fun t b hb => rfl)⟩
  · refine ⟨fs.sim.immLt, fun k cs hc => ?_, fun k sz' rows u hc => ?_, fun k hk => ?_, fun k l hk hl' he => ?_⟩
    · rcases Nat.lt_or_ge k H.length with g | g
      · rw [List.getElem?_append_left g] at hc
        rw [φe k g]
        exact (fs.sim.var k cs hc).mono hs rfl
      · have hk : k = H.length := by have := get_lt hc; simp at this; omega
        subst hk; simp at hc
    · rcases Nat.lt_or_ge k H.length with g | g
      · rw [List.getElem?_append_left g] at hc
        rw [φe k g, ce k g]
        obtain ⟨h1, h2, h3, h4⟩ := fs.sim.arr k sz' rows u hc
        exact ⟨h1, h2, h3, fun hcap => (h4 hcap).mono hs rfl⟩
      · have hk : k = H.length := by have := get_lt hc; simp at this; omega
        subst hk
        simp only [List.getElem?_append_right (Nat.le_refl _), Nat.sub_self, List.getElem?_cons_zero, Option.some.injEq, Obj.arr.injEq] at hc
        obtain ⟨rfl, rfl, rfl⟩ := hc
        exact ⟨hsz, Nat.zero_le _, fun r hr => by simp at hr, fun hcap => by simp [pushEnv] at hcap⟩
    · obtain ⟨h1, h2⟩ := hl k hk
      rw [φe k h2]; exact fs.sim.apart k h1
    · obtain ⟨h1, h2⟩ := hl k hk
      obtain ⟨g1, g2⟩ := hl l hl'
      rw [φe k h2, φe l g2] at he
      exact fs.sim.inj k l h1 g1 he
  · obtain ⟨h1, h2⟩ := hl k hk
    rw [φe k h2]; exact (fs.box t b hb).2.2.1 k h1

theorem live_setArr {k sz u : Nat} {old new : List (List AVal)} {u' : Nat} (hk : H[k]? = some (.arr sz old u)) {E' : Env} (hc : ∀ l, l ≠ k → E'.cap l = E.cap l) {l : Nat} (hl : live E' (H.set k (.arr sz new u')) l) : l ≠ k → live E H l := by
  intro e
  simp only [live, isVar_setArr hk, arrInfo_setArr hk, if_neg e, hc l e] at hl
  exact hl

/-- an array that goes on in its own place -/
theorem bump_own (fs : FS w a E H β T B G) {k sz u : Nat} {rows rows' : List (List AVal)} (hk : H[k]? = some (.arr sz rows u)) {off : Nat} {vs : List Value} (hcap : E.cap k ≠ 0)
    (hrl : rows'.length ≤ E.cap k) (hlen : ∀ r ∈ rows', r.length = sz) (hle : off + vs.length ≤ E.cap k * sz) (h1 : ∀ x ∈ vs, x.oneCell' = true)
    (hin : ∀ (j : Nat) (v : AVal), off ≤ j → j < off + vs.length → cellAt sz rows' j = some v → Rep w E H v (vs.getD (j - off) undef))
    (hout : ∀ (j : Nat) (v : AVal), ¬(off ≤ j ∧ j < off + vs.length) → cellAt sz rows' j = some v → cellAt sz rows j = some v) :
    Evo (Xβ β) w E H (w.setCells (E.φ k) off vs) E (H.set k (.arr sz rows' (u + 1))) ∧ FS (w.setCells (E.φ k) off vs) a E (H.set k (.arr sz rows' (u + 1))) β T B G := by
  have hlv : live E H k := .inr ⟨⟨sz, u, arr_of_get hk⟩, hcap⟩
  obtain ⟨ap1, ap2⟩ := fs.sim.apart k hlv
  obtain ⟨r1, r2, r3⟩ := setCells_rest (E.φ k) vs off w
  have hi := fun l => isVar_setArr (new := rows') (u' := u + 1) hk l
  have ha := fun l => arrInfo_setArr (new := rows') (u' := u + 1) hk l
  have hlive : ∀ l, live E (H.set k (.arr sz rows' (u + 1))) l → live E H l := fun l hl => by
    by_cases e : l = k
    · subst e; exact hlv
    · exact live_setArr hk (fun _ _ => rfl) hl e
  have hne : ∀ x, E.imm x → x ≠ E.φ k := fun x hx e => ap1 (e ▸ hx)
  have ev : Evo (Xβ β) w E H (w.setCells (E.φ k) off vs) E (H.set k (.arr sz rows' (u + 1))) := by
    refine ⟨Nat.le_of_eq (setCells_size _ vs off w).symm, fun x hx hn hk' => setCells_other _ x (fun e => hk' k hlv e.symm) vs off w, fun x hx => ⟨hx, setCells_other _ x (hne x hx) vs off w⟩, fun x hx => .inl hx,
      fun l hl => ⟨by rw [hi]; exact hl, rfl⟩, fun l sz' u' hl => ?_, fun l hl => .inr ⟨hlive l hl, rfl⟩, by simp, r1, r2, r3⟩
    by_cases e : l = k
    · subst e
      rw [arr_of_get hk] at hl
      simp only [Option.some.injEq, Prod.mk.injEq] at hl
      obtain ⟨rfl, rfl⟩ := hl
      exact ⟨u + 1, by rw [ha, if_pos rfl], by omega, fun h => by omega⟩
    · exact ⟨u', by rw [ha, if_neg e]; exact hl, Nat.le_refl _, fun _ => ⟨rfl, fun _ => rfl⟩⟩
  have hs := ev.sees
  have kb := (fs.sim.arr k sz rows u hk).2.2.2 hcap
  have hother : ∀ l, live E H l → l ≠ k → (w.setCells (E.φ k) off vs).heap[E.φ l]? = w.heap[E.φ l]? := fun l hl e => setCells_other _ _ (fun e' => e (fs.sim.inj l k hl hlv e')) vs off w
  refine ⟨ev, fs.keep ⟨fun b hb => by rw [setCells_size]; exact fs.sim.immLt b hb, fun l cs hc => ?_, fun l sz' rw' u' hc => ?_, fun l hl => by rw [setCells_size]; exact fs.sim.apart l (hlive l hl), fun x y hx hy => fs.sim.inj x y (hlive x hx) (hlive y hy)⟩
    hs (Nat.le_of_eq (setCells_size _ vs off w).symm) (fun t b hb => (fs.box t b hb).1) (fun t b hb l hl => (fs.box t b hb).2.2.1 l (hlive l hl)) (fun t b hb => setCells_other _ _ (fun e => (fs.box t b hb).2.2.1 k hlv e.symm) vs off w)⟩
  · by_cases e : l = k
    · subst e; rw [List.getElem?_set_self (get_lt hk)] at hc; simp at hc
    · rw [List.getElem?_set_ne (Ne.symm e)] at hc
      exact (fs.sim.var l cs hc).mono hs (hother l (.inl (var_of_get hc)) e)
  · by_cases e : l = k
    · subst e
      rw [List.getElem?_set_self (get_lt hk)] at hc
      simp only [Option.some.injEq, Obj.arr.injEq] at hc
      obtain ⟨rfl, rfl, rfl⟩ := hc
      exact ⟨(fs.sim.arr l sz rows u hk).1, hrl, hlen, fun _ => kb.write hle h1 hs hin hout⟩
    · rw [List.getElem?_set_ne (Ne.symm e)] at hc
      obtain ⟨g1, g2, g3, g4⟩ := fs.sim.arr l sz' rw' u' hc
      exact ⟨g1, g2, g3, fun hcap' => (g4 hcap').mono hs (hother l (.inr ⟨⟨sz', u', arr_of_get hc⟩, hcap'⟩) e)⟩

/-- an array that goes on in a new block, or is but counted on (no block at all: c = 0) -/
theorem move_own (fs : FS w a E H β T B G) {k sz u : Nat} {rows rows' : List (List AVal)} (hk : H[k]? = some (.arr sz rows u)) {ds ty fr} (hp : Pushed w w' ds ty fr) (hth : thawed fr ds.size) {c : Nat}
    (hrl : rows'.length ≤ c) (hlen : ∀ r ∈ rows', r.length = sz) (hle : c * sz ≤ ds.size) (hcell : ∀ (j : Nat) (v : AVal), cellAt sz rows' j = some v → ∃ c, ds[j]? = some c ∧ c.oneCell' = true ∧ Rep w E H v c) :
    Evo (Xβ β) w E H w' (pushEnv E k w.heap.size c) (H.set k (.arr sz rows' (u + 1))) ∧ FS w' a (pushEnv E k w.heap.size c) (H.set k (.arr sz rows' (u + 1))) β T B G := by
  have hi := fun l => isVar_setArr (new := rows') (u' := u + 1) hk l
  have ha := fun l => arrInfo_setArr (new := rows') (u' := u + 1) hk l
  have φe : ∀ l, l ≠ k → (pushEnv E k w.heap.size c).φ l = E.φ l := fun l hl => by simp only [pushEnv]; rw [upd_other _ _ hl]
  have ce : ∀ l, l ≠ k → (pushEnv E k w.heap.size c).cap l = E.cap l := fun l hl => by simp only [pushEnv]; rw [upd_other _ _ hl]
  have φk : (pushEnv E k w.heap.size c).φ k = w.heap.size := by simp [pushEnv]
  have ck : (pushEnv E k w.heap.size c).cap k = c := by simp [pushEnv]
  have hlive : ∀ l, live (pushEnv E k w.heap.size c) (H.set k (.arr sz rows' (u + 1))) l → l ≠ k → live E H l := fun l hl e => live_setArr hk ce hl e
  have hnv : isVar H k = false := by simp [isVar, hk]
  have ev : Evo (Xβ β) w E H w' (pushEnv E k w.heap.size c) (H.set k (.arr sz rows' (u + 1))) := by
    refine ⟨by rw [hp.size]; omega, fun b hb _ _ => hp.old hb, fun b hb => ⟨hb, hp.old (fs.sim.immLt b hb)⟩, fun b hb => .inl hb, fun l hl => ⟨by rw [hi]; exact hl, φe l (fun e => by rw [e, hnv] at hl; cases hl)⟩, fun l sz' u' hl => ?_,
      fun l hl => ?_, by simp, hp.tape, hp.os, hp.output⟩
    · by_cases e : l = k
      · subst e
        rw [arr_of_get hk] at hl
        simp only [Option.some.injEq, Prod.mk.injEq] at hl
        obtain ⟨rfl, rfl⟩ := hl
        exact ⟨u + 1, by rw [ha, if_pos rfl], by omega, fun h => by omega⟩
      · exact ⟨u', by rw [ha, if_neg e]; exact hl, Nat.le_refl _, fun _ => ⟨ce l e, fun _ => φe l e⟩⟩
    · by_cases e : l = k
      · subst e; exact .inl (by rw [φk]; exact Nat.le_refl _)
      · exact .inr ⟨hlive l hl e, φe l e⟩
  have hs := ev.sees
  refine ⟨ev, fs.keep ⟨fun b hb => by rw [hp.size]; have := fs.sim.immLt b hb; omega, fun l cs hc => ?_, fun l sz' rw' u' hc => ?_, fun l hl => ?_, fun x y hx hy he => ?_⟩
    hs (by rw [hp.size]; omega) (fun t b hb => (fs.box t b hb).1) (fun t b hb l hl => ?_) (fun t b hb => hp.old (fs.box t b hb).2.1)⟩
  · by_cases e : l = k
    · subst e; rw [List.getElem?_set_self (get_lt hk)] at hc; simp at hc
    · rw [List.getElem?_set_ne (Ne.symm e)] at hc
      rw [φe l e]
      exact (fs.sim.var l cs hc).mono hs (hp.old (fs.sim.apart l (.inl (var_of_get hc))).2)
  · by_cases e : l = k
    · subst e
      rw [List.getElem?_set_self (get_lt hk)] at hc
      simp only [Option.some.injEq, Obj.arr.injEq] at hc
      obtain ⟨rfl, rfl, rfl⟩ := hc
      rw [φk, ck]
      refine ⟨(fs.sim.arr l sz rows u hk).1, hrl, hlen, fun _ => ⟨ds, ty, fr, hp.new, hle, fun o ho => hth o (by omega), fun j v hv => ?_⟩⟩
      obtain ⟨c, g1, g2, g3⟩ := hcell j v hv
      exact ⟨c, g1, g2, g3.mono hs⟩
    · rw [List.getElem?_set_ne (Ne.symm e)] at hc
      rw [φe l e, ce l e]
      obtain ⟨g1, g2, g3, g4⟩ := fs.sim.arr l sz' rw' u' hc
      exact ⟨g1, g2, g3, fun hcap' => (g4 hcap').mono hs (hp.old (fs.sim.apart l (.inr ⟨⟨sz', u', arr_of_get hc⟩, hcap'⟩)).2)⟩
  · by_cases e : l = k
    · subst e; rw [φk, hp.size]
      exact ⟨fun h => Nat.lt_irrefl _ (fs.sim.immLt _ h), by omega⟩
    · rw [φe l e, hp.size]
      have := fs.sim.apart l (hlive l hl e)
      exact ⟨this.1, by omega⟩
  · by_cases e1 : x = k <;> by_cases e2 : y = k
    · rw [e1, e2]
    · subst e1; rw [φk, φe y e2] at he
      have := (fs.sim.apart y (hlive y hy e2)).2; omega
    · subst e2; rw [φk, φe x e1] at he
      have := (fs.sim.apart x (hlive x hx e1)).2; omega
    · rw [φe x e1, φe y e2] at he
      exact fs.sim.inj x y (hlive x hx e1) (hlive y hy e2) he
  · by_cases e : l = k
    · subst e; rw [φk]; have := (fs.box t b hb).2.1; omega
    · rw [φe l e]; exact (fs.box t b hb).2.2.1 l (hlive l hl e)
/-- an array without a block, counted on -/
theorem bump_virtual (fs : FS w a E H β T B G) {k sz u : Nat} (hk : H[k]? = some (.arr sz [] u)) (hcap : E.cap k = 0) :
    Evo (Xβ β) w E H w E (H.set k (.arr sz [] (u + 1))) ∧ FS w a E (H.set k (.arr sz [] (u + 1))) β T B G := by
  have hi := fun l => isVar_setArr (new := []) (u' := u + 1) hk l
  have ha := fun l => arrInfo_setArr (new := []) (u' := u + 1) hk l
  have hlive : ∀ l, live E (H.set k (.arr sz [] (u + 1))) l → live E H l := fun l hl => by
    by_cases e : l = k
    · subst e
      rcases hl with hl | ⟨_, hl⟩
      · rw [hi] at hl; exact .inl hl
      · exact absurd hcap hl
    · exact live_setArr hk (fun _ _ => rfl) hl e
  have ev : Evo (Xβ β) w E H w E (H.set k (.arr sz [] (u + 1))) := by
    refine ⟨Nat.le_refl _, fun _ _ _ _ => rfl, fun b hb => ⟨hb, rfl⟩, fun b hb => .inl hb, fun l hl => ⟨by rw [hi]; exact hl, rfl⟩, fun l sz' u' hl => ?_, fun l hl => .inr ⟨hlive l hl, rfl⟩, by simp, rfl, rfl, rfl⟩
    by_cases e : l = k
    · subst e
      rw [arr_of_get hk] at hl
      simp only [Option.some.injEq, Prod.mk.injEq] at hl
      obtain ⟨rfl, rfl⟩ := hl
      exact ⟨u + 1, by rw [ha, if_pos rfl], by omega, fun h => by omega⟩
    · exact ⟨u', by rw [ha, if_neg e]; exact hl, Nat.le_refl _, fun _ => ⟨rfl, fun _ => rfl⟩⟩
  have hs := ev.sees
  refine ⟨ev, fs.keep ⟨fs.sim.immLt, fun l cs hc => ?_, fun l sz' rw' u' hc => ?_, fun l hl => fs.sim.apart l (hlive l hl), fun x y hx hy => fs.sim.inj x y (hlive x hx) (hlive y hy)⟩
    hs (Nat.le_refl _) (fun t b hb => (fs.box t b hb).1) (fun t b hb l hl => (fs.box t b hb).2.2.1 l (hlive l hl)) (fun t b hb => rfl)⟩
  · by_cases e : l = k
    · subst e; rw [List.getElem?_set_self (get_lt hk)] at hc; simp at hc
    · rw [List.getElem?_set_ne (Ne.symm e)] at hc
      exact (fs.sim.var l cs hc).mono hs rfl
  · by_cases e : l = k
    · subst e
      rw [List.getElem?_set_self (get_lt hk)] at hc
      simp only [Option.some.injEq, Obj.arr.injEq] at hc
      obtain ⟨rfl, rfl, rfl⟩ := hc
      exact ⟨(fs.sim.arr l sz [] u hk).1, Nat.zero_le _, fun r hr => by simp at hr, fun h => absurd hcap h⟩
    · rw [List.getElem?_set_ne (Ne.symm e)] at hc
      obtain ⟨g1, g2, g3, g4⟩ := fs.sim.arr l sz' rw' u' hc
      exact ⟨g1, g2, g3, fun hcap' => (g4 hcap').mono hs rfl⟩
end Go.Mu
