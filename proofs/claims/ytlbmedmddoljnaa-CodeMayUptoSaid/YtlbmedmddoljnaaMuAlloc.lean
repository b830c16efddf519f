/-
  Mu: new blocks: a box of the frame, an object of the heap, plain data.
-/
import Derived.Test.YtlbmedmddoljnaaMuStore
set_option linter.unusedVariables false
set_option linter.unusedSimpArgs false
namespace Go.Mu
open Go
variable {P : Program} {w w' : World} {a : Act} {E E' : Env} {H H' : Heap} {β : Nat → Option Nat} {T : List AVal} {B : Boxes} {G : Tags} {o : Oper}

def upd {α : Type} (f : Nat → α) (k : Nat) (v : α) : Nat → α := fun x => if x = k then v else f x
@[simp] theorem upd_same {α : Type} (f : Nat → α) (k : Nat) (v : α) : upd f k v k = v := by simp [upd]
theorem upd_other {α : Type} (f : Nat → α) {k x : Nat} (v : α) (h : x ≠ k) : upd f k v x = f x := by simp [upd, h]

/-- w' is w with one new block of cells, and perhaps some draws -/
structure Pushed (w w' : World) (ds : Array Value) (ty : TypeId) (fr : Nat × Nat) : Prop where
  heap : w'.heap = w.heap.push (.cells ds ty fr)
  tape : w'.tape = w.tape
  os : w'.os = w.os
  output : w'.output = w.output

theorem Pushed.size {ds ty fr} (h : Pushed w w' ds ty fr) : w'.heap.size = w.heap.size + 1 := by rw [h.heap]; simp
theorem Pushed.new {ds ty fr} (h : Pushed w w' ds ty fr) : w'.heap[w.heap.size]? = some (.cells ds ty fr) := by rw [h.heap]; simp
theorem Pushed.old {ds ty fr} (h : Pushed w w' ds ty fr) {b : Nat} (hb : b < w.heap.size) : w'.heap[b]? = w.heap[b]? := by
  rw [h.heap, Array.getElem?_push, if_neg (by omega)]

theorem isVar_append {obj : Obj} {l : Nat} (h : l < H.length) : isVar (H ++ [obj]) l = isVar H l := by simp [isVar, List.getElem?_append_left h]
theorem arrInfo_append {obj : Obj} {l : Nat} (h : l < H.length) : arrInfo (H ++ [obj]) l = arrInfo H l := by simp [arrInfo, List.getElem?_append_left h]
theorem isVar_lt {k : Nat} (h : isVar H k = true) : k < H.length := live_lt (E := ⟨fun _ => False, id, id⟩) (.inl h)
theorem arrInfo_lt {k sz u : Nat} (h : arrInfo H k = some (sz, u)) : k < H.length := live_lt (E := ⟨fun _ => False, id, fun _ => 1⟩) (.inr ⟨⟨sz, u, h⟩, by simp⟩)

/-- plain: nothing of the heap or of the environment turns, but that new data may be immutable -/
theorem fresh_imm (fs : FS w a E H β T B G) {ds ty fr} (h : Pushed w w' ds ty fr) :
    Evo (Xβ β) w E H w' { E with imm := fun x => E.imm x ∨ x = w.heap.size } H ∧ FS w' a { E with imm := fun x => E.imm x ∨ x = w.heap.size } H β T B G := by
  have ev : Evo (Xβ β) w E H w' { E with imm := fun x => E.imm x ∨ x = w.heap.size } H := by
    refine ⟨by rw [h.size]; omega, fun b hb _ _ => h.old hb, fun b hb => ⟨.inl hb, h.old (fs.sim.immLt b hb)⟩, fun b hb => ?_, fun k hk => ⟨hk, rfl⟩, fun k sz u hk => ⟨u, hk, Nat.le_refl _, fun _ => ⟨rfl, fun _ => rfl⟩⟩,
      fun k hk => .inr ⟨hk, rfl⟩, Nat.le_refl _, h.tape, h.os, h.output⟩
    rcases hb with hb | hb
    · exact .inl hb
    · exact .inr (by omega)
  have hs := ev.sees
  refine ⟨ev, fs.keep ?_ hs (by rw [h.size]; omega) (fun t b hb => ?_) (fun t b hb k hk => (fs.box t b hb).2.2.1 k hk) (fun t b hb => h.old (fs.box t b hb).2.1)⟩
  · refine ⟨fun b hb => ?_, fun k cs hc => (fs.sim.var k cs hc).mono hs (h.old (fs.sim.apart k (.inl (var_of_get hc))).2), fun k sz rows u hc => ?_, fun k hk => ⟨?_, ?_⟩, fs.sim.inj⟩
    · rw [h.size]
      rcases hb with hb | hb
      · have := fs.sim.immLt b hb; omega
      · omega
    · obtain ⟨h1, h2, h3, h4⟩ := fs.sim.arr k sz rows u hc
      exact ⟨h1, h2, h3, fun hcap => (h4 hcap).mono hs (h.old (fs.sim.apart k (.inr ⟨⟨sz, u, arr_of_get hc⟩, hcap⟩)).2)⟩
    · rintro (hb | hb)
      · exact (fs.sim.apart k hk).1 hb
      · have := (fs.sim.apart k hk).2; simp only at hb; omega
    · rw [h.size]; have := (fs.sim.apart k hk).2; simp only; omega
  · rintro (hb' | hb')
    · exact (fs.box t b hb).1 hb'
    · have := (fs.box t b hb).2.1; omega

/-- draws alone -/
theorem only_drawn (fs : FS w a E H β T B G) (hh : w'.heap = w.heap) (h1 : w'.tape = w.tape) (h2 : w'.os = w.os) (h3 : w'.output = w.output) :
    Evo (Xβ β) w E H w' E H ∧ FS w' a E H β T B G := by
  have ev : Evo (Xβ β) w E H w' E H :=
    ⟨by rw [hh]; exact Nat.le_refl _, fun b _ _ _ => by rw [hh], fun b hb => ⟨hb, by rw [hh]⟩, fun b hb => .inl hb, fun k hk => ⟨hk, rfl⟩, fun k sz u hk => ⟨u, hk, Nat.le_refl _, fun _ => ⟨rfl, fun _ => rfl⟩⟩,
      fun k hk => .inr ⟨hk, rfl⟩, Nat.le_refl _, h1, h2, h3⟩
  exact ⟨ev, fs.keep (fs.sim.keep ev.sees (fun k _ => by rw [hh]) (by rw [hh]; exact Nat.le_refl _)) ev.sees (by rw [hh]; exact Nat.le_refl _) (fun t b hb => (fs.box t b hb).1) (fun t b hb => (fs.box t b hb).2.2.1) (fun t b hb => by rw [hh])⟩

/-- a new box of the frame -/
theorem fresh_box (fs : FS w a E H β T B G) {ds ty} (h : Pushed w w' ds ty (0, 0)) {d : Nat} {z : List AVal} (hd : d < B.length) (hT : T.any (pointsTo d) = false)
    (hz : ds.size = z.length) (hr : ∀ (j : Nat) (v : AVal), z[j]? = some v → ∃ c, ds[j]? = some c ∧ c.oneCell' = true ∧ Rep w E H v c) :
    Evo (Xβ β) w E H w' E H ∧ FS w' a E H (upd β d (some w.heap.size)) T (bset B d z) G := by
  have ev : Evo (Xβ β) w E H w' E H :=
    ⟨by rw [h.size]; omega, fun b hb _ _ => h.old hb, fun b hb => ⟨hb, h.old (fs.sim.immLt b hb)⟩, fun b hb => .inl hb, fun k hk => ⟨hk, rfl⟩, fun k sz u hk => ⟨u, hk, Nat.le_refl _, fun _ => ⟨rfl, fun _ => rfl⟩⟩,
      fun k hk => .inr ⟨hk, rfl⟩, Nat.le_refl _, h.tape, h.os, h.output⟩
  have hs := ev.sees
  have sim : Sim w' E H := fs.sim.keep hs (fun k hk => h.old (fs.sim.apart k hk).2) (by rw [h.size]; omega)
  refine ⟨ev, sim, fs.tsize, by simp [bset, fs.bsize], fs.gsize, fun t ht => ?_, fun t b hb => ?_, fun t u b ht hu => ?_⟩
  · have hr := fs.vals t ht
    have hne : ∀ off, T.getD t .undef ≠ .ptr (.tmp d) off := by
      intro off e
      have hm : AVal.ptr (.tmp d) off ∈ T := by
        rw [← e, List.getD_eq_getElem?_getD]
        rcases Nat.lt_or_ge t T.length with g | g
        · rw [List.getElem?_eq_getElem g]; exact List.getElem_mem g
        · rw [List.getD_eq_getElem?_getD, List.getElem?_eq_none g] at e; simp at e
      have := List.any_eq_false.1 hT _ hm
      simp [pointsTo] at this
    generalize T.getD t .undef = v at *
    generalize a.tmps.getD t undef = c at *
    cases hr with
    | box u off b hb =>
      refine .box u off b ?_
      rw [upd_other _ _ (fun e => hne off (by rw [e]))]
      exact hb
    | val v c r => exact .val _ _ (r.mono hs)
  · by_cases e : t = d
    · subst e
      rw [upd_same] at hb
      obtain rfl := Option.some.inj hb
      refine ⟨fun hi => Nat.lt_irrefl _ (fs.sim.immLt _ hi), by rw [h.size]; omega, fun k hk he => by have := (fs.sim.apart k hk).2; omega, ?_⟩
      have e2 : (bset B t z).getD t [] = z := by simp [bset, List.getD_eq_getElem?_getD, hd]
      rw [e2]
      refine ⟨ds, ty, (0, 0), h.new, by omega, fun o _ hc => by omega, fun j v hv => ?_⟩
      obtain ⟨c, g1, g2, g3⟩ := hr j v hv
      exact ⟨c, g1, g2, g3.mono hs⟩
    · rw [upd_other _ _ e] at hb
      obtain ⟨j1, j2, j3, j4⟩ := fs.box t b hb
      have e2 : (bset B d z).getD t [] = B.getD t [] := by simp [bset, List.getD_eq_getElem?_getD, List.getElem?_set_ne (Ne.symm e)]
      rw [e2]
      exact ⟨j1, by rw [h.size]; omega, j3, j4.mono hs (h.old j2)⟩
  · by_cases e1 : t = d <;> by_cases e2 : u = d
    · rw [e1, e2]
    · subst e1
      rw [upd_same] at ht; rw [upd_other _ _ e2] at hu
      obtain rfl := Option.some.inj ht
      exact absurd (fs.box u _ hu).2.1 (Nat.lt_irrefl _)
    · subst e2
      rw [upd_same] at hu; rw [upd_other _ _ e1] at ht
      obtain rfl := Option.some.inj hu
      exact absurd (fs.box t _ ht).2.1 (Nat.lt_irrefl _)
    · rw [upd_other _ _ e1] at ht; rw [upd_other _ _ e2] at hu
      exact fs.binj t u b ht hu

def pushEnv (E : Env) (k b c : Nat) : Env := { imm := E.imm, φ := upd E.φ k b, cap := upd E.cap k c }

theorem live_append {obj : Obj} {k b c : Nat} : live (pushEnv E H.length b c) (H ++ [obj]) k → (live E H k ∧ k < H.length) ∨ k = H.length := by
  intro h
  have hlt := live_lt h
  simp only [List.length_append, List.length_singleton] at hlt
  by_cases e : k = H.length
  · exact .inr e
  · refine .inl ⟨?_, by omega⟩
    simp only [live, isVar_append (H := H) (obj := obj) (show k < H.length by omega), arrInfo_append (H := H) (obj := obj) (show k < H.length by omega), pushEnv, upd_other _ _ e] at h
    exact h
theorem evo_push {X} (hsim : Sim w E H) {ds ty fr} (h : Pushed w w' ds ty fr) (obj : Obj) (c : Nat) : Evo X w E H w' (pushEnv E H.length w.heap.size c) (H ++ [obj]) := by
  refine ⟨by rw [h.size]; omega, fun b hb _ _ => h.old hb, fun b hb => ⟨hb, h.old (hsim.immLt b hb)⟩, fun b hb => .inl hb, fun k hk => ?_, fun k sz u hk => ?_, fun k hk => ?_, by simp, h.tape, h.os, h.output⟩
  · have := isVar_lt hk
    exact ⟨by rw [isVar_append this]; exact hk, by simp only [pushEnv]; rw [upd_other _ _ (by omega)]⟩
  · have := arrInfo_lt hk
    exact ⟨u, by rw [arrInfo_append this]; exact hk, Nat.le_refl _, fun _ => ⟨by simp only [pushEnv]; rw [upd_other _ _ (by omega)], fun _ => by simp only [pushEnv]; rw [upd_other _ _ (by omega)]⟩⟩
  · rcases live_append hk with ⟨h1, h2⟩ | rfl
    · exact .inr ⟨h1, by simp only [pushEnv]; rw [upd_other _ _ (by omega)]⟩
    · exact .inl (by simp [pushEnv])
/-- a new object of the heap -/
theorem fresh_obj (fs : FS w a E H β T B G) {ds ty fr} (h : Pushed w w' ds ty fr) (hth : thawed fr ds.size) {obj : Obj} {c : Nat}
    (hv : ∀ cs, obj = .var cs → ds.size = cs.length ∧ ∀ (j : Nat) (v : AVal), cs[j]? = some v → ∃ c, ds[j]? = some c ∧ c.oneCell' = true ∧ Rep w E H v c)
    (hr : ∀ sz rows u, obj = .arr sz rows u → 0 < sz ∧ rows.length ≤ c ∧ (∀ r ∈ rows, r.length = sz) ∧ c * sz ≤ ds.size ∧ ∀ (j : Nat) (v : AVal), cellAt sz rows j = some v → ∃ c, ds[j]? = some c ∧ c.oneCell' = true ∧ Rep w E H v c) :
    Evo (Xβ β) w E H w' (pushEnv E H.length w.heap.size c) (H ++ [obj]) ∧ FS w' a (pushEnv E H.length w.heap.size c) (H ++ [obj]) β T B G := by
  have ev := evo_push (X := Xβ β) fs.sim h obj c
  have hs := ev.sees
  have last : (H ++ [obj])[H.length]? = some obj := by simp
  refine ⟨ev, fs.keep ?_ hs (by rw [h.size]; omega) (fun t b hb => (fs.box t b hb).1) (fun t b hb k hk => ?_) (fun t b hb => h.old (fs.box t b hb).2.1)⟩
  · refine ⟨fun b hb => by rw [h.size]; have := fs.sim.immLt b hb; omega, fun k cs hc => ?_, fun k sz rows u hc => ?_, fun k hk => ?_, fun k l hk hl he => ?_⟩
    · rcases Nat.lt_or_ge k H.length with g | g
      · rw [List.getElem?_append_left g] at hc
        have e : (pushEnv E H.length w.heap.size c).φ k = E.φ k := by simp only [pushEnv]; rw [upd_other _ _ (by omega)]
        rw [e]
        exact (fs.sim.var k cs hc).mono hs (h.old (fs.sim.apart k (.inl (var_of_get hc))).2)
      · have hk : k = H.length := by
          have := isVar_lt (var_of_get hc); simp at this; omega
        subst hk
        rw [last] at hc
        obtain ⟨k1, k2⟩ := hv cs (Option.some.inj hc)
        refine ⟨ds, ty, fr, by simpa [pushEnv] using h.new, by omega, fun o ho => hth o (by omega), fun j v hv => ?_⟩
        obtain ⟨c, g1, g2, g3⟩ := k2 j v hv
        exact ⟨c, g1, g2, g3.mono hs⟩
    · rcases Nat.lt_or_ge k H.length with g | g
      · rw [List.getElem?_append_left g] at hc
        have e : (pushEnv E H.length w.heap.size c).φ k = E.φ k := by simp only [pushEnv]; rw [upd_other _ _ (by omega)]
        have e' : (pushEnv E H.length w.heap.size c).cap k = E.cap k := by simp only [pushEnv]; rw [upd_other _ _ (by omega)]
        rw [e, e']
        obtain ⟨h1, h2, h3, h4⟩ := fs.sim.arr k sz rows u hc
        exact ⟨h1, h2, h3, fun hcap => (h4 hcap).mono hs (h.old (fs.sim.apart k (.inr ⟨⟨sz, u, arr_of_get hc⟩, hcap⟩)).2)⟩
      · have hk : k = H.length := by
          have := arrInfo_lt (arr_of_get hc); simp at this; omega
        subst hk
        rw [last] at hc
        obtain ⟨k1, k2, k3, k4, k5⟩ := hr sz rows u (Option.some.inj hc)
        refine ⟨k1, by simpa [pushEnv] using k2, k3, fun hcap => ⟨ds, ty, fr, by simpa [pushEnv] using h.new, by simpa [pushEnv] using k4, fun o ho => hth o (by simp only [pushEnv, upd_same] at ho; omega), fun j v hv => ?_⟩⟩
        obtain ⟨c, g1, g2, g3⟩ := k5 j v hv
        exact ⟨c, g1, g2, g3.mono hs⟩
    · rcases live_append hk with ⟨h1, h2⟩ | rfl
      · have e : (pushEnv E H.length w.heap.size c).φ k = E.φ k := by simp only [pushEnv]; rw [upd_other _ _ (by omega)]
        rw [e, h.size]
        exact ⟨(fs.sim.apart k h1).1, by have := (fs.sim.apart k h1).2; omega⟩
      · simp only [pushEnv, upd_same, h.size]
        exact ⟨fun hi => Nat.lt_irrefl _ (fs.sim.immLt _ hi), by omega⟩
    · rcases live_append hk with ⟨h1, h2⟩ | rfl <;> rcases live_append hl with ⟨g1, g2⟩ | rfl
      · simp only [pushEnv] at he
        rw [upd_other _ _ (by omega), upd_other _ _ (by omega)] at he
        exact fs.sim.inj k l h1 g1 he
      · simp only [pushEnv, upd_same] at he
        rw [upd_other _ _ (by omega)] at he
        have := (fs.sim.apart k h1).2; omega
      · simp only [pushEnv, upd_same] at he
        rw [upd_other _ _ (by omega)] at he
        have := (fs.sim.apart l g1).2; omega
      · rfl
  · rcases live_append hk with ⟨h1, h2⟩ | rfl
    · simp only [pushEnv]; rw [upd_other _ _ (by omega)]
      exact (fs.box t b hb).2.2.1 k h1
    · simp only [pushEnv, upd_same]
      have := (fs.box t b hb).2.1; omega
end Go.Mu
