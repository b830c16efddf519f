/-
  Mu: new blocks: a box of the frame, an object of the heap, plain data.
-/
import Derived.Test.YtlbmedmddoljnaaDoorMuStore
set_option linter.unusedVariables false
set_option linter.unusedSimpArgs false
namespace Go.Mu
open Go
variable {P : Program} {w w' : World} {a : Act} {E E' : Env} {H H' : Heap} {β : Nat → Option Nat} {T : List AVal} {B : Boxes} {G : Tags} {o : Oper}

def upd {α : Type} (f : Nat → α) (k : Nat) (v : α) : Nat → α := fun x => if x = k then v else f x
@[simp] theorem upd_same {α : Type} (f : Nat → α) (k : Nat) (v : α) : upd f k v k = v := by simp [upd]
theorem upd_other {α : Type} (f : Nat → α) {k x : Nat} (v : α) (h : x ≠ k) : upd f k v x = f x := by simp [upd, h]

/-- w' is w with one new block of cells, and perhaps some draws -/
structure Pushed (w w' : World) (ds : Array Value) (ty : TypeId) (fr : Nat × Nat) : Prop where
  heap : w'.heap = w.heap.push (.cells ds ty fr)
  tape : w'.tape = w.tape
  os : w'.os = w.os
  output : w'.output = w.output

theorem Pushed.size {ds ty fr} (h : Pushed w w' ds ty fr) : w'.heap.size = w.heap.size + 1 := by rw [h.heap]; simp
theorem Pushed.new {ds ty fr} (h : Pushed w w' ds ty fr) : w'.heap[w.heap.size]? = some (.cells ds ty fr) := by rw [h.heap]; simp
theorem Pushed.old {ds ty fr} (h : Pushed w w' ds ty fr) {b : Nat} (hb : b < w.heap.size) : w'.heap[b]? = w.heap[b]? := by
  rw [h.heap, Array.getElem?_push, if_neg (by omega)]

theorem isVar_append {obj : Obj} {l : Nat} (h : l < H.length) : isVar (H ++ [obj]) l = isVar H l := by simp [isVar, List.getElem?_append_left h]
theorem arrInfo_append {obj : Obj} {l : Nat} (h : l < H.length) : arrInfo (H ++ [obj]) l = arrInfo H l := by simp [arrInfo, List.getElem?_append_left h]
theorem isVar_lt {k : Nat} (h : isVar H k = true) : k < H.length := live_lt (E := ⟨fun _ => False, id, id⟩) (.inl h)
theorem arrInfo_lt {k sz u : Nat} (h : arrInfo H k = some (sz, u)) : k < H.length := live_lt (E := ⟨fun _ => False, id, fun _ => 1⟩) (.inr ⟨⟨sz, u, h⟩, by simp⟩)

/-- plain: nothing of the heap or of the environment turns, but that new data may be immutable -/
theorem fresh_imm (fs : FS w a E H β T B G) {ds ty fr} (h : Pushed w w' ds ty fr) :
    Evo (Xβ β) w E H w' { E with imm := fun x => E.imm x ∨ x = w.heap.size } H ∧ FS w' a { E with imm := fun x => E.imm x ∨ x = w.heap.size } H β T B G := by
  have ev : Evo (Xβ β) w E H w' { E with imm := fun x => E.imm x ∨ x = w.heap.size } H := by
    refine ⟨by rw [h.size]; omega, fun b hb _ _ => h.old hb, fun b hb => ⟨.inl hb, h.old (fs.sim.immLt b hb)⟩, fun b hb => ?_, fun k hk => ⟨hk, rfl⟩, fun k sz u hk => ⟨u, hk, Nat.le_refl _, fun _ => ⟨rfl, fun _ => rfl⟩⟩,
      fun k hk => .inr ⟨hk, rfl⟩, Nat.le_refl _, h.tape, h.os, h.output⟩
    rcases hb with hb | hb
    · exact .inl hb
    · exact .inr (by omega)
  have hs := ev.sees
  refine ⟨ev, fs.keep ?_ hs (by rw [h.size]; omega) (fun t b hb => ?_) (fun t b hb k hk => (fs.box t b hb).2.2.1 k hk) (fun t b hb => h.old (fs.box t b hb).2.1)⟩
  · refine ⟨fun b hb => ?_, fun k cs hc => (fs.sim.var k cs hc).mono hs (h.old (fs.sim.apart k (.inl (var_of_get hc))).2), fun k sz rows u hc => ?_, fun k hk => ⟨?_, ?_⟩, fs.sim.inj, fun j t n hj hl => (fs.sim.note j t n hj hl).same (h.old (fs.sim.apart _ hl).2), fs.sim.glob.mono hs.imm⟩
    · rw [h.size]
      rcases hb with hb | hb
      · have := fs.sim.immLt b hb; omega
      · omega
    · obtain ⟨h1, h2, h3, h4⟩ := fs.sim.arr k sz rows u hc
      exact ⟨h1, h2, h3, fun hcap => (h4 hcap).mono hs (h.old (fs.sim.apart k (.inr ⟨⟨sz, u, arr_of_get hc⟩, hcap⟩)).2)⟩
    · rintro (hb | hb)
      · exact (fs.sim.apart k hk).1 hb
      · have := (fs.sim.apart k hk).2; simp only at hb; omega
    · rw [h.size]; have := (fs.sim.apart k hk).2; simp only; omega
  · rintro (hb' | hb')
    · exact (fs.box t b hb).1 hb'
    · have := (fs.box t b hb).2.1; omega

/-- draws alone -/
theorem only_drawn (fs : FS w a E H β T B G) (hh : w'.heap = w.heap) (h1 : w'.tape = w.tape) (h2 : w'.os = w.os) (h3 : w'.output = w.output) :
    Evo (Xβ β) w E H w' E H ∧ FS w' a E H β T B G := by
  have ev : Evo (Xβ β) w E H w' E H :=
    ⟨by rw [hh]; exact Nat.le_refl _, fun b _ _ _ => by rw [hh], fun b hb => ⟨hb, by rw [hh]⟩, fun b hb => .inl hb, fun k hk => ⟨hk, rfl⟩, fun k sz u hk => ⟨u, hk, Nat.le_refl _, fun _ => ⟨rfl, fun _ => rfl⟩⟩,
      fun k hk => .inr ⟨hk, rfl⟩, Nat.le_refl _, h1, h2, h3⟩
  exact ⟨ev, fs.keep (fs.sim.keep ev.sees (fun k _ => by rw [hh]) (by rw [hh]; exact Nat.le_refl _)) ev.sees (by rw [hh]; exact Nat.le_refl _) (fun t b hb => (fs.box t b hb).1) (fun t b hb => (fs.box t b hb).2.2.1) (fun t b hb => by rw [hh])⟩

/-- a new box of the frame -/
theorem fresh_box (fs : FS w a E H β T B G) {ds ty} (h : Pushed w w' ds ty (0, 0)) {d : Nat} {z : List AVal} (hd : d < B.length) (hT : T.any (pointsTo d) = false)
    (hz : ds.size = z.length) (hr : ∀ (j : Nat) (v : AVal), z[j]? = some v → ∃ c, ds[j]? = some c ∧ c.oneCell' = true ∧ Rep w E H v c) :
    Evo (Xβ β) w E H w' E H ∧ FS w' a E H (upd β d (some w.heap.size)) T (bset B d z) G := by
  have ev : Evo (Xβ β) w E H w' E H :=
    ⟨by rw [h.size]; omega, fun b hb _ _ => h.old hb, fun b hb => ⟨hb, h.old (fs.sim.immLt b hb)⟩, fun b hb => .inl hb, fun k hk => ⟨hk, rfl⟩, fun k sz u hk => ⟨u, hk, Nat.le_refl _, fun _ => ⟨rfl, fun _ => rfl⟩⟩,
      fun k hk => .inr ⟨hk, rfl⟩, Nat.le_refl _, h.tape, h.os, h.output⟩
  have hs := ev.sees
  have sim : Sim w' E H := fs.sim.keep hs (fun k hk => h.old (fs.sim.apart k hk).2) (by rw [h.size]; omega)
  refine ⟨ev, sim, fs.tsize, by simp [bset, fs.bsize], fs.gsize, fun t ht => ?_, fun t b hb => ?_, fun t u b ht hu => ?_⟩
  · have hr := fs.vals t ht
    have hne : ∀ off, T.getD t .undef ≠ .ptr (.tmp d) off := by
      intro off e
      have hm : AVal.ptr (.tmp d) off ∈ T := by
        rw [← e, List.getD_eq_getElem?_getD]
        rcases Nat.lt_or_ge t T.length with g | g
        · rw [List.getElem?_eq_getElem g]; exact List.getElem_mem g
        · rw [List.getD_eq_getElem?_getD, List.getElem?_eq_none g] at e; simp at e
      have := List.any_eq_false.1 hT _ hm
      simp [pointsTo] at this
    generalize T.getD t .undef = v at *
    generalize a.tmps.getD t undef = c at *
    cases hr with
    | box u off b hb =>
      refine .box u off b ?_
      rw [upd_other _ _ (fun e => hne off (by rw [e]))]
      exact hb
    | val v c r => exact .val _ _ (r.mono hs)
  · by_cases e : t = d
    · subst e
      rw [upd_same] at hb
      obtain rfl := Option.some.inj hb
      refine ⟨fun hi => Nat.lt_irrefl _ (fs.sim.immLt _ hi), by rw [h.size]; omega, fun k hk he => by have := (fs.sim.apart k hk).2; omega, ?_⟩
      have e2 : (bset B t z).getD t [] = z := by simp [bset, List.getD_eq_getElem?_getD, hd]
      rw [e2]
      refine ⟨ds, ty, (0, 0), h.new, by omega, fun o _ hc => by omega, fun j v hv => ?_⟩
      obtain ⟨c, g1, g2, g3⟩ := hr j v hv
      exact ⟨c, g1, g2, g3.mono hs⟩
    · rw [upd_other _ _ e] at hb
      obtain ⟨j1, j2, j3, j4⟩ := fs.box t b hb
      have e2 : (bset B d z).getD t [] = B.getD t [] := by simp [bset, List.getD_eq_getElem?_getD, List.getElem?_set_ne (Ne.symm e)]
      rw [e2]
      exact ⟨j1, by rw [h.size]; omega, j3, j4.mono hs (h.old j2)⟩
  · by_cases e1 : t = d <;> by_cases e2 : u = d
    · rw [e1, e2]
    · subst e1
      rw [upd_same] at ht; rw [upd_other _ _ e2] at hu
      obtain rfl := Option.some.inj ht
      exact absurd (fs.box u _ hu).2.1 (Nat.lt_irrefl _)
    · subst e2
      rw [upd_same] at hu; rw [upd_other _ _ e1] at ht
      obtain rfl := Option.some.inj hu
      exact absurd (fs.box t _ ht).2.1 (Nat.lt_irrefl _)
    · rw [upd_other _ _ e1] at ht; rw [upd_other _ _ e2] at hu
      exact fs.binj t u b ht hu

def pushEnv (E : Env) (k b c : Nat) : Env := { imm := E.imm, φ := upd E.φ k b, cap := upd E.cap k c }

theorem live_append {obj : Obj} {k b c : Nat} : live (pushEnv E H.length b c) (H ++ [obj]) k → (live E H k ∧ k < H.length) ∨ k = H.length := by
  intro h
  have hlt := live_lt h
  simp only [List.length_append, List.length_singleton] at hlt
  by_cases e : k = H.length
  · exact .inr e
  · refine .inl ⟨?_, by omega⟩
    simp only [live, isVar_append (H := H) (obj := obj) (show k < H.length by omega), arrInfo_append (H := H) (obj := obj) (show k < H.length by omega), pushEnv, upd_other _ _ e] at h
    exact h
theorem evo_push {X} (hsim : Sim w E H) {ds ty fr} (h : Pushed w w' ds ty fr) (obj : Obj) (c : Nat) : Evo X w E H w' (pushEnv E H.length w.heap.size c) (H ++ [obj]) := by
  refine ⟨by rw [h.size]; omega, fun b hb _ _ => h.old hb, fun b hb => ⟨hb, h.old (hsim.immLt b hb)⟩, fun b hb => .inl hb, fun k hk => ?_, fun k sz u hk => ?_, fun k hk => ?_, by simp, h.tape, h.os, h.output⟩
  · have := isVar_lt hk
    exact ⟨by rw [isVar_append this]; exact hk, by simp only [pushEnv]; rw [upd_other _ _ (by omega)]⟩
  · have := arrInfo_lt hk
    exact ⟨u, by rw [arrInfo_append this]; exact hk, Nat.le_refl _, fun _ => ⟨by simp only [pushEnv]; rw [upd_other _ _ (by omega)], fun _ => by simp only [pushEnv]; rw [upd_other _ _ (by omega)]⟩⟩
  · rcases live_append hk with ⟨h1, h2⟩ | rfl
    · exact .inr ⟨h1, by simp only [pushEnv]; rw [upd_other _ _ (by omega)]⟩
    · exact .inl (by simp [pushEnv])
theorem get_note_append {obj : Obj} (hno : ∀ t n, obj ≠ .note t n) {j : Nat} {t : TypeId} {n : Nat} (h : (H ++ [obj])[j]? = some (.note t n)) : H[j]? = some (.note t n) ∧ j < H.length := by
  rcases Nat.lt_or_ge j H.length with g | g
  · rw [List.getElem?_append_left g] at h; exact ⟨h, g⟩
  · rw [List.getElem?_append_right g] at h
    cases hj : j - H.length with
    | zero => rw [hj] at h; exact absurd (Option.some.inj h) (hno t n)
    | succ m => rw [hj] at h; simp at h
theorem note_not_live {j : Nat} {t : TypeId} {n : Nat} (h : H[j]? = some (.note t n)) : ¬ live E H j := by
  rintro (hl | ⟨⟨sz, u, hl⟩, _⟩)
  · simp [isVar, h] at hl
  · simp [arrInfo, h] at hl
theorem live_note_append {obj : Obj} {j b c : Nat} {t : TypeId} {n : Nat} (h : H[j]? = some (.note t n)) (hl : live (pushEnv E H.length b c) (H ++ [obj]) (j - 1)) : live E H (j - 1) ∧ j - 1 < H.length := by
  have hj : j < H.length := (List.getElem?_eq_some_iff.1 h).1
  rcases live_append hl with h1 | h1
  · exact h1
  · omega
theorem live_note_last {t : TypeId} {n k : Nat} (hl : live E (H ++ [.note t n]) k) : live E H k ∧ k < H.length := by
  have hlt := live_lt hl
  simp only [List.length_append, List.length_singleton] at hlt
  by_cases e : k = H.length
  · subst e
    exact absurd hl (note_not_live (t := t) (n := n) (by simp))
  · simp only [live, isVar_append (H := H) (obj := .note t n) (show k < H.length by omega), arrInfo_append (H := H) (obj := .note t n) (show k < H.length by omega)] at hl
    exact ⟨hl, by omega⟩
/-- what is known of the last object's block, noted -/
theorem push_note {X} (hsim : Sim w E H) {t : TypeId} {n : Nat} (h : live E H (H.length - 1) → NoteOK w (E.φ (H.length - 1)) t n) : Evo X w E H w E (H ++ [.note t n]) ∧ Sim w E (H ++ [.note t n]) := by
  have ev : Evo X w E H w E (H ++ [.note t n]) := by
    refine ⟨Nat.le_refl _, fun _ _ _ _ => rfl, fun b hb => ⟨hb, rfl⟩, fun b hb => .inl hb, fun k hk => ?_, fun k sz u hk => ?_, fun k hk => .inr ⟨(live_note_last hk).1, rfl⟩, by simp, rfl, rfl, rfl⟩
    · exact ⟨by rw [isVar_append (isVar_lt hk)]; exact hk, rfl⟩
    · exact ⟨u, by rw [arrInfo_append (arrInfo_lt hk)]; exact hk, Nat.le_refl _, fun _ => ⟨rfl, fun _ => rfl⟩⟩
  have hs := ev.sees
  have get : ∀ {k : Nat} {obj : Obj}, (∀ t n, obj ≠ .note t n) → (H ++ [.note t n])[k]? = some obj → H[k]? = some obj := fun {k obj} hno hk => by
    rcases Nat.lt_or_ge k H.length with g | g
    · rwa [List.getElem?_append_left g] at hk
    · rw [List.getElem?_append_right g] at hk
      cases hj : k - H.length with
      | zero => rw [hj] at hk; exact absurd (Option.some.inj hk).symm (hno t n)
      | succ m => rw [hj] at hk; simp at hk
  refine ⟨ev, hsim.immLt, fun k cs hc => ?_, fun k sz rows u hc => ?_, fun k hk => hsim.apart k (live_note_last hk).1, fun k l hk hl he => hsim.inj k l (live_note_last hk).1 (live_note_last hl).1 he, fun j t' n' hj hl => ?_, hsim.glob⟩
  · exact (hsim.var k cs (get (fun _ _ e => by cases e) hc)).mono hs rfl
  · obtain ⟨g1, g2, g3, g4⟩ := hsim.arr k sz rows u (get (fun _ _ e => by cases e) hc)
    exact ⟨g1, g2, g3, fun hcap => (g4 hcap).mono hs rfl⟩
  · obtain ⟨hl1, hl2⟩ := live_note_last hl
    rcases Nat.lt_or_ge j H.length with g | g
    · rw [List.getElem?_append_left g] at hj
      exact hsim.note j t' n' hj hl1
    · rw [List.getElem?_append_right g] at hj
      cases hq : j - H.length with
      | zero =>
        rw [hq] at hj
        simp only [List.getElem?_cons_zero, Option.some.injEq, Obj.note.injEq] at hj
        obtain ⟨rfl, rfl⟩ := hj
        obtain rfl : j = H.length := by omega
        exact h hl1
      | succ m => rw [hq] at hj; simp at hj
theorem fresh_note (fs : FS w a E H β T B G) {t : TypeId} {n : Nat} (h : live E H (H.length - 1) → NoteOK w (E.φ (H.length - 1)) t n) : Evo (Xβ β) w E H w E (H ++ [.note t n]) ∧ FS w a E (H ++ [.note t n]) β T B G := by
  obtain ⟨ev, sim⟩ := push_note (X := Xβ β) fs.sim h
  exact ⟨ev, fs.keep sim ev.sees (Nat.le_refl _) (fun t b hb => (fs.box t b hb).1) (fun t b hb k hk => (fs.box t b hb).2.2.1 k (live_note_last hk).1) (fun t b hb => rfl)⟩
/-- a new object of the heap -/
theorem fresh_obj (fs : FS w a E H β T B G) {ds ty fr} (h : Pushed w w' ds ty fr) (hth : thawed fr ds.size) {obj : Obj} {c : Nat}
    (hv : ∀ cs, obj = .var cs → ds.size = cs.length ∧ ∀ (j : Nat) (v : AVal), cs[j]? = some v → ∃ c, ds[j]? = some c ∧ c.oneCell' = true ∧ Rep w E H v c)
    (hr : ∀ sz rows u, obj = .arr sz rows u → 0 < sz ∧ rows.length ≤ c ∧ (∀ r ∈ rows, r.length = sz) ∧ c * sz ≤ ds.size ∧ ∀ (j : Nat) (v : AVal), cellAt sz rows j = some v → ∃ c, ds[j]? = some c ∧ c.oneCell' = true ∧ Rep w E H v c)
    (hno : ∀ t n, obj ≠ .note t n := by intro t n e; cases e) :
    Evo (Xβ β) w E H w' (pushEnv E H.length w.heap.size c) (H ++ [obj]) ∧ FS w' a (pushEnv E H.length w.heap.size c) (H ++ [obj]) β T B G := by
  have ev := evo_push (X := Xβ β) fs.sim h obj c
  have hs := ev.sees
  have last : (H ++ [obj])[H.length]? = some obj := by simp
  refine ⟨ev, fs.keep ?_ hs (by rw [h.size]; omega) (fun t b hb => (fs.box t b hb).1) (fun t b hb k hk => ?_) (fun t b hb => h.old (fs.box t b hb).2.1)⟩
  · refine ⟨fun b hb => by rw [h.size]; have := fs.sim.immLt b hb; omega, fun k cs hc => ?_, fun k sz rows u hc => ?_, fun k hk => ?_, fun k l hk hl he => ?_, fun j t n hj hl => ?_, fs.sim.glob.mono hs.imm⟩
    rotate_left 4
    · obtain ⟨hj, hlt⟩ := get_note_append hno hj
      obtain ⟨h1, h2⟩ := live_note_append hj hl
      have e : (pushEnv E H.length w.heap.size c).φ (j - 1) = E.φ (j - 1) := by simp only [pushEnv]; rw [upd_other _ _ (by omega)]
      rw [e]
      exact (fs.sim.note j t n hj h1).same (h.old (fs.sim.apart _ h1).2)
    · rcases Nat.lt_or_ge k H.length with g | g
      · rw [List.getElem?_append_left g] at hc
        have e : (pushEnv E H.length w.heap.size c).φ k = E.φ k := by simp only [pushEnv]; rw [upd_other _ _ (by omega)]
        rw [e]
        exact (fs.sim.var k cs hc).mono hs (h.old (fs.sim.apart k (.inl (var_of_get hc))).2)
      · have hk : k = H.length := by
          have := isVar_lt (var_of_get hc); simp at this; omega
        subst hk
        rw [last] at hc
        obtain ⟨k1, k2⟩ := hv cs (Option.some.inj hc)
        refine ⟨ds, ty, fr, by simpa [pushEnv] using h.new, by omega, fun o ho => hth o (by omega), fun j v hv => ?_⟩
        obtain ⟨c, g1, g2, g3⟩ := k2 j v hv
        exact ⟨c, g1, g2, g3.mono hs⟩
    · rcases Nat.lt_or_ge k H.length with g | g
      · rw [List.getElem?_append_left g] at hc
        have e : (pushEnv E H.length w.heap.size c).φ k = E.φ k := by simp only [pushEnv]; rw [upd_other _ _ (by omega)]
        have e' : (pushEnv E H.length w.heap.size c).cap k = E.cap k := by simp only [pushEnv]; rw [upd_other _ _ (by omega)]
        rw [e, e']
        obtain ⟨h1, h2, h3, h4⟩ := fs.sim.arr k sz rows u hc
        exact ⟨h1, h2, h3, fun hcap => (h4 hcap).mono hs (h.old (fs.sim.apart k (.inr ⟨⟨sz, u, arr_of_get hc⟩, hcap⟩)).2)⟩
      · have hk : k = H.length := by
          have := arrInfo_lt (arr_of_get hc); simp at this; omega
        subst hk
        rw [last] at hc
        obtain ⟨k1, k2, k3, k4, k5⟩ := hr sz rows u (Option.some.inj hc)
        refine ⟨k1, by simpa [pushEnv] using k2, k3, fun hcap => ⟨ds, ty, fr, by simpa [pushEnv] using h.new, by simpa [pushEnv] using k4, fun o ho => hth o (by simp only [pushEnv, upd_same] at ho; omega), fun j v hv => ?_⟩⟩
        obtain ⟨c, g1, g2, g3⟩ := k5 j v hv
        exact ⟨c, g1, g2, g3.mono hs⟩
    · rcases live_append hk with ⟨h1, h2⟩ | rfl
      · have e : (pushEnv E H.length w.heap.size c).φ k = E.φ k := by simp only [pushEnv]; rw [upd_other _ _ (by omega)]
        rw [e, h.size]
        exact ⟨(fs.sim.apart k h1).1, by have := (fs.sim.apart k h1).2; omega⟩
      · simp only [pushEnv, upd_same, h.size]
        exact ⟨fun hi => Nat.lt_irrefl _ (fs.sim.immLt _ hi), by omega⟩
    · rcases live_append hk with ⟨h1, h2⟩ | rfl <;> rcases live_append hl with ⟨g1, g2⟩ | rfl
      · simp only [pushEnv] at he
        rw [upd_other _ _ (by omega), upd_other _ _ (by omega)] at he
        exact fs.sim.inj k l h1 g1 he
      · simp only [pushEnv, upd_same] at he
        rw [upd_other _ _ (by omega)] at he
        have := (fs.sim.apart k h1).2; omega
      · simp only [pushEnv, upd_same] at he
        rw [upd_other _ _ (by omega)] at he
        have := (fs.sim.apart l g1).2; omega
      · rfl
  · rcases live_append hk with ⟨h1, h2⟩ | rfl
    · simp only [pushEnv]; rw [upd_other _ _ (by omega)]
      exact (fs.box t b hb).2.2.1 k h1
    · simp only [pushEnv, upd_same]
      have := (fs.box t b hb).2.1; omega
theorem get_lt {k : Nat} {obj : Obj} (h : H[k]? = some obj) : k < H.length := by
  rcases Nat.lt_or_ge k H.length with g | g
  · exact g
  · rw [List.getElem?_eq_none g] at h; cases h
/-- a new array of no elements, without a block -/
theorem fresh_virtual (fs : FS w a E H β T B G) {sz : Nat} (hsz : 0 < sz) :
    Evo (Xβ β) w E H w (pushEnv E H.length 0 0) (H ++ [.arr sz [] 0]) ∧ FS w a (pushEnv E H.length 0 0) (H ++ [.arr sz [] 0]) β T B G := by
  have hl : ∀ k, live (pushEnv E H.length 0 0) (H ++ [.arr sz [] 0]) k → live E H k ∧ k < H.length := by
    intro k hk
    rcases live_append hk with h | rfl
    · exact h
    · rcases hk with hk | ⟨_, hk⟩
      · simp [isVar] at hk
      · simp [pushEnv] at hk
  have ev : Evo (Xβ β) w E H w (pushEnv E H.length 0 0) (H ++ [.arr sz [] 0]) := by
    refine ⟨Nat.le_refl _, fun _ _ _ _ => rfl, fun b hb => ⟨hb, rfl⟩, fun b hb => .inl hb, fun k hk => ?_, fun k sz u hk => ?_, fun k hk => ?_, by simp, rfl, rfl, rfl⟩
    · have := isVar_lt hk
      exact ⟨by rw [isVar_append this]; exact hk, by simp only [pushEnv]; rw [upd_other _ _ (by omega)]⟩
    · have := arrInfo_lt hk
      exact ⟨u, by rw [arrInfo_append this]; exact hk, Nat.le_refl _, fun _ => ⟨by simp only [pushEnv]; rw [upd_other _ _ (by omega)], fun _ => by simp only [pushEnv]; rw [upd_other _ _ (by omega)]⟩⟩
    · obtain ⟨h1, h2⟩ := hl k hk
      exact .inr ⟨h1, by simp only [pushEnv]; rw [upd_other _ _ (by omega)]⟩
  have hs := ev.sees
  have φe : ∀ k, k < H.length → (pushEnv E H.length 0 0).φ k = E.φ k := fun k hk => by simp only [pushEnv]; rw [upd_other _ _ (by omega)]
  have ce : ∀ k, k < H.length → (pushEnv E H.length 0 0).cap k = E.cap k := fun k hk => by simp only [pushEnv]; rw [upd_other _ _ (by omega)]
  refine ⟨ev, fs.keep ?_ hs (Nat.le_refl _) (fun t b hb => (fs.box t b hb).1) (fun t b hb k hk => ?_) (fun t b hb => rfl)⟩
  · refine ⟨fs.sim.immLt, fun k cs hc => ?_, fun k sz' rows u hc => ?_, fun k hk => ?_, fun k l hk hl' he => ?_, fun j t n hj hl' => ?_, fs.sim.glob.mono hs.imm⟩
    rotate_left 4
    · obtain ⟨hj, hlt⟩ := get_note_append (fun t n e => by cases e) hj
      obtain ⟨h1, h2⟩ := hl _ hl'
      rw [φe _ h2]; exact fs.sim.note j t n hj h1
    · rcases Nat.lt_or_ge k H.length with g | g
      · rw [List.getElem?_append_left g] at hc
        rw [φe k g]
        exact (fs.sim.var k cs hc).mono hs rfl
      · have hk : k = H.length := by have := get_lt hc; simp at this; omega
        subst hk; simp at hc
    · rcases Nat.lt_or_ge k H.length with g | g
      · rw [List.getElem?_append_left g] at hc
        rw [φe k g, ce k g]
        obtain ⟨h1, h2, h3, h4⟩ := fs.sim.arr k sz' rows u hc
        exact ⟨h1, h2, h3, fun hcap => (h4 hcap).mono hs rfl⟩
      · have hk : k = H.length := by have := get_lt hc; simp at this; omega
        subst hk
        simp only [List.getElem?_append_right (Nat.le_refl _), Nat.sub_self, List.getElem?_cons_zero, Option.some.injEq, Obj.arr.injEq] at hc
        obtain ⟨rfl, rfl, rfl⟩ := hc
        exact ⟨hsz, Nat.zero_le _, fun r hr => by simp at hr, fun hcap => by simp [pushEnv] at hcap⟩
    · obtain ⟨h1, h2⟩ := hl k hk
      rw [φe k h2]; exact fs.sim.apart k h1
    · obtain ⟨h1, h2⟩ := hl k hk
      obtain ⟨g1, g2⟩ := hl l hl'
      rw [φe k h2, φe l g2] at he
      exact fs.sim.inj k l h1 g1 he
  · obtain ⟨h1, h2⟩ := hl k hk
    rw [φe k h2]; exact (fs.box t b hb).2.2.1 k h1

theorem fresh_ghosts : ∀ (l : List (Nat × TypeId)) {E : Env} {H : Heap}, FS w a E H β T B G → ∃ E', Evo (Xβ β) w E H w E' (H ++ ghostsOf l) ∧ FS w a E' (H ++ ghostsOf l) β T B G
  | [], E, H, fs => ⟨E, by simpa [ghostsOf] using Evo.refl, by simpa [ghostsOf] using fs⟩
  | (m, t) :: l, E, H, fs => by
    obtain ⟨ev1, fs1⟩ := fresh_virtual fs (sz := m + 1) (by omega)
    obtain ⟨ev2, fs2⟩ := fresh_note fs1 (t := t) (n := 0) (fun hl => by
      rcases hl with hl | ⟨_, hl⟩
      · simp [isVar] at hl
      · simp [pushEnv] at hl)
    obtain ⟨E3, ev3, fs3⟩ := fresh_ghosts l fs2
    have ev := (ev1.trans ev2 (fun x hx => .inl hx)).trans ev3 (fun x hx => .inl hx)
    have eq : (H ++ [Obj.arr (m + 1) [] 0]) ++ [.note t 0] ++ ghostsOf l = H ++ ghostsOf ((m, t) :: l) := by simp [ghostsOf]
    rw [eq] at ev fs3
    exact ⟨E3, ev, fs3⟩
end Go.Mu
