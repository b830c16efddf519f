/-
  Mu: one operation that is no call: all together.
-/
import Derived.Test.YtlbmedmddoljnaaMuStep7
set_option linter.unusedVariables false
set_option linter.unusedSimpArgs false
namespace Go.Mu
open Go
variable {P : Program} {fh : FH} {w w' : World} {a : Act} {E E' : Env} {H H' : Heap} {β : Nat → Option Nat} {T : List AVal} {B : Boxes} {G : Tags}
  {r : SR}

/-- what an operation's operands must be -/
def okOp (T : List AVal) (G : Tags) (o : Oper) : Prop :=
  match o.op with
  | .pick c x y => (∀ t, c = .tmp t → valid G t = true) ∧ (aeval T c = .bool true → ∀ t, x = .tmp t → valid G t = true) ∧ (aeval T c = .bool false → ∀ t, y = .tmp t → valid G t = true)
  | _ => okTmps G o

theorem storeA_v {p : AVal} {cs : List AVal} (h : storeA B H p cs = some r) : r.v = .undef := by
  unfold storeA at h
  split at h
  · simp only [Option.some.injEq] at h; subst h; rfl
  · split at h
    · simp only [Option.some.injEq] at h; subst h; rfl
    · simp at h
  · split at h
    · simp only [Option.some.injEq] at h; subst h; rfl
    · simp at h
  · simp at h

theorem Sound.ok {o : Oper} {r r' : SR} (hv : r.v = r'.v) (hB : r.B = r'.B) (hH : r.H = r'.H) (h : Sound P w a E H β T G o r) : Sound P w a E H β T G o r' := by
  unfold Sound at *
  rw [← hv, ← hB, ← hH]; exact h

theorem step_sound (fs : FS w a E H β T B G) {o : Oper} (hv : okOp T G o) (h : stepOp P fh T B H o = some r) (hok : r.ok = true) : Sound P w a E H β T G o r := by
  obtain ⟨dst, op, type, pos, after, guard⟩ := o
  cases op <;> simp only [stepOp, okOp] at h hv <;> try contradiction
  case move x => simp only [Option.some.injEq] at h; subst h; exact step_move fs hv
  case assign x => simp only [Option.some.injEq] at h; subst h; exact step_assign fs hv
  case pick c x y =>
    split at h
    · rename_i q hq
      simp only [Option.some.injEq] at h; subst h
      rw [hq] at hv
      exact step_pick fs hq hv.1 (fun e => by subst e; exact hv.2.1 rfl) (fun e => by subst e; exact hv.2.2 rfl)
    · simp at h
  case alloc t =>
    split at h
    · rename_i d z hz
      split at h
      · simp only [Option.some.injEq] at h; subst h; exact (step_alloc fs hz).1
      · split at h
        · rename_i hd
          simp only [Option.some.injEq] at h; subst h
          exact ((step_alloc fs hz).2 hd (by simpa using hok)).ok rfl rfl rfl
        · simp at h
    · simp at h
  case box t x =>
    split at h
    · rename_i d z hz
      split at h
      · simp only [Option.some.injEq] at h; subst h; exact ((step_box fs hv hz (by simpa using hok)).1).ok rfl rfl rfl
      · split at h
        · rename_i hd
          simp only [Option.some.injEq] at h; subst h
          simp only [Bool.and_eq_true, Bool.not_eq_true'] at hok
          exact ((step_box fs hv hz hok.1).2 hd hok.2).ok rfl rfl rfl
        · simp at h
    · simp at h
  case build t ps =>
    split at h
    · rename_i v hb
      simp only [Option.some.injEq] at h; subst h
      exact (step_build fs hv hb hok).ok rfl rfl rfl
    · simp at h
  case buildSlice t n ps =>
    split at h
    · rename_i e he
      split at h
      · rename_i sz hs
        split at h
        · rename_i rows hr
          split at h
          · rename_i hc
            obtain ⟨c1, c2, c3, c4⟩ := hc
            split at h
            · simp only [Option.some.injEq] at h; subst h
              exact ((step_buildSlice fs hv he hs hr c1 c2 c3 c4 hok).1).ok rfl rfl rfl
            · simp only [Option.some.injEq] at h; subst h
              simp only [Bool.and_eq_true] at hok
              exact ((step_buildSlice fs hv he hs hr c1 c2 c3 c4 hok.1).2 hok.2).ok rfl rfl rfl
          · simp at h
        · simp at h
      · simp at h
    · simp at h
  case makeSlice t l c =>
    split at h
    · rename_i ok v Hn hm
      simp only [Option.some.injEq] at h; subst h
      exact (step_makeSlice fs hv hm hok).ok rfl rfl rfl
    · simp at h
  case load t x => exact step_load fs hv h hok
  case store t x y =>
    split at h
    · rename_i cs n hc hs
      split at h
      · rename_i hn
        split at h
        · rename_i r' hr
          simp only [Option.some.injEq] at h; subst h
          simp only [Bool.and_eq_true] at hok
          exact Sound.ok (r := ⟨true, .undef, r'.B, r'.H⟩) (storeA_v hr).symm rfl rfl (step_store fs hv hc hs hn hr hok.1 hok.2)
        · simp at h
      · simp at h
    · simp at h
  case nilCheck x =>
    split at h
    · rename_i o off e
      simp only [Option.some.injEq] at h; subst h
      have := step_nilCheck (P := P) (dst := dst) (type := type) (pos := pos) (after := after) (guard := guard) fs hv (.inl ⟨_, _, e⟩)
      rw [e] at this; exact this
    · rename_i cs e
      simp only [Option.some.injEq] at h; subst h
      have := step_nilCheck (P := P) (dst := dst) (type := type) (pos := pos) (after := after) (guard := guard) fs hv (.inr (.inl ⟨_, e⟩))
      rw [e] at this; exact this
    · rename_i k v i off e
      split at h
      · rename_i sz rows u hk
        simp only [Option.some.injEq] at h; subst h
        simp only [beq_iff_eq] at hok
        subst hok
        have := step_nilCheck (P := P) (dst := dst) (type := type) (pos := pos) (after := after) (guard := guard) fs hv (.inr (.inr (.inl ⟨_, _, _, _, e, _, _, hk⟩)))
        rw [e] at this; exact this.ok rfl rfl rfl
      · simp at h
    · rename_i f cs e
      simp only [Option.some.injEq] at h; subst h
      have := step_nilCheck (P := P) (dst := dst) (type := type) (pos := pos) (after := after) (guard := guard) fs hv (.inr (.inr (.inr ⟨_, _, e⟩)))
      rw [e] at this; exact this
    · simp at h
  case binOp op t x y u => exact step_bin fs hv h hok
  case unOp op t x => exact step_un fs hv h
  case convert s t x => exact step_convert fs hv h hok
  case makeInterface t x =>
    split at h
    · simp at h
    · rename_i d hd hu
      simp only [Option.some.injEq] at h; subst h
      exact (step_iface fs hv hu (fun ms e => hd ms e) hok).ok rfl rfl rfl
    · simp at h
  case makeFunc fn first caps =>
    split at h
    · split at h
      · rename_i hf
        simp only [Option.some.injEq] at h; subst h
        exact (step_func fs hv hf hok).ok rfl rfl rfl
      · simp at h
    · simp at h
  case slice t x lo hi mx => exact step_slice fs hv h hok
  case fieldAddr t x f => exact step_field fs hv h hok
  case indexAddr t x i => exact step_idx fs hv h hok
  case index t x i =>
    split at h
    · rename_i s k n hu hx hi
      simp only [Option.some.injEq] at h; subst h
      simp only [Bool.and_eq_true, decide_eq_true_eq] at hok
      exact (step_index fs hv hu hx hi hok.1 hok.2).ok rfl rfl rfl
    · simp at h
  case typeAssert x xt t ok => exact step_assert fs hv h
  case extract x i =>
    split at h
    · rename_i vs hx
      split at h
      · rename_i v hi
        simp only [Option.some.injEq] at h; subst h
        exact step_extract fs hv hx hi
      · simp at h
    · simp at h
  case call c =>
    split at h
    · rename_i hc
      split at h
      · rename_i t x ht hx
        exact step_len fs hv hc ht hx h
      · simp at h
    · rename_i hc
      split at h
      · rename_i t s x u ht hs hx hu
        split at h
        · rename_i h2
          exact step_append fs hv hc ht hs hx hu h2 h hok
        · simp at h
      · simp at h
    · rename_i hc
      split at h
      · rename_i x y ha
        exact step_min fs hv hc ha h
      · simp at h
    · rename_i hc
      split at h
      · rename_i x y ha
        exact step_max fs hv hc ha h
      · simp at h
    · simp at h
end Go.Mu
