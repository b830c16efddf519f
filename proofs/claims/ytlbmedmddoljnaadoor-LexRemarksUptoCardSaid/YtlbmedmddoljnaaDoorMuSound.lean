/-
  Mu: one operation that is no call: all together.
-/
import Derived.Test.YtlbmedmddoljnaaDoorMuStep
set_option linter.unusedVariables false
set_option linter.unusedSimpArgs false
namespace Go.Mu
open Go
variable {P : Program} {fh : FH} {w w' : World} {a : Act} {E E' : Env} {H H' : Heap} {β : Nat → Option Nat} {T : List AVal} {B : Boxes} {G : Tags}
  {r : SR}

/-- what an operation's operands must be -/
def okOp (T : List AVal) (G : Tags) (o : Oper) : Prop :=
  match o.op with
  | .pick c x y => (∀ t, c = .tmp t → valid G t = true) ∧ (aeval T c = .bool true → ∀ t, x = .tmp t → valid G t = true) ∧ (aeval T c = .bool false → ∀ t, y = .tmp t → valid G t = true)
  | _ => okTmps G o

theorem storeA_v {p : AVal} {cs : List AVal} (h : storeA B H p cs = some r) : r.v = .undef := by
  unfold storeA at h
  split at h
  · simp only [Option.some.injEq] at h; subst h; rfl
  · split at h
    · simp only [Option.some.injEq] at h; subst h; rfl
    · simp at h
  · split at h
    · simp only [Option.some.injEq] at h; subst h; rfl
    · simp at h
  · simp at h

theorem Sound.ok {o : Oper} {r r' : SR} (hv : r.v = r'.v) (hB : r.B = r'.B) (hH : r.H = r'.H) (h : Sound P w a E H β T G o r) : Sound P w a E H β T G o r' := by
  unfold Sound at *
  rw [← hv, ← hB, ← hH]; exact h

theorem find_count : ∀ fn : Func, fn.name = "internal/bytealg.CountString" → Extern.find fn = some Extern.BytealgCount.count := by
  intro fn h
  cases fn
  simp only at h
  subst h
  kernel_rfl
theorem find_index : ∀ fn : Func, fn.name = "internal/bytealg.IndexByteString" → Extern.find fn = some Extern.BytealgIndexByte.indexByte := by
  intro fn h
  cases fn
  simp only at h
  subst h
  kernel_rfl
theorem next_count : ∀ fn : Func, fn.name = "internal/bytealg.CountString" → fn.origin = "" → Extern.findNext fn = none := by
  intro fn h g
  cases fn
  simp only at h g
  subst h g
  kernel_rfl
theorem next_index : ∀ fn : Func, fn.name = "internal/bytealg.IndexByteString" → fn.origin = "" → Extern.findNext fn = none := by
  intro fn h g
  cases fn
  simp only at h g
  subst h g
  kernel_rfl
theorem find_esc : ∀ fn : Func, fn.name = "internal/abi.NoEscape" → Extern.find fn = some Extern.AbiNoEscape.same := by
  intro fn h
  cases fn
  simp only at h
  subst h
  kernel_rfl
theorem next_esc : ∀ fn : Func, fn.name = "internal/abi.NoEscape" → fn.origin = "" → Extern.findNext fn = none := by
  intro fn h g
  cases fn
  simp only at h g
  subst h g
  kernel_rfl
theorem extOf_some {f : Operand} {e : ExtK} (h : extOf P f = some e) : ∃ g fn, f = .func g ∧ P.funcs[g]? = some fn ∧ fn.body.isNone = true ∧ fn.origin = "" ∧ ((e = .count ∧ fn.name = "internal/bytealg.CountString") ∨ (e = .index ∧ fn.name = "internal/bytealg.IndexByteString") ∨ (e = .esc ∧ fn.name = "internal/abi.NoEscape")) := by
  unfold extOf at h
  split at h
  · rename_i g
    split at h
    · rename_i fn hf
      split at h
      · rename_i hc
        simp only [Bool.and_eq_true, beq_iff_eq] at hc
        split at h
        · rename_i hn
          simp only [Option.some.injEq] at h
          exact ⟨g, fn, rfl, hf, hc.1, hc.2, .inl ⟨h.symm, by simpa using hn⟩⟩
        · split at h
          · rename_i hn
            simp only [Option.some.injEq] at h
            exact ⟨g, fn, rfl, hf, hc.1, hc.2, .inr (.inl ⟨h.symm, by simpa using hn⟩)⟩
          · split at h
            · rename_i hn
              simp only [Option.some.injEq] at h
              exact ⟨g, fn, rfl, hf, hc.1, hc.2, .inr (.inr ⟨h.symm, by simpa using hn⟩)⟩
            · simp at h
      · simp at h
    · simp at h
  · simp at h
theorem ext_args {T : List AVal} {args : Array Operand} {x y : AVal} (h : args.toList.map (aeval T) = [x, y]) : ∃ p q, args = #[p, q] ∧ aeval T p = x ∧ aeval T q = y := by
  obtain ⟨l⟩ := args
  match l, h with
  | [p, q], h =>
    simp only [List.map_cons, List.map_nil, List.cons.injEq, and_true] at h
    exact ⟨p, q, rfl, h.1, h.2⟩
theorem ext_arg1 {T : List AVal} {args : Array Operand} {x : AVal} (h : args.toList.map (aeval T) = [x]) : ∃ p, args = #[p] ∧ aeval T p = x := by
  obtain ⟨l⟩ := args
  match l, h with
  | [p], h =>
    simp only [List.map_cons, List.map_nil, List.cons.injEq, and_true] at h
    exact ⟨p, rfl, h⟩
theorem step_ext {dst : Option Nat} {type : TypeId} {pos : String} {after : Array Edge} {guard : Option (Nat × Bool)} (fs : FS w a E H β T B G) {c : Call} {f : Operand} {e : ExtK} (hv : okTmps G (mkO dst (.call c) type pos after guard)) (hc : c.callee = .value f) (he : extOf P f = some e)
    (h : val1 B H (extA e (c.args.toList.map (aeval T))) = some r) : Sound P w a E H β T G (mkO dst (.call c) type pos after guard) r := by
  obtain ⟨v, h1, rfl⟩ := val1_some h
  obtain ⟨g, fn, rfl, hf, hb, hor, hk⟩ := extOf_some he
  have key : ∀ (s : List UInt8) (n : Int) (z : Int) (entry : Array Value → Sem Value), c.args.toList.map (aeval T) = [.str s, .int .u8 n] → (fn.name == "runtime.NumGoroutine") = false → Extern.findNext fn = none → Extern.find fn = some entry →
      (∀ b : ByteArray, b.data.toList = s → (entry #[.string b, .int .u8 n]).run P w = .ok (.int .i64 z) w) → Sound P w a E H β T G (mkO dst (.call c) type pos after guard) ⟨true, .int .i64 z, B, H⟩ := by
    intro s n z entry ha hnm hnx hfi hrun
    obtain ⟨p, q, hargs, hp, hq⟩ := ext_args ha
    have rp := okTmps_rep fs hv (x := p) (by simp [Op.operands, Call.operands, hc, hargs])
    have rq := okTmps_rep fs hv (x := q) (by simp [Op.operands, Call.operands, hc, hargs])
    rw [hp] at rp
    rw [hq] at rq
    obtain ⟨b, eb, hbs⟩ := repT_str rp
    have en := repT_int rq
    have run : (execOp a.eval (mkO dst (.call c) type pos after guard)).run P w = .ok (.value (.int .i64 z)) w := by
      have e0 : a.eval (.func g) = .func (.func g) #[] #[] := rfl
      simp only [execOp, resolve, hc, e0, Deferred.ofValue, Sem.run_bind, Sem.run_pure, Result.andThen_ok, invoke, hargs]
      have e1 : (Array.map a.eval #[p, q]) = #[.string b, .int .u8 n] := by simp [eb, en]
      rw [e1]
      simp only [Array.append_empty, Array.empty_append, Array.append_assoc]
      rw [run_callFunc_extern hf hnm hb hnx hfi, hrun b hbs]
      rfl
    exact Sound.pure fs run (.int _ _)
  rcases hk with ⟨rfl, hname⟩ | ⟨rfl, hname⟩ | ⟨rfl, hname⟩
  rotate_left 2
  · unfold extA at h1
    split at h1
    · rename_i he2 _; cases he2
    · rename_i he2 _; cases he2
    · rename_i x hxs _
      split at h1
      · rename_i hnt
        simp only [Option.some.injEq] at h1
        subst h1
        obtain ⟨p, hargs, hp⟩ := ext_arg1 ‹_›
        have rp := okTmps_rep fs hv (x := p) (by simp [Op.operands, Call.operands, hc, hargs])
        rw [hp] at rp
        have run : (execOp a.eval (mkO dst (.call c) type pos after guard)).run P w = .ok (.value (a.eval p)) w := by
          have e0 : a.eval (.func g) = .func (.func g) #[] #[] := rfl
          simp only [execOp, resolve, hc, e0, Deferred.ofValue, Sem.run_bind, Sem.run_pure, Result.andThen_ok, invoke, hargs]
          have e1 : (Array.map a.eval #[p]) = #[a.eval p] := by simp
          rw [e1]
          simp only [Array.append_empty, Array.empty_append, Array.append_assoc]
          rw [run_callFunc_extern hf (by rw [hname]; decide) hb (next_esc fn hname hor) (find_esc fn hname), Lib.run_noEscape]
          rfl
        exact Sound.pure fs run rp
      · simp at h1
    · simp at h1
  · unfold extA at h1
    split at h1
    · rename_i s k n hxs _
      split at h1
      · rename_i hk8
        simp only [Option.some.injEq] at h1
        subst h1 hk8
        exact key s n _ _ ‹_› (by rw [hname]; decide) (next_count fn hname hor) (find_count fn hname) (fun b hb => by rw [Lib.run_countString, hb])
      · simp at h1
    · rename_i he2 _; cases he2
    · rename_i he2 _; cases he2
    · simp at h1
  · unfold extA at h1
    split at h1
    · rename_i he2 _; cases he2
    · rename_i s k n hxs _
      split at h1
      · rename_i hk8
        simp only [Option.some.injEq] at h1
        subst h1 hk8
        exact key s n _ _ ‹_› (by rw [hname]; decide) (next_index fn hname hor) (find_index fn hname) (fun b hb => by rw [Lib.run_indexByteString, hb])
      · simp at h1
    · rename_i he2 _; cases he2
    · simp at h1
theorem step_sound (fs : FS w a E H β T B G) {o : Oper} (hv : okOp T G o) (h : stepOp P fh T B H o = some r) (hok : r.ok = true) : Sound P w a E H β T G o r := by
  obtain ⟨dst, op, type, pos, after, guard⟩ := o
  cases op <;> simp only [stepOp, okOp] at h hv <;> try contradiction
  case move x => simp only [Option.some.injEq] at h; subst h; exact step_move fs hv
  case assign x => simp only [Option.some.injEq] at h; subst h; exact step_assign fs hv
  case pick c x y =>
    split at h
    · rename_i q hq
      simp only [Option.some.injEq] at h; subst h
      rw [hq] at hv
      exact step_pick fs hq hv.1 (fun e => by subst e; exact hv.2.1 rfl) (fun e => by subst e; exact hv.2.2 rfl)
    · simp at h
  case alloc t =>
    split at h
    · rename_i d z hz
      split at h
      · simp only [Option.some.injEq] at h; subst h; exact (step_alloc fs hz).1
      · split at h
        · rename_i hd
          simp only [Option.some.injEq] at h; subst h
          exact ((step_alloc (fh := fh) fs hz).2 hd (by simpa using hok)).ok rfl rfl rfl
        · simp at h
    · simp at h
  case box t x =>
    split at h
    · rename_i d z hz
      split at h
      · simp only [Option.some.injEq] at h; subst h; exact ((step_box fs hv hz (by simpa using hok)).1).ok rfl rfl rfl
      · split at h
        · rename_i hd
          simp only [Option.some.injEq] at h; subst h
          simp only [Bool.and_eq_true, Bool.not_eq_true'] at hok
          exact ((step_box (fh := fh) fs hv hz hok.1).2 hd hok.2).ok rfl rfl rfl
        · simp at h
    · simp at h
  case build t ps =>
    split at h
    · rename_i v hb
      simp only [Option.some.injEq] at h; subst h
      exact (step_build fs hv hb hok).ok rfl rfl rfl
    · simp at h
  case buildSlice t n ps =>
    split at h
    · rename_i e he
      split at h
      · rename_i sz hs
        split at h
        · rename_i rows hr
          split at h
          · rename_i hc
            obtain ⟨c1, c2, c3, c4⟩ := hc
            split at h
            · simp only [Option.some.injEq] at h; subst h
              exact ((step_buildSlice fs hv he hs hr c1 c2 c3 c4 hok).1).ok rfl rfl rfl
            · simp only [Option.some.injEq] at h; subst h
              simp only [Bool.and_eq_true] at hok
              exact ((step_buildSlice fs hv he hs hr c1 c2 c3 c4 hok.1).2 hok.2).ok rfl rfl rfl
          · simp at h
        · simp at h
      · simp at h
    · simp at h
  case makeSlice t l c =>
    split at h
    · rename_i ok v Hn hm
      simp only [Option.some.injEq] at h; subst h
      exact (step_makeSlice fs hv hm hok).ok rfl rfl rfl
    · simp at h
  case load t x => exact step_load fs hv h hok
  case store t x y =>
    split at h
    · rename_i cs n hc hs
      split at h
      · rename_i hn
        split at h
        · rename_i r' hr
          simp only [Option.some.injEq] at h; subst h
          simp only [Bool.and_eq_true] at hok
          exact Sound.ok (r := ⟨true, .undef, r'.B, r'.H⟩) (storeA_v hr).symm rfl rfl (step_store fs hv hc hs hn hr hok.1 hok.2)
        · simp at h
      · simp at h
    · simp at h
  case nilCheck x =>
    split at h
    · rename_i o off e
      simp only [Option.some.injEq] at h; subst h
      have := step_nilCheck (P := P) (dst := dst) (type := type) (pos := pos) (after := after) (guard := guard) fs hv (.inl ⟨_, _, e⟩)
      rw [e] at this; exact this
    · rename_i cs e
      simp only [Option.some.injEq] at h; subst h
      have := step_nilCheck (P := P) (dst := dst) (type := type) (pos := pos) (after := after) (guard := guard) fs hv (.inr (.inl ⟨_, e⟩))
      rw [e] at this; exact this
    · rename_i k v i off e
      split at h
      · rename_i sz rows u hk
        simp only [Option.some.injEq] at h; subst h
        simp only [beq_iff_eq] at hok
        subst hok
        have := step_nilCheck (P := P) (dst := dst) (type := type) (pos := pos) (after := after) (guard := guard) fs hv (.inr (.inr (.inl ⟨_, _, _, _, e, _, _, hk⟩)))
        rw [e] at this; exact this.ok rfl rfl rfl
      · simp at h
    · rename_i f cs e
      simp only [Option.some.injEq] at h; subst h
      have := step_nilCheck (P := P) (dst := dst) (type := type) (pos := pos) (after := after) (guard := guard) fs hv (.inr (.inr (.inr ⟨_, _, e⟩)))
      rw [e] at this; exact this
    · simp at h
  case binOp op t x y u =>
    split at h
    · rename_i b hb
      exact step_nil fs hv hb h
    · split at h
      · rename_i b hb
        exact step_same fs hv hb h
      · exact step_bin fs hv h hok
  case unOp op t x => exact step_un fs hv h
  case convert s t x => exact step_convert fs hv h hok
  case makeInterface t x =>
    split at h
    · simp at h
    · rename_i d hd hu
      simp only [Option.some.injEq] at h; subst h
      exact (step_iface fs hv hu (fun ms e => hd ms e) hok).ok rfl rfl rfl
    · simp at h
  case makeFunc fn first caps =>
    split at h
    · split at h
      · rename_i hf
        simp only [Option.some.injEq] at h; subst h
        exact (step_func fs hv hf hok).ok rfl rfl rfl
      · simp at h
    · simp at h
  case slice t x lo hi mx => exact step_slice fs hv h hok
  case fieldAddr t x f => exact step_field fs hv h hok
  case indexAddr t x i => exact step_idx fs hv h hok
  case index t x i =>
    split at h
    · rename_i s k n hu hx hi
      simp only [Option.some.injEq] at h; subst h
      simp only [Bool.and_eq_true, decide_eq_true_eq] at hok
      exact (step_index fs hv hu hx hi hok.1 hok.2).ok rfl rfl rfl
    · simp at h
  case typeAssert x xt t ok => exact step_assert fs hv h
  case extract x i =>
    split at h
    · rename_i vs hx
      split at h
      · rename_i v hi
        simp only [Option.some.injEq] at h; subst h
        exact step_extract fs hv hx hi
      · simp at h
    · simp at h
  case call c =>
    split at h
    · rename_i hc
      split at h
      · rename_i t x ht hx
        exact step_len fs hv hc ht hx h
      · simp at h
    · rename_i hc
      split at h
      · rename_i t s x u ht hs hx hu
        split at h
        · rename_i h2
          exact step_append fs hv hc ht hs hx hu h2 h hok
        · simp at h
      · simp at h
    · rename_i hc
      split at h
      · rename_i x y ha
        exact step_min fs hv hc ha h
      · simp at h
    · rename_i hc
      split at h
      · rename_i x y ha
        exact step_max fs hv hc ha h
      · simp at h
    · rename_i f hc
      split at h
      · rename_i e he
        exact step_ext fs hv hc he h
      · simp at h
    · simp at h
end Go.Mu
