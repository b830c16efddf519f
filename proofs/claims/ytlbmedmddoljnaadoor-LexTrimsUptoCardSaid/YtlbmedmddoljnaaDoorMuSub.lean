/-
  Mu: values that read as others.
-/
import Derived.Test.YtlbmedmddoljnaaDoorMuRow
set_option linter.unusedVariables false
set_option linter.unusedSimpArgs false
namespace Go.Mu
open Go
variable {P : Program}

/-- what reads as x reads as y -/
structure Sub (x y : AVal) : Prop where
  p : ∀ (w : World) (imm : Nat → Prop) (c : Value), RepP w imm x c → RepP w imm y c
  r : ∀ (w : World) (E : Env) (H : Heap) (c : Value), Rep w E H x c → Rep w E H y c
theorem Sub.refl (x : AVal) : Sub x x := ⟨fun _ _ _ h => h, fun _ _ _ _ h => h⟩
theorem Sub.trans {x y z : AVal} (h : Sub x y) (g : Sub y z) : Sub x z := ⟨fun w i c k => g.p _ _ _ (h.p _ _ _ k), fun w E H c k => g.r _ _ _ _ (h.r _ _ _ _ k)⟩
def SubL (xs ys : List AVal) : Prop := xs.length = ys.length ∧ ∀ j, j < xs.length → Sub (xs.getD j .undef) (ys.getD j .undef)
theorem SubL.refl (xs : List AVal) : SubL xs xs := ⟨rfl, fun j _ => .refl _⟩
theorem SubL.nil : SubL [] [] := .refl _
theorem SubL.cons {x y : AVal} {xs ys : List AVal} (h : Sub x y) (g : SubL xs ys) : SubL (x :: xs) (y :: ys) := ⟨by simp [g.1], fun j hj => by
  cases j with
  | zero => exact h
  | succ j => exact g.2 j (by simpa using hj)⟩
theorem Sub.list {full full' : Bool} {n : Nat} {row row' : Nat → List AVal} (hf : full' = true → full = true) (hr : ∀ i, i < n → SubL (row i) (row' i)) : Sub (.list full n row) (.list full' n row') := by
  have key : ∀ (w : World) (imm : Nat → Prop) (c : Value), RepP w imm (.list full n row) c → RepP w imm (.list full' n row') c := by
    intro w imm c h
    cases h with
    | list0 full row a cap hc => exact .list0 _ _ _ _ (fun h => hc (hf h))
    | list full n row blk off cap sz cs h1 h2 h3 h4 h5 h6 =>
      exact .list _ n _ blk off cap sz cs h1 (fun h => h2 (hf h)) h3 (fun i hi => by rw [← (hr i hi).1]; exact h4 i hi) h5 (fun i j hi hj => ((hr i hi).2 j (by rw [h4 i hi]; exact hj)).p _ _ _ (h6 i j hi hj))
  exact ⟨key, fun w E H c h => by cases h with | pure _ _ h => exact .pure _ _ (key _ _ _ h)⟩
theorem Sub.agg {xs ys : List AVal} (h : SubL xs ys) : Sub (.agg xs) (.agg ys) := by
  have key : ∀ (w : World) (imm : Nat → Prop) (c : Value), RepP w imm (.agg xs) c → RepP w imm (.agg ys) c := by
    intro w imm c k
    cases k with
    | agg _ cs h1 h2 h3 => exact .agg _ cs (by rw [← h.1]; exact h1) (fun j hj => h2 j (by rw [h.1]; exact hj)) (fun j hj => (h.2 j (by rw [h.1]; exact hj)).p _ _ _ (h3 j (by rw [h.1]; exact hj)))
  refine ⟨key, fun w E H c k => ?_⟩
  cases k with
  | pure _ _ k => exact .pure _ _ (key _ _ _ k)
  | agg _ cs h1 h2 h3 => exact .agg _ cs (by rw [← h.1]; exact h1) (fun j hj => h2 j (by rw [h.1]; exact hj)) (fun j hj => (h.2 j (by rw [h.1]; exact hj)).r _ _ _ _ (h3 j (by rw [h.1]; exact hj)))
theorem Sub.tuple {xs ys : List AVal} (h : SubL xs ys) : Sub (.tuple xs) (.tuple ys) := by
  have key : ∀ (w : World) (imm : Nat → Prop) (c : Value), RepP w imm (.tuple xs) c → RepP w imm (.tuple ys) c := by
    intro w imm c k
    cases k with
    | tuple _ cs h1 h3 => exact .tuple _ cs (by rw [← h.1]; exact h1) (fun j hj => (h.2 j (by rw [h.1]; exact hj)).p _ _ _ (h3 j (by rw [h.1]; exact hj)))
  refine ⟨key, fun w E H c k => ?_⟩
  cases k with
  | pure _ _ k => exact .pure _ _ (key _ _ _ k)
  | tuple _ cs h1 h3 => exact .tuple _ cs (by rw [← h.1]; exact h1) (fun j hj => (h.2 j (by rw [h.1]; exact hj)).r _ _ _ _ (h3 j (by rw [h.1]; exact hj)))
theorem Sub.undef (x : AVal) : Sub x .undef := ⟨fun _ _ _ _ => .undef _, fun _ _ _ _ _ => .pure _ _ (.undef _)⟩

def SubO : Out → Out → Prop
  | .ret x H, .ret y H' => Sub x y ∧ H = H'
  | .panic x H, .panic y H' => Sub x y ∧ H = H'
  | _, _ => False
theorem Post.sub {w w' : World} {E : Env} {H : Heap} {o o' : Out} {e : Ending} (h : Post w E H o e w') (hs : SubO o o') : Post w E H o' e w' := by
  cases o with
  | ret x Hx => cases o' with
    | ret y Hy =>
      obtain ⟨hs, rfl⟩ := hs
      cases e with
      | returned c => obtain ⟨E', h1, h2, h3⟩ := h; exact ⟨E', h1, h2, hs.r _ _ _ _ h3⟩
      | panicked _ => exact h
      | outgrown => exact h
    | panic _ _ => exact hs.elim
  | panic x Hx => cases o' with
    | panic y Hy =>
      obtain ⟨hs, rfl⟩ := hs
      cases e with
      | panicked c => obtain ⟨E', d, h0, h1, h2, h3⟩ := h; exact ⟨E', d, h0, h1, h2, hs.r _ _ _ _ h3⟩
      | returned _ => exact h
      | outgrown => exact h
    | ret _ _ => exact hs.elim
theorem CallOK.sub {g : FuncId} {xs ys : List AVal} {H : Heap} {o o' : Out} (h : CallOK P g ys H o) (hx : SubL xs ys) (ho : SubO o o') : CallOK P g xs H o' := by
  intro w E cs sim hl hr
  refine Calls.mono (h w E cs sim (by rw [hl, hx.1]) (fun j hj => (hx.2 j (by rw [hx.1]; exact hj)).r _ _ _ _ (hr j (by rw [hx.1]; exact hj)))) (fun e w' hp => hp.sub ho)
theorem SubO.refl (o : Out) : SubO o o := by cases o <;> exact ⟨.refl _, rfl⟩
theorem CallOK.subArgs {g : FuncId} {xs ys : List AVal} {H : Heap} {o : Out} (h : CallOK P g ys H o) (hx : SubL xs ys) : CallOK P g xs H o := h.sub hx (.refl _)
/-- the same of what a slot holds -/
def SubT (x y : AVal) : Prop := ∀ (w : World) (E : Env) (H : Heap) (β : Nat → Option Nat) (c : Value), RepT w E H β x c → RepT w E H β y c
theorem SubT.refl (x : AVal) : SubT x x := fun _ _ _ _ _ h => h
theorem Sub.t {x y : AVal} (h : Sub x y) (hn : noTmp x = true) : SubT x y := fun w E H β c k => by
  cases k with
  | box t off b hb => simp [noTmp] at hn
  | val _ _ k => exact .val _ _ (h.r _ _ _ _ k)
theorem SubT.undef (x : AVal) : SubT x .undef := fun w E H β c k => .val _ _ (.pure _ _ (.undef _))
def SubTL (xs ys : List AVal) : Prop := xs.length = ys.length ∧ ∀ j, j < xs.length → SubT (xs.getD j .undef) (ys.getD j .undef)
theorem SubTL.refl (xs : List AVal) : SubTL xs xs := ⟨rfl, fun j _ => .refl _⟩
theorem SubTL.nil : SubTL [] [] := .refl _
theorem SubTL.cons {x y : AVal} {xs ys : List AVal} (h : SubT x y) (g : SubTL xs ys) : SubTL (x :: xs) (y :: ys) := ⟨by simp [g.1], fun j hj => by
  cases j with
  | zero => exact h
  | succ j => exact g.2 j (by simpa using hj)⟩
theorem SubTL.tail {x y : AVal} {xs ys : List AVal} (h : SubTL (x :: xs) (y :: ys)) : SubTL xs ys := ⟨by have := h.1; simpa using this, fun j hj => by
  have := h.2 (j + 1) (by simpa using hj)
  simpa using this⟩
theorem SubTL.lookup : ∀ (l : List Nat) (vs ws : List AVal), SubTL vs ws → ∀ t, SubT (((l.zip vs).lookup t).getD .undef) (((l.zip ws).lookup t).getD .undef)
  | [], vs, ws, h, t => .refl _
  | x :: l, [], ws, h, t => by
    have : ws = [] := List.eq_nil_of_length_eq_zero h.1.symm
    subst this; exact .refl _
  | x :: l, v :: vs, [], h, t => by simp [SubTL] at h
  | x :: l, v :: vs, u :: ws, h, t => by
    simp only [List.zip_cons_cons, List.lookup_cons]
    by_cases hx : (t == x) = true
    · rw [hx]; exact h.2 0 (by simp)
    · rw [Bool.not_eq_true] at hx
      rw [hx]; exact SubTL.lookup l vs ws h.tail t
theorem CI.sub {w : World} {a : Act} {E : Env} {β : Nat → Option Nat} {st st' : St} (ci : CI w a E β st) (hl : st.T.length = st'.T.length) (hT : ∀ t, SubT (st.T.getD t .undef) (st'.T.getD t .undef)) (hB : st'.B = st.B) (hH : st'.H = st.H) (hD : st'.D = st.D) : CI w a E β st' := by
  obtain ⟨T, B, H, D⟩ := st
  obtain ⟨T', B', H', D'⟩ := st'
  simp only at hl hT hB hH hD
  subst hB hH hD
  have fs := ci.fs
  refine ⟨⟨fs.sim, ?_, ?_, by simp [toRS], fun t ht => ?_, fun t b hb => fs.box t b hb, fs.binj⟩, fun t ht => ?_, fun t d q g ht => ?_, ci.defs⟩
  · rw [fs.tsize]; simpa [toRS] using hl
  · have := fs.bsize
    simp only [toRS] at this ⊢
    omega
  · exact hT t _ _ _ _ _ (fs.vals t (valid_none _ _))
  · have : valid (toRS ⟨T', B', H', D'⟩).G t = true := valid_none _ _
    rw [this] at ht; cases ht
  · have : (toRS ⟨T', B', H', D'⟩).G.getD t none = none := getD_map_none _ _
    rw [this] at ht; cases ht
end Go.Mu
