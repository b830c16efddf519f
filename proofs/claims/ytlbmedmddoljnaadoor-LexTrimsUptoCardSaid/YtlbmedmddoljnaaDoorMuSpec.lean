/-
  Mu: what is told of loops and functions, in one form: how a state is read, which states there are, what comes of them.
-/
import Derived.Test.YtlbmedmddoljnaaDoorMuShrink
set_option linter.unusedVariables false
set_option linter.unusedSimpArgs false
set_option linter.constructorNameAsVariable false
namespace Go.Mu
open Go
variable {P : Program}
/-- a loop: dec reads a state, ok says which there are, the enc's write it, post tells what comes of it -/
noncomputable def mkL {α : Type} (dec : List AVal → List (List AVal) → Heap → α) (ok : α → Prop) (ev : α → List AVal) (eb : α → List (List AVal)) (eh : α → Heap) (post : α → (AExit → List AVal → List (List AVal) → Heap → Ans) → Ans) : LSp := fun vs bs H k =>
  cond (tst (ok (dec vs bs H) ∧ SubTL vs (ev (dec vs bs H)) ∧ bs = eb (dec vs bs H) ∧ H = eh (dec vs bs H))) (post (dec vs bs H) k) none
theorem mkL_ok {α : Type} {turn : St → Kont → Ans} {n : Nat} {l m lx mx : List Nat} {dec : List AVal → List (List AVal) → Heap → α} {ok : α → Prop} {ev : α → List AVal} {eb : α → List (List AVal)} {eh : α → Heap} {post : α → (AExit → List AVal → List (List AVal) → Heap → Ans) → Ans}
    (h : ∀ a, ok a → ∃ e vs bs H, (∀ k, post a k = k e vs bs H) ∧ LoopRuns turn n l m lx mx (ev a) (eb a) (eh a) e vs bs H) : SpOK turn n l m lx mx (mkL dec ok ev eb eh post) := by
  intro vs bs H k out ho
  unfold mkL at ho
  rw [Bool.cond_eq_ite] at ho
  split at ho
  case isFalse => simp at ho
  rename_i hc
  obtain ⟨h1, h2, h3, h4⟩ := of_tst hc
  generalize dec vs bs H = a at *
  obtain ⟨e, vs', bs', H', h5, h6⟩ := h a h1
  rw [h5] at ho
  subst h3 h4
  exact ⟨ev a, e, vs', bs', H', vs', h2, h6, .refl _, ho⟩
/-- a function -/
noncomputable def mkF {α : Type} (dec : List AVal → Heap → α) (ok : α → Prop) (ex : α → List AVal) (eh : α → Heap) (post : α → (Out → Ans) → Ans) : FSp := fun xs H k =>
  cond (tst (ok (dec xs H) ∧ SubL xs (ex (dec xs H)) ∧ H = eh (dec xs H))) (post (dec xs H) k) none
theorem mkF_ok {α : Type} {f : FuncId} {dec : List AVal → Heap → α} {ok : α → Prop} {ex : α → List AVal} {eh : α → Heap} {post : α → (Out → Ans) → Ans}
    (h : ∀ a, ok a → ∃ o, (∀ k, post a k = k o) ∧ CallOK P f (ex a) (eh a) o) (xs : List AVal) (H : Heap) (k : Out → Ans) (out : Out) (ho : mkF dec ok ex eh post xs H k = some out) : ∃ o, CallOK P f xs H o ∧ k o = some out := by
  unfold mkF at ho
  rw [Bool.cond_eq_ite] at ho
  split at ho
  case isFalse => simp at ho
  rename_i hc
  obtain ⟨h1, h2, h3⟩ := of_tst hc
  generalize dec xs H = a at *
  obtain ⟨o, h4, h5⟩ := h a h1
  rw [h4] at ho
  subst h3
  exact ⟨o, h5.subArgs h2, ho⟩
/-- a pure function of octets' lists, ints and bools: what a reading leaves -/
abbrev aS (vs : List AVal) (i : Nat) : List UInt8 := strOf (vs.getD i .undef)
abbrev aI (vs : List AVal) (i : Nat) : Int := intOf (vs.getD i .undef)
abbrev aB (vs : List AVal) (i : Nat) : Bool := boolOf (vs.getD i .undef)
theorem tst2 {p q : Prop} (h : p) (g : q) : tst (p ∧ q) = true := tst_true ⟨h, g⟩
/-- a told loop's test, met -/
theorem tstL {α : Type} {ok : α → Prop} {a : α} {vs : List AVal} {bs : List (List AVal)} {H : Heap} (h : ok a) : tst (ok a ∧ SubTL vs vs ∧ bs = bs ∧ H = H) = true := tst_true ⟨h, .refl _, rfl, rfl⟩
theorem tstF {α : Type} {ok : α → Prop} {a : α} {xs : List AVal} {H : Heap} (h : ok a) : tst (ok a ∧ SubL xs xs ∧ H = H) = true := tst_true ⟨h, .refl _, rfl⟩
/-- rounds, one by one -/
theorem LoopRuns.step {turn : St → Kont → Ans} {n : Nat} {l m lx mx : List Nat} {vs ws : List AVal} {bs cs : List (List AVal)} {H G : Heap} {e : AExit} {vs' : List AVal} {bs' : List (List AVal)} {H' : Heap}
    (h : ∀ D k, turn (stL n l vs m bs H D) k = k .normal (stL n l ws m cs G D)) (g : LoopRuns turn n l m lx mx ws cs G e vs' bs' H') : LoopRuns turn n l m lx mx vs bs H e vs' bs' H' := by
  obtain ⟨q, hq⟩ := g
  exact ⟨q + 1, fun D k => by rw [rounds_succ', h]; exact hq D k⟩
theorem LoopRuns.stop {turn : St → Kont → Ans} {n : Nat} {l m lx mx : List Nat} {vs : List AVal} {bs : List (List AVal)} {H : Heap} {e : AExit} {vs' : List AVal} {bs' : List (List AVal)} {H' : Heap} (he : e ≠ .normal)
    (h : ∀ D k, turn (stL n l vs m bs H D) k = k e (stL n lx vs' mx bs' H' D)) : LoopRuns turn n l m lx mx vs bs H e vs' bs' H' :=
  ⟨1, fun D k => by rw [rounds_succ', h]; cases e <;> first | exact absurd rfl he | rfl⟩
/- ints -/
theorem wrap_of {n : Int} (h1 : -4611686018427387904 ≤ n) (h2 : n ≤ 4611686018427387904) : IntKind.i64.wrap n = n := by
  simp [IntKind.wrap, IntKind.signed, IntKind.bits]
  omega
theorem dT {p : Prop} [Decidable p] (h : p) : decide p = true := decide_eq_true h
theorem dF {p : Prop} [Decidable p] (h : ¬ p) : decide p = false := decide_eq_false h
theorem List.getD_drop {α : Type} (l : List α) (i j : Nat) (d : α) : (l.drop i).getD j d = l.getD (i + j) d := by
  simp [List.getD_eq_getElem?_getD, List.getElem?_drop]
theorem drop_cons_of {α : Type} (l : List α) (i : Nat) (d : α) (h : i < l.length) : l.drop i = l.getD i d :: l.drop (i + 1) := by
  rw [List.drop_eq_getElem_cons h]
  simp [List.getD_eq_getElem?_getD, List.getElem?_eq_getElem h]
theorem tstP {p : Prop} {xs : List AVal} (h : p) : tst (p ∧ SubL xs xs ∧ True) = true := tst_true ⟨h, .refl _, trivial⟩
theorem tstQ {p : Prop} {xs : List AVal} {bs : List (List AVal)} (h : p) : tst (p ∧ SubTL xs xs ∧ True ∧ True) = true := tst_true ⟨h, .refl _, trivial, trivial⟩
theorem sameV_refl (a : AVal) : sameV a a = true := by unfold sameV; simp
/-- a function without loops, with hints -/
theorem Lay.OK.addN {L : Lay} (h : L.OK P) {f : FuncId} {fh : FH} (h0 : loopsIn (codeOf P f) = []) : (L.addL f fh).OK P := h.addL (LOk.of _ (fun d hd => by rw [h0] at hd; cases hd))
/- guards of operations that may not count -/
theorem g1 {p q : Prop} [Decidable p] [Decidable q] (h : q → p) : (decide p || !decide q) = true := by
  by_cases hq : q
  · rw [dT (h hq)]; rfl
  · rw [dF hq]; simp
theorem g2 {p r q : Prop} [Decidable p] [Decidable r] [Decidable q] (h : q → p ∧ r) : (decide p && decide r || !decide q) = true := by
  by_cases hq : q
  · rw [dT (h hq).1, dT (h hq).2]; rfl
  · rw [dF hq]; simp
theorem g3 {p q : Prop} [Decidable p] [Decidable q] {x : Bool} (h : q → p) : (decide p || !(decide q && x)) = true := by
  by_cases hq : q
  · rw [dT (h hq)]; rfl
  · rw [dF hq]; simp
theorem g4 {p r q : Prop} [Decidable p] [Decidable r] [Decidable q] {x : Bool} (h : q → p ∧ r) : (decide p && decide r || !(decide q && x)) = true := by
  by_cases hq : q
  · rw [dT (h hq).1, dT (h hq).2]; rfl
  · rw [dF hq]; simp
theorem g5 {p q : Prop} [Decidable p] [Decidable q] {x y : Bool} (h : q → p) : (decide p || !(decide q && x && y)) = true := by
  by_cases hq : q
  · rw [dT (h hq)]; rfl
  · rw [dF hq]; simp
theorem g6 {p r q : Prop} [Decidable p] [Decidable r] [Decidable q] {x y : Bool} (h : q → p ∧ r) : (decide p && decide r || !(decide q && x && y)) = true := by
  by_cases hq : q
  · rw [dT (h hq).1, dT (h hq).2]; rfl
  · rw [dF hq]; simp
theorem eqc {c : UInt8} {n : Nat} (h : n < 256) : ((c.toNat : Int) == no_index (@OfNat.ofNat Int n _)) = (c == (@OfNat.ofNat UInt8 n _)) := by
  have e : (@OfNat.ofNat Int n _) = ((n : Nat) : Int) := rfl
  rw [e, Bool.eq_iff_iff]
  simp only [beq_iff_eq, ← UInt8.toNat_inj]
  have : (OfNat.ofNat n : UInt8).toNat = n := by simp [UInt8.toNat_ofNat, Nat.mod_eq_of_lt h]
  rw [this]; omega
theorem bif_and {x y : Bool} : (bif x then y else false) = (x && y) := by cases x <;> rfl
theorem bif_or {x y : Bool} : (bif x then true else y) = (x || y) := by cases x <;> rfl
theorem toNat_sub1 {n : Nat} : ((n : Int) - 1).toNat = n - 1 := by omega
/- scalars: told by their shapes -/
inductive Sh where
  | s
  | i (k : IntKind)
  | b
  | c (l : List UInt8)
  | a
def Sh.ok : Sh → AVal → Bool
  | .s, v => isStr v
  | .i k, v => isInt k v
  | .b, v => isBool v
  | .c l, v => isStr v && strOf v == l
  | .a, _ => true
def Sh.re : Sh → AVal → AVal
  | .s, v => .str (strOf v)
  | .i k, v => .int k (intOf v)
  | .b, v => .bool (boolOf v)
  | .c l, v => .str l
  | .a, v => v
def shOk : List Sh → List AVal → Bool
  | [], [] => true
  | s :: ss, v :: vs => s.ok v && shOk ss vs
  | _, _ => false
def shRe : List Sh → List AVal → List AVal
  | [], _ => []
  | s :: ss, vs => s.re (vs.headD .undef) :: shRe ss vs.tail
theorem Sh.eq {s : Sh} {v : AVal} (h : s.ok v = true) : v = s.re v := by
  cases s <;> cases v <;> simp_all [Sh.ok, Sh.re, isStr, isInt, isBool, strOf, intOf, boolOf]
theorem sh_eq : ∀ {ss : List Sh} {vs : List AVal}, shOk ss vs = true → vs = shRe ss vs
  | [], [], _ => rfl
  | [], _ :: _, h => by simp [shOk] at h
  | _ :: _, [], h => by simp [shOk] at h
  | s :: ss, v :: vs, h => by
    simp only [shOk, Bool.and_eq_true] at h
    simp only [shRe, List.headD_cons, List.tail_cons]
    rw [← Sh.eq h.1, ← sh_eq h.2]
/-- a function of scalars -/
def mkFS (ss : List Sh) (ok : List AVal → Bool) (post : List AVal → (Out → Ans) → Ans) : FSp := fun xs H k => cond (shOk ss xs && H.isEmpty && ok xs) (post xs k) none
theorem mkFS_ok {f : FuncId} {ss : List Sh} {ok : List AVal → Bool} {post : List AVal → (Out → Ans) → Ans} (h : ∀ ys xs, xs = shRe ss ys → ok xs = true → ∃ o, (∀ k, post xs k = k o) ∧ CallOK P f xs [] o) (xs : List AVal) (H : Heap) (k : Out → Ans) (out : Out) (ho : mkFS ss ok post xs H k = some out) : ∃ o, CallOK P f xs H o ∧ k o = some out := by
  unfold mkFS at ho
  rw [Bool.cond_eq_ite] at ho
  split at ho
  case isFalse => simp at ho
  rename_i hc
  simp only [Bool.and_eq_true, List.isEmpty_iff] at hc
  obtain ⟨⟨h1, rfl⟩, h2⟩ := hc
  obtain ⟨o, h4, h5⟩ := h xs xs (sh_eq h1) h2
  rw [h4] at ho
  exact ⟨o, h5, ho⟩
/-- a loop of scalars, that leaves the heap alone -/
def mkLS (ss : List Sh) (ok : List AVal → Bool) (post : List AVal → (AExit → List AVal → Ans) → Ans) : LSp := fun vs bs H k => cond (shOk ss vs && bs.isEmpty && ok vs) (post vs (fun e ws => k e ws [] H)) none
theorem mkLS_ok {turn : St → Kont → Ans} {n : Nat} {l lx : List Nat} {ss : List Sh} {ok : List AVal → Bool} {post : List AVal → (AExit → List AVal → Ans) → Ans}
    (h : ∀ ys vs H, vs = shRe ss ys → ok vs = true → ∃ e ws, (∀ k, post vs k = k e ws) ∧ LoopRuns turn n l [] lx [] vs [] H e ws [] H) : SpOK turn n l [] lx [] (mkLS ss ok post) := by
  intro vs bs H k out ho
  unfold mkLS at ho
  rw [Bool.cond_eq_ite] at ho
  split at ho
  case isFalse => simp at ho
  rename_i hc
  simp only [Bool.and_eq_true, List.isEmpty_iff] at hc
  obtain ⟨⟨h1, rfl⟩, h2⟩ := hc
  obtain ⟨e, ws, h4, h5⟩ := h vs vs H (sh_eq h1) h2
  rw [h4] at ho
  exact ⟨vs, e, ws, [], H, ws, .refl _, h5, .refl _, ho⟩
/-- a call, as it is run in a layer -/
theorem Lay.OK.callF {L : Lay} (h : L.OK P) {f : FuncId} {xs : List AVal} {v : AVal} {G : Heap} (hv : refsD 6 0 v = true) (hr : ∀ k, iFun P (L.hd P) L.fhs 0 f xs [] k = k (.ret v G)) : CallOK P f xs [] (.ret v []) :=
  CallOK.shrink (H := []) (H' := []) (G := G) (h.call hr) (Nat.le_refl _) hv (fun x hx => by cases hx)
/- what an object holds -/
def cellsO : Obj → List AVal
  | .var cs => cs
  | _ => []
def rowsO : Obj → List (List AVal)
  | .arr _ rows _ => rows
  | _ => []
def verO : Obj → Nat
  | .arr _ _ u => u
  | _ => 0
/- what is handed on as plain data -/
theorem freezeW {H : Heap} {k sz off len u d : Nat} {clip : Bool} {rows rows' : List (List AVal)} (hk : H[k]? = some (.arr sz rows u)) (hl : off + len ≤ rows.length) (hr : ((rows.drop off).take len).mapM (fun r => r.mapM (freezeV H d)) = some rows') : freezeV H (d + 1) (.own k off len u clip) = some (.list false len (fun i => rows'.getD i [])) := by
  unfold freezeV
  simp only [hk]
  rw [if_pos (by simp [hl]), hr]
theorem freeze_pures (H : Heap) (d : Nat) : ∀ rows : List (List AVal), (∀ r ∈ rows, r.mapM (freezeV H (d + 1)) = some r) → rows.mapM (fun r => r.mapM (freezeV H (d + 1))) = some rows
  | [], _ => rfl
  | r :: rows, h => by
    have ih := freeze_pures H d rows (fun x hx => h x (by simp [hx]))
    rw [List.mapM_cons, h r (by simp), ih]
    rfl
theorem freeze_t3 {H : Heap} {o v : AVal} {a b : Int} {ka kb : IntKind} (h : freezeV H 2 o = some v) : freezeV H 3 (.tuple [o, .int ka a, .int kb b]) = some (.tuple [v, .int ka a, .int kb b]) := by
  show ([o, AVal.int ka a, AVal.int kb b].mapM (freezeV H 2)).map AVal.tuple = _
  rw [List.mapM_cons, h]
  rfl
theorem Sub.nilX : Sub .nilX nilList := by
  refine ⟨fun w imm c h => ?_, fun w E H c h => ?_⟩
  · cases h; exact .list0 _ _ _ _ (fun _ => rfl)
  · have := rep_nilX h
    subst this
    exact .pure _ _ (.list0 _ _ _ _ (fun _ => rfl))
end Go.Mu
