/-
  Mu: the operations, one by one (those that make no memory).
-/
import Derived.Test.YtlbmedmddoljnaaDoorMuAlloc
import Derived.Laws.Strings
set_option linter.unusedVariables false
set_option linter.unusedSimpArgs false
namespace Go.Mu
open Go
variable {P : Program} {fh : FH} {w w' : World} {a : Act} {E E' : Env} {H H' : Heap} {β : Nat → Option Nat} {T : List AVal} {B : Boxes} {G : Tags}
  {dst : Option Nat} {type : TypeId} {pos : String} {after : Array Edge} {guard : Option (Nat × Bool)} {r : SR}

abbrev mkO (dst : Option Nat) (op : Op) (type : TypeId) (pos : String) (after : Array Edge) (guard : Option (Nat × Bool)) : Oper := ⟨dst, op, type, pos, after, guard⟩
def Sound (P : Program) (w : World) (a : Act) (E : Env) (H : Heap) (β : Nat → Option Nat) (T : List AVal) (G : Tags) (o : Oper) (r : SR) : Prop :=
  ∃ c w' E' β', OpOut P w a E H β T G o r.v r.B r.H c w' E' β'

theorem Sound.pure (fs : FS w a E H β T B G) {o : Oper} {v : AVal} {ok : Bool} {c : Value} (hr : (execOp a.eval o).run P w = .ok (.value c) w) (h : RepT w E H β v c) : Sound P w a E H β T G o ⟨ok, v, B, H⟩ :=
  OpOut.pure fs hr h

theorem val_some {x : Option (Bool × AVal)} (h : val B H x = some r) : ∃ ok v, x = some (ok, v) ∧ r = ⟨ok, v, B, H⟩ := by
  cases x with
  | none => simp [val] at h
  | some y => obtain ⟨ok, v⟩ := y; simp [val] at h; exact ⟨ok, v, rfl, h.symm⟩
theorem val1_some {x : Option AVal} (h : val1 B H x = some r) : ∃ v, x = some v ∧ r = ⟨true, v, B, H⟩ := by
  cases x with
  | none => simp [val1] at h
  | some y => simp [val1] at h; exact ⟨y, rfl, h.symm⟩

theorem step_move (fs : FS w a E H β T B G) {x : Operand} (hv : okTmps G (mkO dst (.move x) type pos after guard)) : Sound P w a E H β T G (mkO dst (.move x) type pos after guard) ⟨true, aeval T x, B, H⟩ :=
  Sound.pure fs rfl (okTmps_rep fs hv (by simp [Op.operands]))
theorem step_assign (fs : FS w a E H β T B G) {x : Operand} (hv : okTmps G (mkO dst (.assign x) type pos after guard)) : Sound P w a E H β T G (mkO dst (.assign x) type pos after guard) ⟨true, aeval T x, B, H⟩ :=
  Sound.pure fs rfl (okTmps_rep fs hv (by simp [Op.operands]))
theorem pickA_rep {q : Bool} {x y : AVal} {c d : Value} (h1 : q = true → RepT w E H β x c) (h2 : q = false → RepT w E H β y d) : RepT w E H β (pickA q x y) (if q then c else d) := by
  have hc : ∀ q, (q = true → RepT w E H β x c) → (q = false → RepT w E H β y d) → RepT w E H β (cond q x y) (if q then c else d) := by
    intro q a b; cases q
    · exact b rfl
    · exact a rfl
  unfold pickA
  split
  · cases q
    · exact h2 rfl
    · exact h1 rfl
  · split
    · rename_i e; subst e
      cases q
      · exact h2 rfl
      · exact h1 rfl
    · exact hc q h1 h2
  · cases q
    · exact h2 rfl
    · exact h1 rfl
  · exact hc q h1 h2
theorem step_pick (fs : FS w a E H β T B G) {c x y : Operand} {q : Bool} (hq : aeval T c = .bool q) (hc : ∀ t, c = .tmp t → valid G t = true)
    (h1 : q = true → ∀ t, x = .tmp t → valid G t = true) (h2 : q = false → ∀ t, y = .tmp t → valid G t = true) :
    Sound P w a E H β T G (mkO dst (.pick c x y) type pos after guard) ⟨true, pickA q (aeval T x) (aeval T y), B, H⟩ := by
  have hr := aeval_rep fs c hc
  rw [hq] at hr
  have e : a.eval c = .bool q := by cases hr with | val _ _ h => exact rep_bool h
  refine Sound.pure fs (c := if q then a.eval x else a.eval y) ?_ (pickA_rep (fun h => aeval_rep fs x (h1 h)) (fun h => aeval_rep fs y (h2 h)))
  simp [execOp, e, asBool]
theorem noTmp_of {v : AVal} {c : Value} (h : RepT w E H β v c) (hn : ∀ t off, v ≠ .ptr (.tmp t) off) : Rep w E H v c := by
  cases h with
  | box t off b hb => exact absurd rfl (hn t off)
  | val _ _ h => exact h
theorem repT_int {k : IntKind} {n : Int} {c : Value} (h : RepT w E H β (.int k n) c) : c = .int k n := rep_int (noTmp_of h (by simp))
theorem repT_bool {b : Bool} {c : Value} (h : RepT w E H β (.bool b) c) : c = .bool b := rep_bool (noTmp_of h (by simp))
theorem repT_str {s : List UInt8} {c : Value} (h : RepT w E H β (.str s) c) : ∃ b : ByteArray, c = .string b ∧ b.data.toList = s := rep_str (noTmp_of h (by simp))
theorem RepT.int (k : IntKind) (n : Int) : RepT w E H β (.int k n) (.int k n) := .val _ _ (.pure _ _ (.int k n))
theorem RepT.bool (b : Bool) : RepT w E H β (.bool b) (.bool b) := .val _ _ (.pure _ _ (.bool b))
theorem RepT.strb (b : ByteArray) : RepT w E H β (.str b.data.toList) (.string b) := .val _ _ (.pure _ _ (.str b))
theorem RepT.str' {s : List UInt8} {b : ByteArray} (h : b.data.toList = s) : RepT w E H β (.str s) (.string b) := h ▸ RepT.strb b

theorem step_load (fs : FS w a E H β T B G) {t : TypeId} {x : Operand} (hv : okTmps G (mkO dst (.load t x) type pos after guard)) (h : val B H (loadA P B H t (aeval T x)) = some r) (hok : r.ok = true) :
    Sound P w a E H β T G (mkO dst (.load t x) type pos after guard) r := by
  obtain ⟨ok, v, h1, rfl⟩ := val_some h
  simp only at hok; subst hok
  obtain ⟨blk, off, d, e, hr, hrep⟩ := loadA_run fs h1 (okTmps_rep fs hv (x := x) (by simp [Op.operands]))
  refine Sound.pure fs (c := d) ?_ (.val _ _ hrep)
  simp [execOp, Instr.loadAt, Instr.sureAddr, e, hr]
theorem step_store (fs : FS w a E H β T B G) {t : TypeId} {x y : Operand} (hv : okTmps G (mkO dst (.store t x y) type pos after guard)) {cs : List AVal} {n : Nat} (hc : cellsOf? (aeval T y) = some cs) (hsz : sizeT P t = some n)
    (hn : cs.length = n) (h : storeA B H (aeval T x) cs = some r) (hnt : noTmp (aeval T y) = true) (hok : r.ok = true) : Sound P w a E H β T G (mkO dst (.store t x y) type pos after guard) ⟨true, .undef, r.B, r.H⟩ := by
  have hy := noTmp_rep hnt (okTmps_rep fs hv (x := y) (by simp [Op.operands]))
  obtain ⟨hl, h1, hr⟩ := cellsOf_rep hc hy
  obtain ⟨blk, off, e, hcell, ev, fs'⟩ := storeA_sound fs h hok (okTmps_rep fs hv (x := x) (by simp [Op.operands])) hl h1 hr
  refine ⟨undef, _, E, β, ⟨.inr ⟨?_, rfl⟩, ev, fs', .undef _, fun _ _ h => .inl h⟩⟩
  have hs : (a.eval y).cells.size = n := by rw [← hn, ← hl]; simp
  have := run_storeVar_cells (P := P) (w := w) (t := t) (blk := blk) (off := off) hsz hs (fun j hj => (hcell j (by omega)).1) (fun j hj => (hcell j (by omega)).2) h1
  simp [execOp, Instr.storeAt, Instr.sureAddr, e, this]
theorem step_nilCheck (fs : FS w a E H β T B G) {x : Operand} (hv : okTmps G (mkO dst (.nilCheck x) type pos after guard))
    (h : (∃ o off, aeval T x = .ptr o off) ∨ (∃ cs, aeval T x = .rptr cs) ∨ (∃ k v i off, aeval T x = .eptr k v i off ∧ ∃ sz rows, H[k]? = some (.arr sz rows v)) ∨ (∃ f cs, aeval T x = .func f cs)) : Sound P w a E H β T G (mkO dst (.nilCheck x) type pos after guard) ⟨true, aeval T x, B, H⟩ := by
  have hr := okTmps_rep fs hv (x := x) (by simp [Op.operands])
  refine Sound.pure fs (c := a.eval x) ?_ hr
  rcases h with ⟨o, off, e⟩ | ⟨cs, e⟩ | ⟨k, v, i, off, e, sz, rows, hk⟩ | ⟨f, cs, e⟩
  · rw [e] at hr
    have : ∃ b, a.eval x = .pointer (some b) := by
      cases o with
      | tmp t => obtain ⟨b, h, _⟩ := repT_ptr hr; exact ⟨_, h⟩
      | hp k => obtain ⟨h, _⟩ := rep_ptrH (noTmp_of hr (by simp)); exact ⟨_, h⟩
    obtain ⟨b, hb⟩ := this
    simp [execOp, hb]
  · rw [e] at hr
    obtain ⟨blk, off, f, h, _⟩ := rep_rptr (noTmp_of hr (by simp))
    simp [execOp, h]
  · rw [e] at hr
    obtain ⟨p, sz', u, h, ha, hu, hp⟩ := rep_eptr (noTmp_of hr (by simp))
    rw [arr_of_get hk] at ha
    simp only [Option.some.injEq, Prod.mk.injEq] at ha
    obtain ⟨rfl, rfl⟩ := ha
    simp [execOp, h, (hp rfl).2]
  · rw [e] at hr
    obtain ⟨cs', h, _⟩ := rep_func (noTmp_of hr (by simp))
    simp [execOp, h]

/- integers and strings -/
theorem intBin_run {op : BinOp} {k : IntKind} {x y : Int} {v : AVal} (h : intBin op k x y = some (true, v)) (w : World) (t : TypeId) : ∃ c, (binOp op t (.int k x) (.int k y)).run P w = .ok c w ∧ ∀ E H β, RepT w E H β v c := by
  cases op <;> simp only [intBin, Option.some.injEq, Prod.mk.injEq, true_and, reduceCtorEq, beq_self_eq_true, Bool.true_and, Bool.not_eq_true', beq_eq_false_iff_ne, ne_eq] at h
  case add => subst h; exact ⟨_, by simp [binOp, Op.intArith], fun E H β => .int _ _⟩
  case sub => subst h; exact ⟨_, by simp [binOp, Op.intArith], fun E H β => .int _ _⟩
  case mul => subst h; exact ⟨_, by simp [binOp, Op.intArith], fun E H β => .int _ _⟩
  case quo => obtain ⟨h0, rfl⟩ := h; exact ⟨_, by simp [binOp, Op.intDiv, h0], fun E H β => .int _ _⟩
  case rem => obtain ⟨h0, rfl⟩ := h; exact ⟨_, by simp [binOp, Op.intDiv, h0], fun E H β => .int _ _⟩
  case and => subst h; exact ⟨_, by simp only [binOp, Op.intBits, ne_eq, not_true_eq_false, if_false]; rfl, fun E H β => .int _ _⟩
  case or => subst h; exact ⟨_, by simp only [binOp, Op.intBits, ne_eq, not_true_eq_false, if_false]; rfl, fun E H β => .int _ _⟩
  case xor => subst h; exact ⟨_, by simp only [binOp, Op.intBits, ne_eq, not_true_eq_false, if_false]; rfl, fun E H β => .int _ _⟩
  case andNot => subst h; exact ⟨_, by simp only [binOp, Op.intBits, ne_eq, not_true_eq_false, if_false]; rfl, fun E H β => .int _ _⟩
  all_goals (subst h; exact ⟨_, by simp only [binOp, Op.intCmp, ne_eq, not_true_eq_false, if_false]; rfl, fun E H β => .bool _⟩)
theorem shiftA_run {op : BinOp} {k k' : IntKind} {x y : Int} {v : AVal} (h : shiftA op k x y = some (true, v)) (w : World) (t : TypeId) : ∃ c, (binOp op t (.int k x) (.int k' y)).run P w = .ok c w ∧ ∀ E H β, RepT w E H β v c := by
  cases op <;> simp [shiftA] at h
  case shl => obtain ⟨h0, rfl⟩ := h; exact ⟨_, by simp only [binOp, Op.shift]; rw [if_neg (by omega)]; rfl, fun E H β => .int _ _⟩
  case shr => obtain ⟨h0, rfl⟩ := h; exact ⟨_, by simp only [binOp, Op.shift]; rw [if_neg (by omega)]; rfl, fun E H β => .int _ _⟩
theorem toList_eq (b : _root_.ByteArray) : b.toList = b.data.toList := Go.ByteArray.toList_eq b
theorem size_eq (b : _root_.ByteArray) : b.size = b.data.toList.length := by rw [Array.length_toList]; rfl
theorem strBin_run {op : BinOp} {b1 b2 : ByteArray} {v : AVal} (h : strBin op b1.data.toList b2.data.toList = some (true, v)) (w : World) (t : TypeId) :
    ∃ c, (binOp op t (.string b1) (.string b2)).run P w = .ok c w ∧ ∀ E H β, RepT w E H β v c := by
  cases op <;> simp only [strBin, Option.some.injEq, Prod.mk.injEq, true_and, decide_eq_true_eq, reduceCtorEq] at h
  case add =>
    obtain ⟨h0, rfl⟩ := h
    refine ⟨.string (b1 ++ b2), ?_, fun E H β => .str' (by simp)⟩
    have : ¬ (((b1.size + b2.size : Nat) : Int) > IntKind.i64.max) := by
      rw [size_eq, size_eq]
      simp only [maxS] at h0
      have : IntKind.i64.max = 9223372036854775807 := by decide
      omega
    simp only [binOp, Op.stringOp]
    rw [if_neg this]; rfl
  all_goals (subst h; refine ⟨_, by simp only [binOp, Op.stringOp]; rfl, fun E H β => ?_⟩; rw [toList_eq, toList_eq]; exact .bool _)
end Go.Mu
