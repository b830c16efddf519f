/-
  Mu: the operations, one by one (those that make no memory).
-/
import Derived.Test.YtlbmedmddoljnaaDoorMuAlloc
import Derived.Laws.Strings
import Derived.Laws.StructEq
import Derived.Deep.AppendSrc
import Derived.Laws.AppendOwn
import Derived.Laws.BytesString
import Derived.Laws.MakeOwn
import Derived.Deep.Upon
import Derived.Laws.IdiomStrings
import Derived.LaidEqlPtr
import Derived.Lib.Builder
set_option linter.unusedVariables false
set_option linter.unusedSimpArgs false
namespace Go.Mu
open Go
variable {P : Program} {fh : FH} {w w' : World} {a : Act} {E E' : Env} {H H' : Heap} {β : Nat → Option Nat} {T : List AVal} {B : Boxes} {G : Tags}
  {dst : Option Nat} {type : TypeId} {pos : String} {after : Array Edge} {guard : Option (Nat × Bool)} {r : SR}

abbrev mkO (dst : Option Nat) (op : Op) (type : TypeId) (pos : String) (after : Array Edge) (guard : Option (Nat × Bool)) : Oper := ⟨dst, op, type, pos, after, guard⟩
def Sound (P : Program) (w : World) (a : Act) (E : Env) (H : Heap) (β : Nat → Option Nat) (T : List AVal) (G : Tags) (o : Oper) (r : SR) : Prop :=
  ∃ c w' E' β', OpOut P w a E H β T G o r.v r.B r.H c w' E' β'

theorem Sound.pure (fs : FS w a E H β T B G) {o : Oper} {v : AVal} {ok : Bool} {c : Value} (hr : (execOp a.eval o).run P w = .ok (.value c) w) (h : RepT w E H β v c) : Sound P w a E H β T G o ⟨ok, v, B, H⟩ :=
  OpOut.pure fs hr h

theorem val_some {x : Option (Bool × AVal)} (h : val B H x = some r) : ∃ ok v, x = some (ok, v) ∧ r = ⟨ok, v, B, H⟩ := by
  cases x with
  | none => simp [val] at h
  | some y => obtain ⟨ok, v⟩ := y; simp [val] at h; exact ⟨ok, v, rfl, h.symm⟩
theorem val1_some {x : Option AVal} (h : val1 B H x = some r) : ∃ v, x = some v ∧ r = ⟨true, v, B, H⟩ := by
  cases x with
  | none => simp [val1] at h
  | some y => simp [val1] at h; exact ⟨y, rfl, h.symm⟩

theorem step_move (fs : FS w a E H β T B G) {x : Operand} (hv : okTmps G (mkO dst (.move x) type pos after guard)) : Sound P w a E H β T G (mkO dst (.move x) type pos after guard) ⟨true, aeval T x, B, H⟩ :=
  Sound.pure fs rfl (okTmps_rep fs hv (by simp [Op.operands]))
theorem step_assign (fs : FS w a E H β T B G) {x : Operand} (hv : okTmps G (mkO dst (.assign x) type pos after guard)) : Sound P w a E H β T G (mkO dst (.assign x) type pos after guard) ⟨true, aeval T x, B, H⟩ :=
  Sound.pure fs rfl (okTmps_rep fs hv (by simp [Op.operands]))
theorem pickA_rep {q : Bool} {x y : AVal} {c d : Value} (h1 : q = true → RepT w E H β x c) (h2 : q = false → RepT w E H β y d) : RepT w E H β (pickA q x y) (if q then c else d) := by
  have hc : ∀ q, (q = true → RepT w E H β x c) → (q = false → RepT w E H β y d) → RepT w E H β (cond q x y) (if q then c else d) := by
    intro q a b; cases q
    · exact b rfl
    · exact a rfl
  unfold pickA
  split
  · cases q
    · exact h2 rfl
    · exact h1 rfl
  · split
    · rename_i e; subst e
      cases q
      · exact h2 rfl
      · exact h1 rfl
    · exact hc q h1 h2
  · cases q
    · exact h2 rfl
    · exact h1 rfl
  · exact hc q h1 h2
theorem step_pick (fs : FS w a E H β T B G) {c x y : Operand} {q : Bool} (hq : aeval T c = .bool q) (hc : ∀ t, c = .tmp t → valid G t = true)
    (h1 : q = true → ∀ t, x = .tmp t → valid G t = true) (h2 : q = false → ∀ t, y = .tmp t → valid G t = true) :
    Sound P w a E H β T G (mkO dst (.pick c x y) type pos after guard) ⟨true, pickA q (aeval T x) (aeval T y), B, H⟩ := by
  have hr := aeval_rep fs c hc
  rw [hq] at hr
  have e : a.eval c = .bool q := by cases hr with | val _ _ h => exact rep_bool h
  refine Sound.pure fs (c := if q then a.eval x else a.eval y) ?_ (pickA_rep (fun h => aeval_rep fs x (h1 h)) (fun h => aeval_rep fs y (h2 h)))
  simp [execOp, e, asBool]
theorem noTmp_of {v : AVal} {c : Value} (h : RepT w E H β v c) (hn : ∀ t off, v ≠ .ptr (.tmp t) off) : Rep w E H v c := by
  cases h with
  | box t off b hb => exact absurd rfl (hn t off)
  | val _ _ h => exact h
theorem repT_int {k : IntKind} {n : Int} {c : Value} (h : RepT w E H β (.int k n) c) : c = .int k n := rep_int (noTmp_of h (by simp))
theorem repT_bool {b : Bool} {c : Value} (h : RepT w E H β (.bool b) c) : c = .bool b := rep_bool (noTmp_of h (by simp))
theorem repT_str {s : List UInt8} {c : Value} (h : RepT w E H β (.str s) c) : ∃ b : ByteArray, c = .string b ∧ b.data.toList = s := rep_str (noTmp_of h (by simp))
theorem RepT.int (k : IntKind) (n : Int) : RepT w E H β (.int k n) (.int k n) := .val _ _ (.pure _ _ (.int k n))
theorem RepT.bool (b : Bool) : RepT w E H β (.bool b) (.bool b) := .val _ _ (.pure _ _ (.bool b))
theorem RepT.strb (b : ByteArray) : RepT w E H β (.str b.data.toList) (.string b) := .val _ _ (.pure _ _ (.str b))
theorem RepT.str' {s : List UInt8} {b : ByteArray} (h : b.data.toList = s) : RepT w E H β (.str s) (.string b) := h ▸ RepT.strb b

theorem step_load (fs : FS w a E H β T B G) {t : TypeId} {x : Operand} (hv : okTmps G (mkO dst (.load t x) type pos after guard)) (h : val B H (loadA P B H t (aeval T x)) = some r) (hok : r.ok = true) :
    Sound P w a E H β T G (mkO dst (.load t x) type pos after guard) r := by
  obtain ⟨ok, v, h1, rfl⟩ := val_some h
  simp only at hok; subst hok
  obtain ⟨blk, off, d, e, hr, hrep⟩ := loadA_run fs h1 (okTmps_rep fs hv (x := x) (by simp [Op.operands]))
  refine Sound.pure fs (c := d) ?_ (.val _ _ hrep)
  simp [execOp, Instr.loadAt, Instr.sureAddr, e, hr]
theorem exV_rep {ex : Bool} {w : World} {E : Env} {H : Heap} {β : Nat → Option Nat} {T : List AVal} {a : Act} {y : Operand} (h : RepT w E H β (aeval T y) (a.eval y)) : RepT w E H β (exV ex y (aeval T y)) (a.eval y) := by
  cases y with
  | const c =>
    show RepT w E H β (exCell ex c (aeval T (.const c))) c
    unfold exCell
    split
    · split
      · exact .val _ _ (.pure _ _ .nilX)
      · exact h
    · exact h
  | tmp t => exact h
  | global g => exact h
  | func f => exact h
theorem step_store (fs : FS w a E H β T B G) {t : TypeId} {x y : Operand} (hv : okTmps G (mkO dst (.store t x y) type pos after guard)) {ex : Bool} {cs : List AVal} {n : Nat} (hc : cellsOf? (exV ex y (aeval T y)) = some cs) (hsz : sizeT P t = some n)
    (hn : cs.length = n) (h : storeA B H (aeval T x) cs = some r) (hnt : noTmp (exV ex y (aeval T y)) = true) (hok : r.ok = true) : Sound P w a E H β T G (mkO dst (.store t x y) type pos after guard) ⟨true, .undef, r.B, r.H⟩ := by
  have hy := noTmp_rep hnt (exV_rep (ex := ex) (okTmps_rep fs hv (x := y) (by simp [Op.operands])))
  obtain ⟨hl, h1, hr⟩ := cellsOf_rep hc hy
  obtain ⟨blk, off, e, hcell, ev, fs'⟩ := storeA_sound fs h hok (okTmps_rep fs hv (x := x) (by simp [Op.operands])) hl h1 hr
  refine ⟨undef, _, E, β, ⟨.inr ⟨?_, rfl⟩, ev, fs', .undef _, fun _ _ h => .inl h⟩⟩
  have hs : (a.eval y).cells.size = n := by rw [← hn, ← hl]; simp
  have := run_storeVar_cells (P := P) (w := w) (t := t) (blk := blk) (off := off) hsz hs (fun j hj => (hcell j (by omega)).1) (fun j hj => (hcell j (by omega)).2) h1
  simp [execOp, Instr.storeAt, Instr.sureAddr, e, this]
theorem step_nilCheck (fs : FS w a E H β T B G) {x : Operand} (hv : okTmps G (mkO dst (.nilCheck x) type pos after guard))
    (h : (∃ o off, aeval T x = .ptr o off) ∨ (∃ cs, aeval T x = .rptr cs) ∨ (∃ k v i off, aeval T x = .eptr k v i off ∧ ∃ sz rows, H[k]? = some (.arr sz rows v)) ∨ (∃ f cs, aeval T x = .func f cs)) : Sound P w a E H β T G (mkO dst (.nilCheck x) type pos after guard) ⟨true, aeval T x, B, H⟩ := by
  have hr := okTmps_rep fs hv (x := x) (by simp [Op.operands])
  refine Sound.pure fs (c := a.eval x) ?_ hr
  rcases h with ⟨o, off, e⟩ | ⟨cs, e⟩ | ⟨k, v, i, off, e, sz, rows, hk⟩ | ⟨f, cs, e⟩
  · rw [e] at hr
    have : ∃ b, a.eval x = .pointer (some b) := by
      cases o with
      | tmp t => obtain ⟨b, h, _⟩ := repT_ptr hr; exact ⟨_, h⟩
      | hp k => obtain ⟨h, _⟩ := rep_ptrH (noTmp_of hr (by simp)); exact ⟨_, h⟩
    obtain ⟨b, hb⟩ := this
    simp [execOp, hb]
  · rw [e] at hr
    obtain ⟨blk, off, f, h, _⟩ := rep_rptr (noTmp_of hr (by simp))
    simp [execOp, h]
  · rw [e] at hr
    obtain ⟨p, sz', u, h, ha, hu, hp⟩ := rep_eptr (noTmp_of hr (by simp))
    rw [arr_of_get hk] at ha
    simp only [Option.some.injEq, Prod.mk.injEq] at ha
    obtain ⟨rfl, rfl⟩ := ha
    simp [execOp, h, (hp rfl).2]
  · rw [e] at hr
    obtain ⟨cs', h, _⟩ := rep_func (noTmp_of hr (by simp))
    simp [execOp, h]

/- integers and strings -/
theorem intBin_run {op : BinOp} {k : IntKind} {x y : Int} {v : AVal} (h : intBin op k x y = some (true, v)) (w : World) (t : TypeId) : ∃ c, (binOp op t (.int k x) (.int k y)).run P w = .ok c w ∧ ∀ E H β, RepT w E H β v c := by
  cases op <;> simp only [intBin, Option.some.injEq, Prod.mk.injEq, true_and, reduceCtorEq, beq_self_eq_true, Bool.true_and, Bool.not_eq_true', beq_eq_false_iff_ne, ne_eq] at h
  case add => subst h; exact ⟨_, by simp [binOp, Op.intArith], fun E H β => .int _ _⟩
  case sub => subst h; exact ⟨_, by simp [binOp, Op.intArith], fun E H β => .int _ _⟩
  case mul => subst h; exact ⟨_, by simp [binOp, Op.intArith], fun E H β => .int _ _⟩
  case quo => obtain ⟨h0, rfl⟩ := h; exact ⟨_, by simp [binOp, Op.intDiv, h0], fun E H β => .int _ _⟩
  case rem => obtain ⟨h0, rfl⟩ := h; exact ⟨_, by simp [binOp, Op.intDiv, h0], fun E H β => .int _ _⟩
  case and => subst h; exact ⟨_, by simp only [binOp, Op.intBits, ne_eq, not_true_eq_false, if_false]; rfl, fun E H β => .int _ _⟩
  case or => subst h; exact ⟨_, by simp only [binOp, Op.intBits, ne_eq, not_true_eq_false, if_false]; rfl, fun E H β => .int _ _⟩
  case xor => subst h; exact ⟨_, by simp only [binOp, Op.intBits, ne_eq, not_true_eq_false, if_false]; rfl, fun E H β => .int _ _⟩
  case andNot => subst h; exact ⟨_, by simp only [binOp, Op.intBits, ne_eq, not_true_eq_false, if_false]; rfl, fun E H β => .int _ _⟩
  all_goals (subst h; exact ⟨_, by simp only [binOp, Op.intCmp, ne_eq, not_true_eq_false, if_false]; rfl, fun E H β => .bool _⟩)
theorem shiftA_run {op : BinOp} {k k' : IntKind} {x y : Int} {v : AVal} (h : shiftA op k x y = some (true, v)) (w : World) (t : TypeId) : ∃ c, (binOp op t (.int k x) (.int k' y)).run P w = .ok c w ∧ ∀ E H β, RepT w E H β v c := by
  cases op <;> simp [shiftA] at h
  case shl => obtain ⟨h0, rfl⟩ := h; exact ⟨_, by simp only [binOp, Op.shift]; rw [if_neg (by omega)]; rfl, fun E H β => .int _ _⟩
  case shr => obtain ⟨h0, rfl⟩ := h; exact ⟨_, by simp only [binOp, Op.shift]; rw [if_neg (by omega)]; rfl, fun E H β => .int _ _⟩
theorem toList_eq (b : _root_.ByteArray) : b.toList = b.data.toList := Go.ByteArray.toList_eq b
theorem size_eq (b : _root_.ByteArray) : b.size = b.data.toList.length := by rw [Array.length_toList]; rfl
theorem strBin_run {op : BinOp} {b1 b2 : ByteArray} {v : AVal} (h : strBin op b1.data.toList b2.data.toList = some (true, v)) (w : World) (t : TypeId) :
    ∃ c, (binOp op t (.string b1) (.string b2)).run P w = .ok c w ∧ ∀ E H β, RepT w E H β v c := by
  cases op <;> simp only [strBin, Option.some.injEq, Prod.mk.injEq, true_and, decide_eq_true_eq, reduceCtorEq] at h
  case add =>
    obtain ⟨h0, rfl⟩ := h
    refine ⟨.string (b1 ++ b2), ?_, fun E H β => .str' (by simp)⟩
    have : ¬ (((b1.size + b2.size : Nat) : Int) > IntKind.i64.max) := by
      rw [size_eq, size_eq]
      simp only [maxS] at h0
      have : IntKind.i64.max = 9223372036854775807 := by decide
      omega
    simp only [binOp, Op.stringOp]
    rw [if_neg this]; rfl
  all_goals (subst h; refine ⟨_, by simp only [binOp, Op.stringOp]; rfl, fun E H β => ?_⟩; rw [toList_eq, toList_eq]; exact .bool _)
end Go.Mu
/-
  Mu: the operations, one by one (comparisons, addresses, slices).
-/
namespace Go.Mu
open Go
variable {P : Program} {fh : FH} {w w' : World} {a : Act} {E E' : Env} {H H' : Heap} {β : Nat → Option Nat} {T : List AVal} {B : Boxes} {G : Tags}
  {dst : Option Nat} {type : TypeId} {pos : String} {after : Array Edge} {guard : Option (Nat × Bool)} {r : SR}

theorem plainKey_of {t : TypeId} (h : P.underlying t = some .string ∨ (∃ k, P.underlying t = some (.int k)) ∨ P.underlying t = some .bool) : P.plainKey t = true := by
  unfold Program.plainKey
  rcases h with h | ⟨k, h⟩ | h <;> simp [h]

theorem fieldsEq_run (d : Nat) : ∀ (fs : List Field) (i : Nat) (xs ys : List AVal) (cx cy : List Value) (r : Bool), fieldsEq P i fs xs ys = some r →
    (∀ j, j < xs.length → Rep w E H (xs.getD j .undef) (cx.getD (i + j) undef) ∧ i + j < cx.length) → (∀ j, j < ys.length → Rep w E H (ys.getD j .undef) (cy.getD (i + j) undef) ∧ i + j < cy.length) →
    (Op.eqFields (d + 1) cx.toArray cy.toArray fs).run P w = .ok r w
  | [], _, [], [], _, _, r, h, _, _ => by
    simp only [fieldsEq, Option.some.injEq] at h
    subst h
    simp [Op.eqFields]
  | [], _, _ :: _, _, _, _, _, h, _, _ => by simp [fieldsEq] at h
  | [], _, [], _ :: _, _, _, _, h, _, _ => by simp [fieldsEq] at h
  | _ :: _, _, [], _, _, _, _, h, _, _ => by simp [fieldsEq] at h
  | _ :: _, _, _ :: _, [], _, _, _, h, _, _ => by simp [fieldsEq] at h
  | f :: fs, i, x :: xs, y :: ys, cx, cy, r, h, hx, hy => by
    simp only [fieldsEq] at h
    split at h
    · rename_i hf
      obtain ⟨hname, hoff⟩ := hf
      have ih : ∀ r', fieldsEq P (i + 1) fs xs ys = some r' → (Op.eqFields (d + 1) cx.toArray cy.toArray fs).run P w = .ok r' w := fun r' h' =>
        fieldsEq_run d fs (i + 1) xs ys cx cy r' h' (fun j hj => by have := hx (j + 1) (by simp; omega); rw [show i + (j + 1) = i + 1 + j by omega] at this; simpa using this)
          (fun j hj => by have := hy (j + 1) (by simp; omega); rw [show i + (j + 1) = i + 1 + j by omega] at this; simpa using this)
      obtain ⟨rx, lx⟩ := hx 0 (by simp)
      obtain ⟨ry, ly⟩ := hy 0 (by simp)
      simp only [Nat.add_zero, List.getD_cons_zero] at rx ry lx ly
      have gx : cx.toArray[f.offset]? = some (cx.getD i undef) := by rw [hoff]; simp [List.getD_eq_getElem?_getD, List.getElem?_eq_getElem lx]
      have gy : cy.toArray[f.offset]? = some (cy.getD i undef) := by rw [hoff]; simp [List.getD_eq_getElem?_getD, List.getElem?_eq_getElem ly]
      generalize cx.getD i undef = vx at *
      generalize cy.getD i undef = vy at *
      split at h
      · rename_i k' k p k'' q r' hu hr
        split at h
        · rename_i hk
          subst hk
          simp only [Option.some.injEq] at h
          obtain rfl := rep_int rx
          obtain rfl := rep_int ry
          have hp := plainKey_of (P := P) (t := f.type) (.inr (.inl ⟨_, hu⟩))
          simp only [Op.eqFields, hname, ne_eq, not_false_eq_true, if_true, Sem.run_bind, run_part_plain w hp gx, run_part_plain w hp gy, Result.andThen_ok, run_equalIn_int w d _ _ _ _ _ hu]
          rw [← h]
          by_cases e : p = q
          · simp [e, ih r' hr]
          · simp [e]
        · simp at h
      · rename_i s1 s2 r' hu hr
        simp only [Option.some.injEq] at h
        obtain ⟨b1, rfl, e1⟩ := rep_str rx
        obtain ⟨b2, rfl, e2⟩ := rep_str ry
        have hp := plainKey_of (P := P) (t := f.type) (.inl hu)
        simp only [Op.eqFields, hname, ne_eq, not_false_eq_true, if_true, Sem.run_bind, run_part_plain w hp gx, run_part_plain w hp gy, Result.andThen_ok, run_equalIn_string w d _ _ _ hu, toList_eq]
        rw [← h]
        rw [e1, e2]
        by_cases e : s1 = s2
        · simp [e, ih r' hr]
        · simp [e]
      · rename_i s1 s2 r' hu hr
        simp only [Option.some.injEq] at h
        obtain rfl := rep_bool rx
        obtain rfl := rep_bool ry
        have hp := plainKey_of (P := P) (t := f.type) (.inr (.inr hu))
        simp only [Op.eqFields, hname, ne_eq, not_false_eq_true, if_true, Sem.run_bind, run_part_plain w hp gx, run_part_plain w hp gy, Result.andThen_ok, run_equalIn_bool w d _ _ _ hu]
        rw [← h]
        by_cases e : s1 = s2
        · simp [e, ih r' hr]
        · simp [e]
      · simp at h
    · simp at h

theorem binA_run (fs : FS w a E H β T B G) {op : BinOp} {t : TypeId} {x y : Operand} {u v r : AVal} {cu cv : Value} (h : binA P op t u v = some (true, r)) (hu : RepT w E H β u cu) (hv : RepT w E H β v cv) :
    ∃ c, (do eqGuard op t x y cu cv; binOp op t cu cv : Sem Value).run P w = .ok c w ∧ RepT w E H β r c := by
  unfold binA at h
  split at h
  · rename_i k p k' q
    obtain rfl := repT_int hu
    obtain rfl := repT_int hv
    have hg : (eqGuard op t x y (.int k p) (.int k' q)).run P w = .ok () w := by
      unfold eqGuard; split <;> simp
    split at h
    · obtain ⟨c, h1, h2⟩ := shiftA_run (P := P) (k' := k') h w t
      exact ⟨c, by simp [hg, h1], h2 _ _ _⟩
    · obtain ⟨c, h1, h2⟩ := shiftA_run (P := P) (k' := k') h w t
      exact ⟨c, by simp [hg, h1], h2 _ _ _⟩
    · split at h
      · rename_i hk
        subst hk
        obtain ⟨c, h1, h2⟩ := intBin_run (P := P) h w t
        exact ⟨c, by simp [hg, h1], h2 _ _ _⟩
      · simp at h
  · rename_i s1 s2
    obtain ⟨b1, rfl, e1⟩ := repT_str hu
    obtain ⟨b2, rfl, e2⟩ := repT_str hv
    subst e1; subst e2
    have hg : (eqGuard op t x y (.string b1) (.string b2)).run P w = .ok () w := by
      unfold eqGuard; split <;> simp
    obtain ⟨c, h1, h2⟩ := strBin_run (P := P) h w t
    exact ⟨c, by simp [hg, h1], h2 _ _ _⟩
  · rename_i p q
    obtain rfl := repT_bool hu
    obtain rfl := repT_bool hv
    have hg : (eqGuard op t x y (.bool p) (.bool q)).run P w = .ok () w := by
      unfold eqGuard; split <;> simp
    split at h
    · rename_i ht
      simp only [Option.some.injEq, Prod.mk.injEq, true_and] at h
      subst h
      have he : (Op.equal t (.bool p) (.bool q)).run P w = .ok (p == q) w := run_equalIn_bool w 9999 t p q ht
      exact ⟨.bool (p == q), by simp only [Sem.run_bind, hg, Result.andThen_ok, binOp, he, Sem.run_pure], .bool _⟩
    · rename_i ht
      simp only [Option.some.injEq, Prod.mk.injEq, true_and] at h
      subst h
      have he : (Op.equal t (.bool p) (.bool q)).run P w = .ok (p == q) w := run_equalIn_bool w 9999 t p q ht
      exact ⟨.bool (!(p == q)), by simp only [Sem.run_bind, hg, Result.andThen_ok, binOp, he, Sem.run_pure], .bool _⟩
    · simp at h
  · rename_i xs ys
    obtain ⟨cx, rfl, lx, hx⟩ := rep_agg (noTmp_of hu (by simp))
    obtain ⟨cy, rfl, ly, hy⟩ := rep_agg (noTmp_of hv (by simp))
    have key : ∀ r', structEq P t xs ys = some r' → (op = .eql ∨ op = .neq) → (Op.equal t (.agg cx.toArray) (.agg cy.toArray)).run P w = .ok r' w ∧ (eqGuard op t x y (.agg cx.toArray) (.agg cy.toArray)).run P w = .ok () w := by
      intro r' hr hop
      unfold structEq at hr
      split at hr
      · rename_i fields ht
        split at hr
        · rename_i hc
          obtain ⟨hc1, hc2⟩ := hc
          have hfo : P.fieldsOf t = fields := by simp [Program.fieldsOf, ht]
          have hrun := fieldsEq_run 9998 (P := P) (w := w) (E := E) (H := H) fields.toList 0 xs ys cx cy r' hr (fun j hj => by simpa using ⟨(hx j hj).2, by omega⟩) (fun j hj => by simpa using ⟨(hy j hj).2, by omega⟩)
          refine ⟨?_, ?_⟩
          · have := run_equalIn_struct (P := P) w 9999 t cx.toArray cy.toArray (by rw [hfo]; exact ht) hc1
            rw [hfo] at this
            exact this.trans hrun
          · rcases hop with rfl | rfl <;> simp [eqGuard, hc2]
        · simp at hr
      · simp at hr
    split at h
    · rename_i r' hr
      simp only [Option.some.injEq, Prod.mk.injEq, true_and] at h
      subst h
      obtain ⟨k1, k2⟩ := key _ hr (.inl rfl)
      exact ⟨.bool r', by simp only [Sem.run_bind, k2, Result.andThen_ok, binOp, k1, Sem.run_pure], .bool _⟩
    · rename_i r' hr
      simp only [Option.some.injEq, Prod.mk.injEq, true_and] at h
      subst h
      obtain ⟨k1, k2⟩ := key _ hr (.inr rfl)
      exact ⟨.bool (!r'), by simp only [Sem.run_bind, k2, Result.andThen_ok, binOp, k1, Sem.run_pure], .bool _⟩
    · simp at h
  · simp at h
theorem step_bin (fs : FS w a E H β T B G) {op : BinOp} {t u : TypeId} {x y : Operand} (hv : okTmps G (mkO dst (.binOp op t x y u) type pos after guard)) (h : val B H (binA P op t (aeval T x) (aeval T y)) = some r) (hok : r.ok = true) :
    Sound P w a E H β T G (mkO dst (.binOp op t x y u) type pos after guard) r := by
  obtain ⟨ok, v, h1, rfl⟩ := val_some h
  simp only at hok; subst hok
  obtain ⟨c, hr, hrep⟩ := binA_run (x := x) (y := y) fs h1 (okTmps_rep fs hv (x := x) (by simp [Op.operands])) (okTmps_rep fs hv (x := y) (by simp [Op.operands]))
  refine Sound.pure fs (c := c) ?_ hrep
  simp only [execOp, Sem.run_bind] at hr ⊢
  rw [hr]; simp
theorem equal_sliceNil {t e : TypeId} (hu : P.underlying t = some (.slice e)) (a : Option Addr) (n cap : Nat) : (Op.equal t (.slice a n cap) (.slice none 0 0)).run P w = .ok a.isNone w := by
  have e1 : Op.equal t (.slice a n cap) (.slice none 0 0) = Op.equalIn (9999 + 1) t (.slice a n cap) (.slice none 0 0) := rfl
  rw [e1]
  unfold Op.equalIn
  cases a <;> simp [run_underlying hu]
theorem equal_ptrNil {t e : TypeId} (hu : P.underlying t = some (.pointer e)) (a : Option Addr) : (Op.equal t (.pointer a) (.pointer none)).run P w = .ok a.isNone w := by
  have e1 : Op.equal t (.pointer a) (.pointer none) = Op.equalIn (9999 + 1) t (.pointer a) (.pointer none) := rfl
  rw [e1]
  unfold Op.equalIn
  cases a <;> simp [run_underlying hu]
theorem nilOf_rep {x : AVal} {c : Value} {b : Bool} (h : nilOf x = some b) (r : RepT w E H β x c) : ∃ a n cap, c = .slice a n cap ∧ a.isNone = b := by
  unfold nilOf at h
  split at h
  · simp only [Option.some.injEq] at h; subst h
    have := noTmp_of r (by simp)
    cases this with | pure _ _ h => cases h; exact ⟨_, _, _, rfl, rfl⟩
  · simp only [Option.some.injEq] at h; subst h
    have := noTmp_of r (by simp)
    cases this with | pure _ _ h => cases h; exact ⟨_, _, _, rfl, rfl⟩
  · simp only [Option.some.injEq] at h; subst h
    have := noTmp_of r (by simp)
    cases this with | pure _ _ h => cases h; exact ⟨_, _, _, rfl, rfl⟩
  · simp only [Option.some.injEq] at h; subst h
    obtain ⟨a, cap, rfl, _, _, hc⟩ := rep_list (noTmp_of r (by simp))
    obtain ⟨blk, off, sz, cs, rfl, _⟩ := hc (by omega)
    exact ⟨_, _, _, rfl, rfl⟩
  · simp at h
theorem nilPOf_rep {x : AVal} {c : Value} {b : Bool} (h : nilPOf x = some b) (r : RepT w E H β x c) : ∃ a, c = .pointer a ∧ a.isNone = b := by
  unfold nilPOf at h
  split at h
  · simp only [Option.some.injEq] at h; subst h
    have := noTmp_of r (by simp)
    cases this with | pure _ _ h => cases h; exact ⟨_, rfl, rfl⟩
  · rename_i o off
    simp only [Option.some.injEq] at h; subst h
    cases o with
    | tmp t => obtain ⟨b, rfl, _⟩ := repT_ptr r; exact ⟨_, rfl, rfl⟩
    | hp k =>
      obtain ⟨rfl, _⟩ := rep_ptrH (noTmp_of r (by simp))
      exact ⟨_, rfl, rfl⟩
  · simp at h
theorem step_nil (fs : FS w a E H β T B G) {op : BinOp} {t u : TypeId} {x y : Operand} {b : Bool} (hv : okTmps G (mkO dst (.binOp op t x y u) type pos after guard)) (hb : nilCmp P op t y (aeval T x) = some b) (h : val1 B H (some (.bool b)) = some r) :
    Sound P w a E H β T G (mkO dst (.binOp op t x y u) type pos after guard) r := by
  obtain ⟨v, h1, rfl⟩ := val1_some h
  simp only [Option.some.injEq] at h1
  subst h1
  have rx := okTmps_rep fs hv (x := x) (by simp [Op.operands])
  generalize aeval T x = xv at *
  have key : ∀ (cx cy : Value) (q : Bool), a.eval x = cx → a.eval y = cy → (∀ p z, op = .eql ∨ op = .neq → (eqGuard op t p z cx cy).run P w = .ok () w) → ((binOp .eql t cx cy).run P w = .ok (.bool q) w ∧ (binOp .neq t cx cy).run P w = .ok (.bool (!q)) w) → (op = .eql ∧ b = q ∨ op = .neq ∧ b = !q) → Sound P w a E H β T G (mkO dst (.binOp op t x y u) type pos after guard) ⟨true, .bool b, B, H⟩ := by
    intro cx cy q hx hy hg he hop
    refine Sound.pure fs (c := .bool b) ?_ (.bool _)
    simp only [execOp, hx, hy]
    rcases hop with ⟨rfl, rfl⟩ | ⟨rfl, rfl⟩
    · simp only [Sem.run_bind, hg _ _ (.inl rfl), Result.andThen_ok, he.1, Sem.run_pure]
    · simp only [Sem.run_bind, hg _ _ (.inr rfl), Result.andThen_ok, he.2, Sem.run_pure]
  unfold nilCmp at hb
  split at hb
  all_goals first | (simp at hb; done) | skip
  all_goals
    rename_i q hq
    simp only [Option.some.injEq] at hb
    split at hq
    · split at hq
      · rename_i e hu
        obtain ⟨ad, n, cap, hc, hn⟩ := nilOf_rep hq rx
        have he := equal_sliceNil (w := w) hu ad n cap
        rw [hn] at he
        refine key (.slice ad n cap) (.slice none 0 0) q hc rfl (fun p z ho => ?_) ⟨by simp only [binOp, Sem.run_bind, he, Result.andThen_ok, Sem.run_pure], by simp only [binOp, Sem.run_bind, he, Result.andThen_ok, Sem.run_pure]⟩ (by simp [hb])
        rcases ho with ho | ho <;> first | (cases ho; done) | (simp [eqGuard, Program.eqGuardType, hu])
      · simp at hq
    · split at hq
      · rename_i e hu
        obtain ⟨ad, hc, hn⟩ := nilPOf_rep hq rx
        have he := equal_ptrNil (w := w) hu ad
        rw [hn] at he
        refine key (.pointer ad) (.pointer none) q hc rfl (fun p z ho => ?_) ⟨by simp only [binOp, Sem.run_bind, he, Result.andThen_ok, Sem.run_pure], by simp only [binOp, Sem.run_bind, he, Result.andThen_ok, Sem.run_pure]⟩ (by simp [hb])
        rcases ho with ho | ho <;> first | (cases ho; done) | (simp [eqGuard, Program.eqGuardType, hu])
      · simp at hq
    · simp at hq
theorem step_same (fs : FS w a E H β T B G) {op : BinOp} {t u : TypeId} {x y : Operand} {b : Bool} (hv : okTmps G (mkO dst (.binOp op t x y u) type pos after guard)) (hb : ptrSame P op t (aeval T x) (aeval T y) = some b) (h : val1 B H (some (.bool b)) = some r) :
    Sound P w a E H β T G (mkO dst (.binOp op t x y u) type pos after guard) r := by
  obtain ⟨v, h1, rfl⟩ := val1_some h
  simp only [Option.some.injEq] at h1
  subst h1
  have rx := okTmps_rep fs hv (x := x) (by simp [Op.operands])
  have ry := okTmps_rep fs hv (x := y) (by simp [Op.operands])
  generalize aeval T x = xv at *
  generalize aeval T y = yv at *
  unfold ptrSame at hb
  split at hb
  · rename_i i o j o'
    split at hb
    · rename_i hij
      obtain ⟨rfl, rfl⟩ := hij
      split at hb
      · rename_i te hu
        obtain ⟨ex, _⟩ := rep_ptrH (noTmp_of rx (by simp))
        obtain ⟨ey, _⟩ := rep_ptrH (noTmp_of ry (by simp))
        split at hb
        · rename_i jn hj
          simp only [Option.some.injEq] at hb
          subst hb
          refine Sound.pure fs (c := .bool true) ?_ (.bool _)
          simp only [execOp, ex, ey]
          have hg : ∀ p z, (eqGuard .eql t p z (.pointer (some ⟨E.φ i, o, none⟩)) (.pointer (some ⟨E.φ i, o, none⟩))).run P w = .ok () w := fun p z => by simp [eqGuard, Program.eqGuardType, hu]
          simp only [Sem.run_bind, hg, Result.andThen_ok, run_eql_ptr_same (w := w) ⟨E.φ i, o, none⟩ hu hj, Sem.run_pure]
        · rename_i jn hj
          simp only [Option.some.injEq] at hb
          subst hb
          refine Sound.pure fs (c := .bool false) ?_ (.bool _)
          simp only [execOp, ex, ey]
          have hg : ∀ p z, (eqGuard .neq t p z (.pointer (some ⟨E.φ i, o, none⟩)) (.pointer (some ⟨E.φ i, o, none⟩))).run P w = .ok () w := fun p z => by simp [eqGuard, Program.eqGuardType, hu]
          simp only [Sem.run_bind, hg, Result.andThen_ok, Lib.run_neq_ptr_same (w := w) ⟨E.φ i, o, none⟩ hu hj, Sem.run_pure]
        · simp at hb
      · simp at hb
    · simp at hb
  · simp at hb
theorem step_un (fs : FS w a E H β T B G) {op : UnOp} {t : TypeId} {x : Operand} (hv : okTmps G (mkO dst (.unOp op t x) type pos after guard)) (h : val1 B H (unA op (aeval T x)) = some r) :
    Sound P w a E H β T G (mkO dst (.unOp op t x) type pos after guard) r := by
  obtain ⟨v, h1, rfl⟩ := val1_some h
  have hx := okTmps_rep fs hv (x := x) (by simp [Op.operands])
  unfold unA at h1
  split at h1
  · rename_i b hb
    rw [hb] at hx
    have e := repT_bool hx
    simp only [Option.some.injEq] at h1; subst h1
    exact Sound.pure fs (c := .bool (!b)) (by simp [execOp, e, Op.unary]) (.bool _)
  · rename_i k n hb
    rw [hb] at hx
    have e := repT_int hx
    simp only [Option.some.injEq] at h1; subst h1
    exact Sound.pure fs (c := .int k (k.wrap (0 - n))) (by simp [execOp, e, Op.unary, Op.intArith]) (.int _ _)
  · simp at h1
theorem elemT_some {t e : TypeId} (h : elemT P t = some e) : P.underlying t = some (.slice e) := by
  unfold elemT at h
  split at h
  · rename_i e' he; simp only [Option.some.injEq] at h; subst h; exact he
  · simp at h
theorem step_field (fs : FS w a E H β T B G) {t : TypeId} {x : Operand} {f : Nat} (hv : okTmps G (mkO dst (.fieldAddr t x f) type pos after guard)) (h : val B H (fieldAddrA P H t (aeval T x) f) = some r) (hok : r.ok = true) :
    Sound P w a E H β T G (mkO dst (.fieldAddr t x f) type pos after guard) r := by
  obtain ⟨ok, v, h1, rfl⟩ := val_some h
  have hx := okTmps_rep fs hv (x := x) (by simp [Op.operands])
  unfold fieldAddrA at h1
  split at h1
  · rename_i o' ft hf
    unfold fieldOff at hf
    split at hf
    · rename_i fields hu
      split at hf
      · rename_i fd hfd
        split at hf
        · simp at hf
        · rename_i n hn hsz
          simp only [Option.some.injEq, Prod.mk.injEq] at hf
          obtain ⟨rfl, rfl⟩ := hf
          have hn0 : n ≠ 0 := fun e => hn (by rw [e])
          have hrun : ∀ b off, (Instr.fieldAt t (.pointer (some ⟨b, off, none⟩)) f).run P w = .ok (.pointer (some ⟨b, off + fd.offset, none⟩)) w := by
            intro b off
            simp [Instr.fieldAt, run_underlying hu, hfd, Instr.sureAddr, fieldPlace, run_sizeT hsz, hn0, addr_add]
          split at h1
          · rename_i q off hq
            rw [hq] at hx
            simp only [Option.some.injEq, Prod.mk.injEq] at h1
            obtain ⟨rfl, rfl⟩ := h1
            cases q with
            | tmp u =>
              obtain ⟨b, e, hb⟩ := repT_ptr hx
              exact Sound.pure fs (c := .pointer (some ⟨b, off + fd.offset, none⟩)) (by simp [execOp, e, hrun]) (.box _ _ _ hb)
            | hp k =>
              obtain ⟨e, hb⟩ := rep_ptrH (noTmp_of hx (by simp))
              exact Sound.pure fs (c := .pointer (some ⟨E.φ k, off + fd.offset, none⟩)) (by simp [execOp, e, hrun]) (.val _ _ (.ptrH _ _ hb))
          · rename_i k ver i off hq
            rw [hq] at hx
            split at h1
            case h_2 => simp at h1
            rename_i sz0 rows0 u0 hk
            simp only [Option.some.injEq, Prod.mk.injEq] at h1
            obtain ⟨rfl, rfl⟩ := h1
            simp only [beq_iff_eq] at hok
            subst hok
            obtain ⟨p, sz, u, e, ha, hle, hp⟩ := rep_eptr (noTmp_of hx (by simp))
            obtain ⟨hc, rfl⟩ := hp (by rw [arr_of_get hk] at ha; simp only [Option.some.injEq, Prod.mk.injEq] at ha; exact ha.2)
            exact Sound.pure fs (c := .pointer (some ⟨E.φ k, i * sz + off + fd.offset, none⟩)) (by simp [execOp, e, hrun])
              (.val _ _ (.eptr _ _ _ _ _ sz u ha hle (fun _ => ⟨hc, by rw [Nat.add_assoc]⟩)))
          · rename_i cs hq
            rw [hq] at hx
            simp only [Option.some.injEq, Prod.mk.injEq] at h1
            obtain ⟨rfl, rfl⟩ := h1
            obtain ⟨blk, off, f', e, hi, h2, h3⟩ := rep_rptr (noTmp_of hx (by simp))
            refine Sound.pure fs (c := .pointer (some ⟨blk, off + fd.offset, none⟩)) (by simp [execOp, e, hrun]) (.val _ _ (.pure _ _ (.rptr _ blk _ (fun j => f' (fd.offset + j)) hi (fun j hj => ?_) (fun j hj => ?_))))
            · simp only [List.length_drop] at hj
              have := h2 (fd.offset + j) (by omega)
              rw [show off + fd.offset + j = off + (fd.offset + j) by omega]; exact this
            · simp only [List.length_drop] at hj
              have := h3 (fd.offset + j) (by omega)
              simpa [List.getD_eq_getElem?_getD] using this
          · simp at h1
        · simp at hf
      · simp at hf
    · simp at hf
  · simp at h1
end Go.Mu
/-
  Mu: the operations, one by one (slices, conversions, interfaces, lengths).
-/
namespace Go.Mu
open Go
variable {P : Program} {fh : FH} {w w' : World} {a : Act} {E E' : Env} {H H' : Heap} {β : Nat → Option Nat} {T : List AVal} {B : Boxes} {G : Tags}
  {dst : Option Nat} {type : TypeId} {pos : String} {after : Array Edge} {guard : Option (Nat × Bool)} {r : SR}

theorem step_idx (fs : FS w a E H β T B G) {t : TypeId} {x i : Operand} (hv : okTmps G (mkO dst (.indexAddr t x i) type pos after guard)) (h : val B H (idxA P H t (aeval T x) (aeval T i)) = some r) (hok : r.ok = true) :
    Sound P w a E H β T G (mkO dst (.indexAddr t x i) type pos after guard) r := by
  obtain ⟨ok, v, h1, rfl⟩ := val_some h
  simp only at hok; subst hok
  have hx := okTmps_rep fs hv (x := x) (by simp [Op.operands])
  have hi := okTmps_rep fs hv (x := i) (by simp [Op.operands])
  unfold idxA at h1
  split at h1
  · rename_i e k n he hn
    rw [hn] at hi
    have ei := repT_int hi
    have hu := elemT_some he
    split at h1
    · rename_i full m row hm
      rw [hm] at hx
      simp only [Option.some.injEq, Prod.mk.injEq, Bool.and_eq_true, decide_eq_true_eq] at h1
      obtain ⟨⟨⟨hsz, h0⟩, hlt⟩, rfl⟩ := h1
      obtain ⟨ad, cap, ex, hc, hf, hrow⟩ := rep_list (noTmp_of hx (by simp))
      have hm0 : m ≠ 0 := by omega
      obtain ⟨blk, off, sz, cs, rfl, himm, hl, hcell, hrep⟩ := hrow hm0
      have hsz' : sizeT P e = some sz := by rw [← hsz, hl 0 (by omega)]
      refine Sound.pure fs (c := .pointer (some ⟨blk, off + n.toNat * sz, none⟩)) ?_ (.val _ _ (.pure _ _ (.rptr _ blk _ (fun j => cs n.toNat j) himm (fun j hj => ?_) (fun j hj => ?_))))
      · simp only [execOp, Instr.indexAt, ex, ei, asIntOf, Sem.run_bind, Sem.run_pure, Result.andThen_ok, run_underlying hu, run_sizeT hsz']
        rw [Sem.run_ite, if_pos ⟨h0, hlt⟩]
        simp [run_sizeT hsz', addr_add]
      · rw [hl n.toNat (by omega)] at hj
        exact hcell n.toNat j (by omega) hj
      · rw [hl n.toNat (by omega)] at hj
        exact hrep n.toNat j (by omega) hj
    · rename_i k' off len ver clip hm
      rw [hm] at hx
      split at h1
      · rename_i sz rows u hk
        simp only [Option.some.injEq, Prod.mk.injEq, Bool.and_eq_true, decide_eq_true_eq, beq_iff_eq] at h1
        obtain ⟨⟨⟨⟨hsz, hvu⟩, h0⟩, hlt⟩, rfl⟩ := h1
        obtain ⟨ad, cap, sz', u', ex, ha, hle, hsh⟩ := rep_own (noTmp_of hx (by simp))
        have ha' := ha
        rw [arr_of_get hk] at ha
        simp only [Option.some.injEq, Prod.mk.injEq] at ha
        obtain ⟨rfl, rfl⟩ := ha
        obtain ⟨s1, s2, s3, s4, s5⟩ := hsh hvu.symm
        have hcap : E.cap k' ≠ 0 := by omega
        have had := s5 hcap (.inl (by omega))
        subst had
        refine Sound.pure fs (c := .pointer (some ⟨E.φ k', (off + n.toNat) * sz, none⟩)) ?_ (.val _ _ (.eptr _ _ _ _ _ sz u ha' hle (fun _ => ⟨hcap, rfl⟩)))
        simp only [execOp, Instr.indexAt, ex, ei, asIntOf, Sem.run_bind, Sem.run_pure, Result.andThen_ok, run_underlying hu]
        rw [Sem.run_ite, if_pos ⟨h0, hlt⟩]
        simp [run_sizeT hsz.symm, addr_add, Nat.add_mul]
      · simp at h1
    · simp at h1
  · rename_i k n he hn
    rw [hn] at hi
    have ei := repT_int hi
    split at h1
    · rename_i len e q off hu hq
      split at h1
      · rename_i sz hsz
        rw [hq] at hx
        simp only [Option.some.injEq, Prod.mk.injEq, Bool.and_eq_true, decide_eq_true_eq] at h1
        obtain ⟨⟨h0, hlt⟩, rfl⟩ := h1
        have hrun : ∀ b off, a.eval x = .pointer (some ⟨b, off, none⟩) → (execOp a.eval (mkO dst (.indexAddr t x i) type pos after guard)).run P w = .ok (.value (.pointer (some ⟨b, off + n.toNat * sz, none⟩))) w := by
          intro b off hb
          simp only [execOp, Instr.indexAt, hb, ei, asIntOf, Instr.sureAddr, Sem.run_bind, Sem.run_pure, Result.andThen_ok, run_underlying hu]
          rw [Sem.run_ite, if_pos ⟨h0, hlt⟩]
          simp [run_sizeT hsz, addr_add]
        cases q with
        | tmp u =>
          obtain ⟨b, e', hb⟩ := repT_ptr hx
          exact Sound.pure fs (c := .pointer (some ⟨b, off + n.toNat * sz, none⟩)) (hrun b off e') (.box _ _ _ hb)
        | hp k' =>
          obtain ⟨e', hv'⟩ := rep_ptrH (noTmp_of hx (by simp))
          exact Sound.pure fs (c := .pointer (some ⟨E.φ k', off + n.toNat * sz, none⟩)) (hrun _ off e') (.val _ _ (.ptrH _ _ hv'))
      · simp at h1
    · simp at h1
  · simp at h1

theorem asInt_of {v : AVal} {c : Value} {n : Int} (hv : ∃ k, v = .int k n) (h : RepT w E H β v c) : ∃ k, c = .int k n := by
  obtain ⟨k, rfl⟩ := hv
  exact ⟨k, repT_int h⟩
/-- a bound of a slice expression -/
theorem bound_run {x : Value} {k : IntKind} {n : Int} {y : Nat} {code : BoundsCode} (hx : x = .int k n) (h0 : 0 ≤ n) (h1 : n ≤ y) (w : World) : (Instr.sliceBound x y code).run P w = .ok n.toNat w := by
  subst hx
  simp only [Instr.sliceBound, asIntOf, Sem.run_bind, Sem.run_pure, Result.andThen_ok]
  rw [Sem.run_ite, if_pos ⟨h0, h1⟩]; rfl

/-- the bounds of a slice expression, low and high -/
theorem bounds_run {isSl : Bool} {len cap : Nat} {lo hi : Option Value} {l h : Int} (hl : ∀ v, lo = some v → ∃ k, v = .int k l) (hl' : lo = none → l = 0) (hh : ∀ v, hi = some v → ∃ k, v = .int k h) (hh' : hi = none → h = len)
    (h0 : 0 ≤ l) (h1 : l ≤ h) (h2 : h ≤ len) (hc : len ≤ cap) (w : World) : (Instr.sliceBounds isSl len cap lo hi none).run P w = .ok (l.toNat, h.toNat, cap) w := by
  cases lo with
  | none =>
    have e := hl' rfl
    subst e
    cases hi with
    | none =>
      have e := hh' rfl
      subst e
      simp [Instr.sliceBounds]
    | some v =>
      obtain ⟨k, rfl⟩ := hh v rfl
      simp [Instr.sliceBounds, bound_run (P := P) (k := k) (n := h) (y := cap) rfl (by omega) (by omega)]
  | some u =>
    obtain ⟨k', rfl⟩ := hl u rfl
    cases hi with
    | none =>
      have e := hh' rfl
      subst e
      simp [Instr.sliceBounds, bound_run (P := P) (k := k') (n := l) (y := len) rfl h0 h1]
    | some v =>
      obtain ⟨k, rfl⟩ := hh v rfl
      simp [Instr.sliceBounds, bound_run (P := P) (k := k) (n := h) (y := cap) rfl (by omega) (by omega), bound_run (P := P) (k := k') (n := l) (y := h.toNat) rfl h0 (by omega)]
theorem bounds_run3 {len cap : Nat} {lo : Option Value} {hi mx : Value} {l h m : Int} (hl : ∀ v, lo = some v → ∃ k, v = .int k l) (hl' : lo = none → l = 0) (hh : ∃ k, hi = .int k h) (hm : ∃ k, mx = .int k m)
    (h0 : 0 ≤ l) (h1 : l ≤ h) (h2 : h ≤ m) (hc : m ≤ cap) (w : World) : (Instr.sliceBounds true len cap lo (some hi) (some mx)).run P w = .ok (l.toNat, h.toNat, m.toNat) w := by
  obtain ⟨k1, rfl⟩ := hh
  obtain ⟨k2, rfl⟩ := hm
  cases lo with
  | none =>
    have e := hl' rfl
    subst e
    simp [Instr.sliceBounds, bound_run (P := P) (k := k2) (n := m) (y := cap) rfl (by omega) (by omega), bound_run (P := P) (k := k1) (n := h) (y := m.toNat) rfl (by omega) (by omega)]
  | some u =>
    obtain ⟨k', rfl⟩ := hl u rfl
    simp [Instr.sliceBounds, bound_run (P := P) (k := k2) (n := m) (y := cap) rfl (by omega) (by omega), bound_run (P := P) (k := k1) (n := h) (y := m.toNat) rfl (by omega) (by omega), bound_run (P := P) (k := k') (n := l) (y := h.toNat) rfl h0 (by omega)]

theorem isIntV_rep {v : AVal} {c : Value} (h : isIntV v = true) (hr : RepT w E H β v c) : ∃ k, c = .int k (intOf v) := by
  cases v <;> simp [isIntV] at h
  exact ⟨_, repT_int hr⟩
theorem lo_ok {lo : Option Operand} (h : isIntO (lo.map (aeval T)) = true) (hr : ∀ x, lo = some x → RepT w E H β (aeval T x) (a.eval x)) :
    (∀ v, lo.map a.eval = some v → ∃ k, v = .int k (lowOf (lo.map (aeval T)))) ∧ (lo.map a.eval = none → lowOf (lo.map (aeval T)) = 0) := by
  cases lo with
  | none => exact ⟨fun v e => by simp at e, fun _ => rfl⟩
  | some x =>
    refine ⟨fun v e => ?_, fun e => by simp at e⟩
    simp only [Option.map_some, Option.some.injEq] at e
    subst e
    exact isIntV_rep (by simpa [isIntO] using h) (hr x rfl)
theorem hi_ok {hi : Option Operand} {n : Nat} (h : isIntO (hi.map (aeval T)) = true) (hr : ∀ x, hi = some x → RepT w E H β (aeval T x) (a.eval x)) :
    (∀ v, hi.map a.eval = some v → ∃ k, v = .int k (highOf (hi.map (aeval T)) n)) ∧ (hi.map a.eval = none → highOf (hi.map (aeval T)) n = n) := by
  cases hi with
  | none => exact ⟨fun v e => by simp at e, fun _ => rfl⟩
  | some x =>
    refine ⟨fun v e => ?_, fun e => by simp at e⟩
    simp only [Option.map_some, Option.some.injEq] at e
    subst e
    exact isIntV_rep (by simpa [isIntO] using h) (hr x rfl)
theorem extract_list (b : _root_.ByteArray) (l h : Nat) : (b.extract l h).data.toList = (b.data.toList.take h).drop l := by
  simp [List.drop_take]

theorem step_slice (fs : FS w a E H β T B G) {t : TypeId} {x : Operand} {lo hi mx : Option Operand} (hv : okTmps G (mkO dst (.slice t x lo hi mx) type pos after guard))
    (h : val B H (sliceA P H t (aeval T x) (lo.map (aeval T)) (hi.map (aeval T)) (mx.map (aeval T))) = some r) (hok : r.ok = true) :
    Sound P w a E H β T G (mkO dst (.slice t x lo hi mx) type pos after guard) r := by
  obtain ⟨ok, v, h1, rfl⟩ := val_some h
  simp only at hok; subst hok
  have hx := okTmps_rep fs hv (x := x) (by simp [Op.operands])
  have rlo : ∀ y, lo = some y → RepT w E H β (aeval T y) (a.eval y) := fun y e => okTmps_rep fs hv (by subst e; simp [Op.operands])
  have rhi : ∀ y, hi = some y → RepT w E H β (aeval T y) (a.eval y) := fun y e => okTmps_rep fs hv (by subst e; simp [Op.operands])
  have rmx : ∀ y, mx = some y → RepT w E H β (aeval T y) (a.eval y) := fun y e => okTmps_rep fs hv (by subst e; simp [Op.operands])
  unfold sliceA at h1
  simp only at h1
  generalize hL : lowOf (lo.map (aeval T)) = l at *
  split at h1
  · -- a string
    rename_i s hu hs
    rw [hs] at hx
    obtain ⟨b, ex, hb⟩ := repT_str hx
    split at h1
    · simp at h1
    · rename_i hmx
      simp only [Option.some.injEq, Prod.mk.injEq, Bool.and_eq_true, decide_eq_true_eq] at h1
      obtain ⟨⟨⟨⟨⟨⟨q1, q2⟩, q3⟩, h0⟩, hle⟩, hn⟩, rfl⟩ := h1
      have e0 : mx = none := by cases mx with | none => rfl | some _ => simp at hmx
      subst e0
      obtain ⟨l1, l2⟩ := lo_ok q1 rlo
      obtain ⟨g1, g2⟩ := hi_ok (n := s.length) q2 rhi
      rw [hL] at l1 l2
      have hsz : b.size = s.length := by rw [size_eq, hb]
      have := bounds_run (P := P) (isSl := false) (len := s.length) (cap := s.length) l1 l2 g1 g2 h0 hle hn (Nat.le_refl _) w
      refine Sound.pure fs (c := .string (b.extract l.toNat (highOf (hi.map (aeval T)) s.length).toNat)) ?_ (.str' ?_)
      · simp only [execOp, Instr.sliceAt, Sem.run_bind, run_underlying hu, Result.andThen_ok, ex, Instr.slice]
        simp [this, hsz]
      · rw [extract_list, hb]
  · -- plain data
    rename_i e full n row hu hs
    rw [hs] at hx
    obtain ⟨ad, cap, ex, hc, hf, hrow⟩ := rep_list (noTmp_of hx (by simp))
    split at h1
    · rename_i m0 hmx
      simp only [Option.some.injEq, Prod.mk.injEq, Bool.and_eq_true, decide_eq_true_eq, Bool.or_eq_true, beq_iff_eq] at h1
      obtain ⟨⟨⟨⟨⟨⟨⟨⟨⟨q1, q2⟩, q3⟩, hz⟩, hsome⟩, h0⟩, hle⟩, hm⟩, hn⟩, rfl⟩ := h1
      obtain ⟨l1, l2⟩ := lo_ok q1 rlo
      rw [hL] at l1 l2
      cases mx with
      | none => simp at hmx
      | some mo =>
      cases hi with
      | none => simp at hsome
      | some ho =>
      simp only [Option.map_some, Option.some.injEq] at hmx
      subst hmx
      obtain ⟨k1, e1⟩ := isIntV_rep (by simpa [isIntO] using q2) (rhi ho rfl)
      obtain ⟨k2, e2⟩ := isIntV_rep (by simpa [isIntO] using q3) (rmx mo rfl)
      simp only [Option.map_some, highOf] at *
      generalize intOf (aeval T ho) = hh at *
      generalize intOf (aeval T mo) = mm at *
      have hb := bounds_run3 (P := P) (len := n) (cap := cap) l1 l2 ⟨k1, e1⟩ ⟨k2, e2⟩ h0 hle hm (by omega) w
      obtain ⟨sz, hsz⟩ : ∃ sz, sizeT P e = some sz := by
        rcases hz with hz | ⟨_, hz⟩
        · exact ⟨_, hz.symm⟩
        · exact Option.isSome_iff_exists.1 hz
      refine Sound.pure fs (c := .slice (if mm.toNat = l.toNat then ad else ad.map (·.add (l.toNat * sz))) (hh.toNat - l.toNat) (mm.toNat - l.toNat)) ?_ (.val _ _ (.pure _ _ ?_))
      · simp only [execOp, Instr.sliceAt, Sem.run_bind, run_underlying hu, Result.andThen_ok, ex, Instr.slice, Option.map_some, hb, run_sizeT hsz, Sem.run_pure]
      · rw [show (hh - l).toNat = hh.toNat - l.toNat by omega]
        by_cases hz0 : hh.toNat - l.toNat = 0
        · rw [hz0]; exact .list0 _ _ _ _ (fun hfull => by simp only [beq_iff_eq] at hfull; omega)
        · obtain ⟨blk, off, sz', cs, rfl, himm, hlen, hcell, hrep⟩ := hrow (by omega)
          have hsz' : sz' = sz := by
            rcases hz with hz | ⟨hz, _⟩
            · rw [hlen 0 (by omega)] at hz; rw [hsz] at hz; exact Option.some.inj hz
            · omega
          subst hsz'
          rw [if_neg (by omega)]
          simp only [Option.map_some, addr_add]
          refine .list _ _ _ blk (off + l.toNat * sz') _ sz' (fun i j => cs (l.toNat + i) j) (by omega) (fun hfull => by simp only [beq_iff_eq] at hfull; omega) himm (fun i hi => hlen _ (by omega)) (fun i j hi hj => ?_) (fun i j hi hj => hrep _ _ (by omega) hj)
          have := hcell (l.toNat + i) j (by omega) hj
          rw [show off + l.toNat * sz' + i * sz' + j = off + (l.toNat + i) * sz' + j by rw [Nat.add_mul]; omega]
          exact this
    · rename_i hmx
      simp only [Option.some.injEq, Prod.mk.injEq, Bool.and_eq_true, decide_eq_true_eq, Bool.or_eq_true, beq_iff_eq] at h1
      obtain ⟨⟨⟨⟨⟨⟨⟨q1, q2⟩, q3⟩, hz⟩, h0⟩, hle⟩, hn⟩, rfl⟩ := h1
      have e0 : mx = none := by cases mx with | none => rfl | some _ => simp at hmx
      subst e0
      obtain ⟨l1, l2⟩ := lo_ok q1 rlo
      obtain ⟨g1, g2⟩ := hi_ok (n := n) q2 rhi
      rw [hL] at l1 l2
      generalize highOf (hi.map (aeval T)) n = hh at *
      have hb := bounds_run (P := P) (isSl := true) (len := n) (cap := cap) l1 l2 g1 g2 h0 hle hn hc w
      obtain ⟨sz, hsz⟩ : ∃ sz, sizeT P e = some sz := by
        rcases hz with hz | ⟨_, hz⟩
        · exact ⟨_, hz.symm⟩
        · exact Option.isSome_iff_exists.1 hz
      refine Sound.pure fs (c := .slice (if cap = l.toNat then ad else ad.map (·.add (l.toNat * sz))) (hh.toNat - l.toNat) (cap - l.toNat)) ?_ (.val _ _ (.pure _ _ ?_))
      · simp only [execOp, Instr.sliceAt, Sem.run_bind, run_underlying hu, Result.andThen_ok, ex, Instr.slice, Option.map_none, hb, run_sizeT hsz, Sem.run_pure]
      · rw [show (hh - l).toNat = hh.toNat - l.toNat by omega]
        by_cases hz0 : hh.toNat - l.toNat = 0
        · rw [hz0]; exact .list0 _ _ _ _ (fun hfull => by simp only [Bool.and_eq_true, beq_iff_eq] at hfull; have := hf hfull.1; omega)
        · obtain ⟨blk, off, sz', cs, rfl, himm, hlen, hcell, hrep⟩ := hrow (by omega)
          have hsz' : sz' = sz := by
            rcases hz with hz | ⟨hz, _⟩
            · rw [hlen 0 (by omega)] at hz; rw [hsz] at hz; exact Option.some.inj hz
            · omega
          subst hsz'
          rw [if_neg (by omega)]
          simp only [Option.map_some, addr_add]
          refine .list _ _ _ blk (off + l.toNat * sz') _ sz' (fun i j => cs (l.toNat + i) j) (by omega) (fun hfull => by simp only [Bool.and_eq_true, beq_iff_eq] at hfull; have := hf hfull.1; omega) himm (fun i hi => hlen _ (by omega)) (fun i j hi hj => ?_) (fun i j hi hj => hrep _ _ (by omega) hj)
          have := hcell (l.toNat + i) j (by omega) hj
          rw [show off + l.toNat * sz' + i * sz' + j = off + (l.toNat + i) * sz' + j by rw [Nat.add_mul]; omega]
          exact this
  · -- what is owned
    rename_i e k off len ver clip hu hs
    rw [hs] at hx
    obtain ⟨ad, cap, sz, u, ex, ha, hle', hsh⟩ := rep_own (noTmp_of hx (by simp))
    have hz_of : (match H[k]? with | some (.arr sz _ u) => decide (some sz = sizeT P e) && u == ver | _ => false) = true → sizeT P e = some sz ∧ ver = u := by
      intro h1
      unfold arrInfo at ha
      split at h1
      · rename_i hk
        rw [hk] at ha
        simp only [Option.some.injEq, Prod.mk.injEq] at ha
        obtain ⟨rfl, rfl⟩ := ha
        simp only [Bool.and_eq_true, decide_eq_true_eq, beq_iff_eq] at h1
        exact ⟨h1.1.symm, h1.2.symm⟩
      · simp at h1
    split at h1
    · rename_i m0 hmx
      cases mx with
      | none => simp at hmx
      | some mo =>
      simp only [Option.map_some, Option.some.injEq] at hmx
      subst hmx
      split at h1
      · rename_i heq
        simp only [Option.some.injEq, Prod.mk.injEq, Bool.and_eq_true, decide_eq_true_eq] at h1
        obtain ⟨⟨⟨⟨⟨⟨⟨q1, q2⟩, q3⟩, hz⟩, hsome⟩, h0⟩, hn⟩, rfl⟩ := h1
        obtain ⟨hsz, hvu⟩ := hz_of hz
        obtain ⟨s1, s2, s3, s4, s5⟩ := hsh hvu
        obtain ⟨l1, l2⟩ := lo_ok q1 rlo
        rw [hL] at l1 l2
        cases hi with
        | none => simp at hsome
        | some ho =>
        obtain ⟨k1, e1⟩ := isIntV_rep (by simpa [isIntO] using q2) (rhi ho rfl)
        obtain ⟨k2, e2⟩ := isIntV_rep (by simpa [isIntO] using q3) (rmx mo rfl)
        simp only [Option.map_some, highOf] at *
        generalize intOf (aeval T ho) = hh at *
        generalize intOf (aeval T mo) = mm at *
        simp only [Bool.and_eq_true, beq_iff_eq] at heq
        obtain ⟨rfl, rfl⟩ := heq
        have hb := bounds_run3 (P := P) (len := len) (cap := cap) l1 l2 ⟨k1, e1⟩ ⟨k2, e2⟩ h0 (by omega) (by omega) (by omega) w
        refine Sound.pure fs (c := .slice ad 0 0) ?_ (.val _ _ (.pure _ _ (.list0 _ _ _ _ (fun _ => rfl))))
        simp only [execOp, Instr.sliceAt, Sem.run_bind, run_underlying hu, Result.andThen_ok, ex, Instr.slice, Option.map_some, hb, run_sizeT hsz, Sem.run_pure]
        simp
      · rename_i heq
        simp only [Option.some.injEq, Prod.mk.injEq, Bool.and_eq_true, decide_eq_true_eq] at h1
        obtain ⟨⟨⟨⟨⟨⟨⟨⟨⟨q1, q2⟩, q3⟩, hz⟩, hsome⟩, h0⟩, hle⟩, hm⟩, hn⟩, rfl⟩ := h1
        obtain ⟨hsz, hvu⟩ := hz_of hz
        obtain ⟨s1, s2, s3, s4, s5⟩ := hsh hvu
        obtain ⟨l1, l2⟩ := lo_ok q1 rlo
        rw [hL] at l1 l2
        cases hi with
        | none => simp at hsome
        | some ho =>
        obtain ⟨k1, e1⟩ := isIntV_rep (by simpa [isIntO] using q2) (rhi ho rfl)
        obtain ⟨k2, e2⟩ := isIntV_rep (by simpa [isIntO] using q3) (rmx mo rfl)
        simp only [Option.map_some, highOf] at *
        generalize intOf (aeval T ho) = hh at *
        generalize intOf (aeval T mo) = mm at *
        subst hm
        simp only [Bool.and_eq_true, beq_iff_eq, and_true] at heq
        have hb := bounds_run3 (P := P) (len := len) (cap := cap) l1 l2 ⟨k1, e1⟩ ⟨k2, e2⟩ h0 hle (by omega) (by omega) w
        have had := s5 (by omega) (.inl (by omega))
        subst had
        refine Sound.pure fs (c := .slice (some ⟨E.φ k, (off + l.toNat) * sz, none⟩) (hh - l).toNat (hh.toNat - l.toNat)) ?_ (.val _ _ (.own _ _ _ _ _ _ _ sz u ha hle' (fun _ => ⟨by omega, fun _ => by omega, fun hc => by simp at hc, by omega, fun _ _ => rfl⟩)))
        simp only [execOp, Instr.sliceAt, Sem.run_bind, run_underlying hu, Result.andThen_ok, ex, Instr.slice, Option.map_some, hb, run_sizeT hsz, Sem.run_pure]
        rw [if_neg (by omega), addr_add, show hh.toNat - l.toNat = (hh - l).toNat by omega, Nat.add_mul]
    · rename_i hmx
      simp only [Option.some.injEq, Prod.mk.injEq, Bool.and_eq_true, decide_eq_true_eq, Bool.or_eq_true, beq_iff_eq, Bool.not_eq_true'] at h1
      obtain ⟨⟨⟨⟨⟨⟨⟨⟨q1, q2⟩, q3⟩, hz⟩, hcl⟩, h0⟩, hle⟩, hn⟩, rfl⟩ := h1
      have e0 : mx = none := by cases mx with | none => rfl | some _ => simp at hmx
      subst e0
      obtain ⟨hsz, hvu⟩ := hz_of hz
      obtain ⟨s1, s2, s3, s4, s5⟩ := hsh hvu
      obtain ⟨l1, l2⟩ := lo_ok q1 rlo
      obtain ⟨g1, g2⟩ := hi_ok (n := len) q2 rhi
      rw [hL] at l1 l2
      generalize highOf (hi.map (aeval T)) len = hh at *
      have hb := bounds_run (P := P) (isSl := true) (len := len) (cap := cap) l1 l2 g1 g2 h0 hle hn s1 w
      refine Sound.pure fs (c := .slice (if cap = l.toNat then ad else ad.map (·.add (l.toNat * sz))) (hh - l).toNat (cap - l.toNat)) ?_ (.val _ _ (.own _ _ _ _ _ _ _ sz u ha hle' (fun _ => ⟨by omega, fun hc => ?_, fun hc h00 => ?_, by omega, fun hcap hor => ?_⟩)))
      · simp only [execOp, Instr.sliceAt, Sem.run_bind, run_underlying hu, Result.andThen_ok, ex, Instr.slice, Option.map_none, hb, run_sizeT hsz, Sem.run_pure]
        rw [show hh.toNat - l.toNat = (hh - l).toNat by omega]
      · simp only [Bool.and_eq_true, beq_iff_eq] at hc
        have := s2 hc.1; omega
      · have hcf : clip = false := by
          cases clip with
          | false => rfl
          | true => simp at hc hcl; exact absurd hcl hc
        have := s3 hcf (by omega); omega
      · rcases hor with hne | ⟨h00, hc⟩
        · have had := s5 hcap (.inl (by omega))
          subst had
          rw [if_neg (by omega)]
          simp [addr_add, Nat.add_mul]
        · have hcf : clip = false := by
            cases clip with
            | false => rfl
            | true => simp at hc hcl; exact absurd hcl hc
          have had := s5 hcap (.inr ⟨by omega, hcf⟩)
          have hl0 : l.toNat = 0 := by omega
          have ho0 : off = 0 := by omega
          subst had
          rw [hl0, ho0]
          split <;> simp [addr_add]
  · simp at h1
end Go.Mu
/-
  Mu: the operations, one by one (interfaces, new boxes, structs and slices that are built).
-/
namespace Go.Mu
open Go
variable {P : Program} {fh : FH} {w w' : World} {a : Act} {E E' : Env} {H H' : Heap} {β : Nat → Option Nat} {T : List AVal} {B : Boxes} {G : Tags}
  {dst : Option Nat} {type : TypeId} {pos : String} {after : Array Edge} {guard : Option (Nat × Bool)} {r : SR}

theorem step_index (fs : FS w a E H β T B G) {t : TypeId} {x i : Operand} (hv : okTmps G (mkO dst (.index t x i) type pos after guard)) {s : List UInt8} {k : IntKind} {n : Int} (hu : P.underlying t = some .string) (hx : aeval T x = .str s) (hi : aeval T i = .int k n)
    (h0 : 0 ≤ n) (h1 : n < s.length) : Sound P w a E H β T G (mkO dst (.index t x i) type pos after guard) ⟨true, .int .u8 (s.getD n.toNat 0).toNat, B, H⟩ := by
  have rx := okTmps_rep fs hv (x := x) (by simp [Op.operands])
  have ri := okTmps_rep fs hv (x := i) (by simp [Op.operands])
  rw [hx] at rx; rw [hi] at ri
  obtain ⟨b, ex, hb⟩ := repT_str rx
  have ei := repT_int ri
  have hsz : b.size = s.length := by rw [size_eq, hb]
  refine Sound.pure fs (c := .int .u8 (s.getD n.toNat 0).toNat) ?_ (.int _ _)
  have hget : b[n.toNat]? = some (s.getD n.toNat 0) := by
    have hlt : n.toNat < b.size := by omega
    rw [getElem?_pos b n.toNat hlt]
    congr 1
    subst hb
    have hlt' : n.toNat < b.data.size := by rw [← Array.length_toList]; omega
    simp only [List.getD_eq_getElem?_getD]
    rw [List.getElem?_eq_getElem (by omega)]
    rfl
  simp only [execOp, Instr.index, ex, ei, asIntOf, Sem.run_bind, Sem.run_pure, Result.andThen_ok, run_underlying hu]
  rw [if_pos h0, hget]; rfl
theorem step_iface (fs : FS w a E H β T B G) {t : TypeId} {x : Operand} (hv : okTmps G (mkO dst (.makeInterface t x) type pos after guard)) {d : TypeDesc} (hu : P.underlying t = some d) (hd : ∀ ms, d ≠ .interface ms) (hn : noTmp (aeval T x) = true) :
    Sound P w a E H β T G (mkO dst (.makeInterface t x) type pos after guard) ⟨true, .iface t (aeval T x), B, H⟩ := by
  have rx := noTmp_rep hn (okTmps_rep fs hv (x := x) (by simp [Op.operands]))
  refine Sound.pure fs (c := .iface t (a.eval x)) ?_ (.val _ _ (.iface _ _ _ rx))
  simp only [execOp, Instr.makeInterface, Sem.run_bind, run_underlying hu, Result.andThen_ok]
  cases d <;> first | rfl | exact absurd rfl (hd _)
theorem step_func (fs : FS w a E H β T B G) {f : FuncId} {first caps : Array Operand} (hv : okTmps G (mkO dst (.makeFunc (.func f) first caps) type pos after guard)) (hf : first.size = 0) (hn : (caps.toList.map (aeval T)).all noTmp = true) :
    Sound P w a E H β T G (mkO dst (.makeFunc (.func f) first caps) type pos after guard) ⟨true, .func f (caps.toList.map (aeval T)), B, H⟩ := by
  have e0 : first = #[] := Array.eq_empty_of_size_eq_zero hf
  subst e0
  refine Sound.pure fs (c := .func (.func f) #[] (caps.toList.map a.eval).toArray) ?_ (.val _ _ (.func _ _ _ (by simp) (fun j hj => ?_)))
  · simp [execOp, Instr.makeFunc]
    apply Array.ext'; simp
  · simp only [List.length_map] at hj
    have hm : caps.toList[j] ∈ caps.toList := List.getElem_mem hj
    have := noTmp_rep (List.all_eq_true.1 hn _ (List.mem_map.2 ⟨_, hm, rfl⟩)) (okTmps_rep fs hv (x := caps.toList[j]) (by simp [Op.operands]))
    simpa [List.getD_eq_getElem?_getD, List.getElem?_eq_getElem hj, hj] using this
theorem zeroV_run {t : TypeId} {z : AVal} (h : zeroV P t = some z) (w : World) : ∃ c, (zeroValue t).run P w = .ok c w ∧ ∀ imm, RepP w imm z c := by
  unfold zeroV at h
  split at h
  · rename_i i hi
    split at h
    · rename_i v hz
      simp only [Option.some.injEq] at h
      subst h
      exact ⟨v, by simp [zeroValue, typeInfo, hi, hz], fun imm => ofConst_rep v⟩
    · simp at h
  · simp at h
theorem step_assert (fs : FS w a E H β T B G) {x : Operand} {xt t : TypeId} {ok : Bool} (hv : okTmps G (mkO dst (.typeAssert x xt t ok) type pos after guard)) (h : val1 B H (assertA P (aeval T x) t ok) = some r) :
    Sound P w a E H β T G (mkO dst (.typeAssert x xt t ok) type pos after guard) r := by
  obtain ⟨v, h1, rfl⟩ := val1_some h
  have rx := okTmps_rep fs hv (x := x) (by simp [Op.operands])
  have two : ∀ {u : AVal} {c : Value} {b : Bool}, Rep w E H u c → RepT w E H β (.tuple [u, .bool b]) (.tuple #[c, .bool b]) := fun {u c b} hr =>
    .val _ _ (.tuple _ [c, .bool b] rfl (fun j hj => by
      match j, hj with
      | 0, _ => exact hr
      | 1, _ => exact .pure _ _ (.bool b)))
  unfold assertA at h1
  split at h1
  · simp at h1
  · simp at h1
  · rename_i d hd hu
    have hd' : ∀ ms, d ≠ .interface ms := fun ms e => hd ms e
    split at h1
    · rename_i hx
      rw [hx] at rx
      have ex := rep_nilIface (noTmp_of rx (by simp))
      split at h1
      · rename_i hok
        subst hok
        simp only [Option.map_eq_some_iff] at h1
        obtain ⟨z, hz, rfl⟩ := h1
        obtain ⟨c, hc, hr⟩ := zeroV_run hz w
        refine Sound.pure fs (c := .tuple #[c, .bool false]) ?_ (two (.pure _ _ (hr _)))
        simp only [execOp, Instr.typeAssert, ex, Sem.run_bind, run_underlying hu, Result.andThen_ok]
        cases d <;> first | (simp [hc]; done) | exact absurd rfl (hd' _)
      · simp at h1
    · rename_i u y hx
      rw [hx] at rx
      obtain ⟨cy, ex, ry⟩ := rep_iface (noTmp_of rx (by simp))
      split at h1
      · rename_i hut
        subst hut
        simp only [Option.some.injEq] at h1
        subst h1
        cases ok with
        | true =>
          refine Sound.pure fs (c := .tuple #[cy, .bool true]) ?_ (two ry)
          simp only [execOp, Instr.typeAssert, ex, Sem.run_bind, run_underlying hu, Result.andThen_ok]
          cases d <;> first | (simp; done) | exact absurd rfl (hd' _)
        | false =>
          refine Sound.pure fs (c := cy) ?_ (.val _ _ ry)
          simp only [execOp, Instr.typeAssert, ex, Sem.run_bind, run_underlying hu, Result.andThen_ok]
          cases d <;> first | (simp; done) | exact absurd rfl (hd' _)
      · rename_i hut
        split at h1
        · rename_i hok
          subst hok
          simp only [Option.map_eq_some_iff] at h1
          obtain ⟨z, hz, rfl⟩ := h1
          obtain ⟨c, hc, hr⟩ := zeroV_run hz w
          refine Sound.pure fs (c := .tuple #[c, .bool false]) ?_ (two (.pure _ _ (hr _)))
          simp only [execOp, Instr.typeAssert, ex, Sem.run_bind, run_underlying hu, Result.andThen_ok]
          cases d <;> first | (simp [hc, hut]; done) | exact absurd rfl (hd' _)
        · simp at h1
    · simp at h1
theorem step_extract (fs : FS w a E H β T B G) {x : Operand} {i : Nat} (hv : okTmps G (mkO dst (.extract x i) type pos after guard)) {vs : List AVal} {v : AVal} (hx : aeval T x = .tuple vs) (hi : vs[i]? = some v) :
    Sound P w a E H β T G (mkO dst (.extract x i) type pos after guard) ⟨true, v, B, H⟩ := by
  have rx := okTmps_rep fs hv (x := x) (by simp [Op.operands])
  rw [hx] at rx
  obtain ⟨cs, ex, hl, hr⟩ := rep_tuple (noTmp_of rx (by simp))
  have hlt : i < vs.length := by
    rcases Nat.lt_or_ge i vs.length with g | g
    · exact g
    · rw [List.getElem?_eq_none g] at hi; cases hi
  have := hr i hlt
  rw [List.getD_eq_getElem?_getD, hi] at this
  refine Sound.pure fs (c := cs.getD i undef) ?_ (.val _ _ this)
  simp only [execOp, Instr.extract, ex]
  simp [List.getD_eq_getElem?_getD, List.getElem?_eq_getElem (show i < cs.length by omega)]
theorem step_len (fs : FS w a E H β T B G) {c : Call} {t : TypeId} {x : Operand} (hv : okTmps G (mkO dst (.call c) type pos after guard)) (hc : c.callee = .builtin .len) (ht : c.argTypes[0]? = some t) (hx : c.args[0]? = some x)
    (h : val1 B H (lenA P t (aeval T x)) = some r) : Sound P w a E H β T G (mkO dst (.call c) type pos after guard) r := by
  obtain ⟨v, h1, rfl⟩ := val1_some h
  have hm : x ∈ c.args := Array.mem_of_getElem? hx
  have rx := okTmps_rep fs hv (x := x) (by simp [Op.operands, Call.operands, hc, hm])
  have run : ∀ {n : Nat}, (Builtin.len_ c.argTypes type (c.args.map a.eval)).run P w = .ok (goInt n) w → (execOp a.eval (mkO dst (.call c) type pos after guard)).run P w = .ok (.value (.int .i64 n)) w := by
    intro n hn
    simp only [execOp, resolve, hc, Sem.run_bind, Sem.run_pure, Result.andThen_ok, invoke, builtin, hn]; rfl
  unfold lenA at h1
  split at h1
  · rename_i s hs
    split at h1
    · rename_i hu
      simp only [Option.some.injEq] at h1; subst h1
      rw [hs] at rx
      obtain ⟨b, ex, hb⟩ := repT_str rx
      have hsz : b.size = s.length := by rw [size_eq, hb]
      exact Sound.pure fs (run (by simp [Builtin.len_, ht, hx, ex, run_underlying hu, hsz])) (.int _ _)
    · simp at h1
  · rename_i full n row hs
    split at h1
    · rename_i e hu
      simp only [Option.some.injEq] at h1; subst h1
      rw [hs] at rx
      obtain ⟨ad, cap, ex, _⟩ := rep_list (noTmp_of rx (by simp))
      exact Sound.pure fs (run (by simp [Builtin.len_, ht, hx, ex, run_underlying hu])) (.int _ _)
    · simp at h1
  · rename_i k off len ver clip hs
    split at h1
    · rename_i e hu
      simp only [Option.some.injEq] at h1; subst h1
      rw [hs] at rx
      obtain ⟨ad, cap, sz, u, ex, _⟩ := rep_own (noTmp_of rx (by simp))
      exact Sound.pure fs (run (by simp [Builtin.len_, ht, hx, ex, run_underlying hu])) (.int _ _)
    · simp at h1
  · rename_i hs
    split at h1
    · rename_i e hu
      simp only [Option.some.injEq] at h1; subst h1
      rw [hs] at rx
      have ex := rep_nilX (noTmp_of rx (by simp))
      exact Sound.pure fs (run (n := 0) (by simp [Builtin.len_, ht, hx, ex, run_underlying hu])) (.int _ _)
    · simp at h1
  · simp at h1
theorem minmax_args {c : Call} {x y : Operand} (h : c.args.toList = [x, y]) : c.args = #[x, y] := by
  apply Array.ext'; simp [h]
theorem step_min (fs : FS w a E H β T B G) {c : Call} {x y : Operand} (hv : okTmps G (mkO dst (.call c) type pos after guard)) (hc : c.callee = .builtin .min) (ha : c.args.toList = [x, y]) (h : val1 B H (minA (aeval T x) (aeval T y)) = some r) :
    Sound P w a E H β T G (mkO dst (.call c) type pos after guard) r := by
  obtain ⟨v, h1, rfl⟩ := val1_some h
  have ha' := minmax_args ha
  have rx := okTmps_rep fs hv (x := x) (by simp [Op.operands, Call.operands, hc, ha'])
  have ry := okTmps_rep fs hv (x := y) (by simp [Op.operands, Call.operands, hc, ha'])
  unfold minA at h1
  split at h1
  · rename_i k p k' q hp hq
    rw [hp] at rx; rw [hq] at ry
    have ex := repT_int rx
    have ey := repT_int ry
    simp only [Option.some.injEq] at h1; subst h1
    refine Sound.pure fs ?_ (.int _ _)
    simp [execOp, resolve, hc, invoke, builtin, ha', Builtin.min_, Builtin.min2, ex, ey]
  · simp at h1
theorem step_max (fs : FS w a E H β T B G) {c : Call} {x y : Operand} (hv : okTmps G (mkO dst (.call c) type pos after guard)) (hc : c.callee = .builtin .max) (ha : c.args.toList = [x, y]) (h : val1 B H (maxA (aeval T x) (aeval T y)) = some r) :
    Sound P w a E H β T G (mkO dst (.call c) type pos after guard) r := by
  obtain ⟨v, h1, rfl⟩ := val1_some h
  have ha' := minmax_args ha
  have rx := okTmps_rep fs hv (x := x) (by simp [Op.operands, Call.operands, hc, ha'])
  have ry := okTmps_rep fs hv (x := y) (by simp [Op.operands, Call.operands, hc, ha'])
  unfold maxA at h1
  split at h1
  · rename_i k p k' q hp hq
    rw [hp] at rx; rw [hq] at ry
    have ex := repT_int rx
    have ey := repT_int ry
    simp only [Option.some.injEq] at h1; subst h1
    refine Sound.pure fs ?_ (.int _ _)
    simp [execOp, resolve, hc, invoke, builtin, ha', Builtin.max_, Builtin.max2, ex, ey]
  · simp at h1

/- boxes -/
theorem pushed_alloc (w : World) (ds : Array Value) (ty : TypeId) : Pushed w (w.alloc (.cells ds ty)) ds ty (0, 0) := ⟨rfl, rfl, rfl, rfl⟩
theorem thawed0 (n : Nat) : thawed (0, 0) n := fun o _ h => by omega
/-- a new variable, in the heap or as a box -/
theorem new_var (fs : FS w a E H β T B G) {op : Op} {d : Nat} {z : List AVal} {ds : Array Value} {ty : TypeId} (hz : ds.size = z.length) (hr : ∀ (j : Nat) (v : AVal), z[j]? = some v → ∃ c, ds[j]? = some c ∧ c.oneCell' = true ∧ Rep w E H v c)
    (hrun : (execOp a.eval (mkO (some d) op type pos after guard)).run P w = .ok (.value (.pointer (some ⟨w.heap.size, 0, none⟩))) (w.alloc (.cells ds ty))) :
    Sound P w a E H β T G (mkO (some d) op type pos after guard) ⟨true, .ptr (.hp H.length) 0, B, H ++ .var z :: noteOf fh d ty z⟩ ∧
    (d < B.length → T.any (pointsTo d) = false → Sound P w a E H β T G (mkO (some d) op type pos after guard) ⟨true, .ptr (.tmp d) 0, bset B d z, H⟩) := by
  constructor
  · obtain ⟨ev, fs'⟩ := fresh_obj fs (pushed_alloc w ds ty) (thawed0 _) (obj := .var z) (c := 0) (fun cs e => by cases e; exact ⟨hz, hr⟩) (fun sz rows u e => by cases e)
    unfold noteOf
    split
    · rename_i gl _
      obtain ⟨ev2, fs2⟩ := fresh_note fs' (t := ty) (n := z.length) (fun _ => ⟨ds, (0, 0), by simpa [pushEnv] using (pushed_alloc w ds ty).new, fun _ => hz⟩)
      have ev3 := ev.trans ev2 (fun x hx => .inl hx)
      rw [List.append_assoc] at ev3 fs2
      obtain ⟨E4, ev4, fs4⟩ := fresh_ghosts gl fs2
      have ev5 := ev3.trans ev4 (fun x hx => .inl hx)
      have eq : (H ++ ([.var z] ++ [.note ty z.length])) ++ ghostsOf gl = H ++ .var z :: .note ty z.length :: ghostsOf gl := by simp
      rw [eq] at ev5 fs4
      refine ⟨_, _, _, β, ⟨.inl hrun, ev5, fs4, .val _ _ ?_, fun _ _ h => .inl h⟩⟩
      have h0 := Rep.ptrH (w := w.alloc (.cells ds ty)) (E := pushEnv E H.length w.heap.size 0) (H := H ++ ([.var z] ++ [.note ty z.length])) H.length 0 (by simp [isVar])
      have h1 := h0.mono ev4.sees
      simpa [pushEnv] using h1
    · refine ⟨_, _, _, β, ⟨.inl hrun, ev, fs', .val _ _ ?_, fun _ _ h => .inl h⟩⟩
      have := Rep.ptrH (w := w.alloc (.cells ds ty)) (E := pushEnv E H.length w.heap.size 0) (H := H ++ [.var z]) H.length 0 (by simp [isVar])
      simpa [pushEnv] using this
  · intro hd hT
    obtain ⟨ev, fs'⟩ := fresh_box fs (pushed_alloc w ds ty) hd hT hz hr
    refine ⟨_, _, _, _, ⟨.inl hrun, ev, fs', .box _ _ _ (by simp), fun t b hb => ?_⟩⟩
    by_cases e : t = d
    · subst e; rw [upd_same] at hb; simp only [Option.some.injEq] at hb; exact .inr (by omega)
    · rw [upd_other _ _ e] at hb; exact .inl hb
theorem zeroTX_run {ex : Bool} {t : TypeId} {z : List AVal} (h : zeroTX ex P t = some z) (w : World) : ∃ c, (zeroValue t).run P w = .ok c w ∧ c.cells.size = z.length ∧ ∀ (j : Nat) (v : AVal), z[j]? = some v → ∃ d, c.cells[j]? = some d ∧ d.oneCell' = true ∧ ∀ imm, RepP w imm v d := by
  unfold zeroTX at h
  split at h
  · rename_i i hi
    split at h
    · rename_i v hz
      split at h
      · rename_i hall
        simp only [Option.some.injEq] at h
        subst h
        refine ⟨v, by simp [zeroValue, typeInfo, hi, hz], by simp, fun j u hu => ?_⟩
        simp only [List.getElem?_map, Option.map_eq_some_iff, Array.getElem?_toList] at hu
        obtain ⟨d, hd, rfl⟩ := hu
        exact ⟨d, hd, List.all_eq_true.1 hall d (Array.mem_toList_iff.2 (Array.mem_of_getElem? hd)), fun imm => exCell_rep ex (ofCell_rep d)⟩
      · simp at h
    · simp at h
  · simp at h
theorem zeroT_X {t : TypeId} : zeroT P t = zeroTX false P t := by
  unfold zeroT zeroTX exCell
  simp
theorem zeroT_run {t : TypeId} {z : List AVal} (h : zeroT P t = some z) (w : World) : ∃ c, (zeroValue t).run P w = .ok c w ∧ c.cells.size = z.length ∧ ∀ (j : Nat) (v : AVal), z[j]? = some v → ∃ d, c.cells[j]? = some d ∧ d.oneCell' = true ∧ ∀ imm, RepP w imm v d :=
  zeroTX_run (zeroT_X ▸ h) w
theorem step_alloc (fs : FS w a E H β T B G) {ex : Bool} {t : TypeId} {d : Nat} {z : List AVal} (h : zeroTX ex P t = some z) :
    Sound P w a E H β T G (mkO (some d) (.alloc t) type pos after guard) ⟨true, .ptr (.hp H.length) 0, B, H ++ .var z :: noteOf fh d t z⟩ ∧
    (d < B.length → T.any (pointsTo d) = false → Sound P w a E H β T G (mkO (some d) (.alloc t) type pos after guard) ⟨true, .ptr (.tmp d) 0, bset B d z, H⟩) := by
  obtain ⟨c, hc, hl, hr⟩ := zeroTX_run h w
  refine new_var (ty := t) fs hl (fun j v hv => let ⟨d, h1, h2, h3⟩ := hr j v hv; ⟨d, h1, h2, .pure _ _ (h3 _)⟩) ?_
  simp [execOp, Instr.alloc, hc, newVar, newRow]
theorem step_box (fs : FS w a E H β T B G) {t : TypeId} {x : Operand} {d : Nat} {z : List AVal} (hv : okTmps G (mkO (some d) (.box t x) type pos after guard)) (h : cellsOf? (aeval T x) = some z) (hn : noTmp (aeval T x) = true) :
    Sound P w a E H β T G (mkO (some d) (.box t x) type pos after guard) ⟨true, .ptr (.hp H.length) 0, B, H ++ .var z :: noteOf fh d t z⟩ ∧
    (d < B.length → T.any (pointsTo d) = false → Sound P w a E H β T G (mkO (some d) (.box t x) type pos after guard) ⟨true, .ptr (.tmp d) 0, bset B d z, H⟩) := by
  obtain ⟨hl, h1, hr⟩ := cellsOf_rep h (noTmp_rep hn (okTmps_rep fs hv (x := x) (by simp [Op.operands])))
  refine new_var (ty := t) (ds := (a.eval x).cells) fs (by simpa using hl) (fun j v hv => ?_) ?_
  · have hj : j < z.length := by
      rcases Nat.lt_or_ge j z.length with g | g
      · exact g
      · rw [List.getElem?_eq_none g] at hv; cases hv
    have := hr j hj
    rw [List.getD_eq_getElem?_getD, hv, List.getD_eq_getElem?_getD, List.getElem?_eq_getElem (by omega)] at this
    exact ⟨(a.eval x).cells.toList[j]'(by omega), by rw [← Array.getElem?_toList, List.getElem?_eq_getElem (by omega)], h1 _ (List.getElem_mem _), this⟩
  · simp [execOp, Instr.box, newVar, newRow]
end Go.Mu
/-
  Mu: the operations, one by one (what is built, converted, appended).
-/
namespace Go.Mu
open Go
variable {P : Program} {fh : FH} {w w' : World} {a : Act} {E E' : Env} {H H' : Heap} {β : Nat → Option Nat} {T : List AVal} {B : Boxes} {G : Tags}
  {dst : Option Nat} {type : TypeId} {pos : String} {after : Array Edge} {guard : Option (Nat × Bool)} {r : SR}

/-- a row of cells that stands for a row of abstract cells -/
def CellsRep (w : World) (E : Env) (H : Heap) (zs : List AVal) (ds : Array Value) : Prop :=
  ds.size = zs.length ∧ ∀ (j : Nat) (v : AVal), zs[j]? = some v → ∃ c, ds[j]? = some c ∧ c.oneCell' = true ∧ Rep w E H v c

theorem foldl_zipIdx (off : Nat) : ∀ (vs : List Value) (i : Nat) (ds : Array Value), (vs.zipIdx i).foldl (fun cs x => cs.setIfInBounds (off + x.2) x.1) ds = setArr ds (off + i) vs
  | [], _, _ => rfl
  | v :: vs, i, ds => by
    simp only [List.zipIdx_cons, List.foldl_cons, setArr]
    rw [foldl_zipIdx off vs (i + 1)]; rfl
theorem fill_step (place : Nat → Option (Nat × Nat)) (ds : Array Value) (i : Nat) (v : Value) (rest : List (Nat × Value)) (off size : Nat) (h : place i = some (off, size)) (h1 : v.cells.size = size) (h2 : off + v.cells.size ≤ ds.size) :
    Instr.fill place ds ((i, v) :: rest) = Instr.fill place (setArr ds off v.cells.toList) rest := by
  have := foldl_zipIdx off v.cells.toList 0 ds
  simp only [Nat.add_zero] at this
  simp only [Instr.fill, h]
  have e : (v.cells.size ≠ size || decide (off + v.cells.size > ds.size)) = false := by simp; omega
  rw [if_neg (by simpa using e)]
  congr 1
  rw [← this, ← Array.foldl_toList, Array.toList_zipIdx]
theorem CellsRep.set {zs : List AVal} {ds : Array Value} (h : CellsRep w E H zs ds) {off : Nat} {cs : List AVal} {vs : List Value} (hl : vs.length = cs.length) (hle : off + cs.length ≤ zs.length) (h1 : ∀ x ∈ vs, x.oneCell' = true)
    (hr : ∀ j, j < cs.length → Rep w E H (cs.getD j .undef) (vs.getD j undef)) : CellsRep w E H (setAt zs off cs) (setArr ds off vs) := by
  refine ⟨by rw [setArr_size, setAt_length]; exact h.1, fun j v hv => ?_⟩
  rw [setAt_get cs zs off j hle] at hv
  rw [setArr_get vs ds off j (by rw [h.1]; omega), hl]
  split at hv
  · rename_i hj
    rw [if_pos hj]
    have hlt : j - off < vs.length := by omega
    have := hr (j - off) (by omega)
    rw [List.getD_eq_getElem?_getD, hv, List.getD_eq_getElem?_getD, List.getElem?_eq_getElem hlt] at this
    exact ⟨vs[j - off], List.getElem?_eq_getElem hlt, h1 _ (List.getElem_mem hlt), this⟩
  · rename_i hj
    rw [if_neg hj]
    exact h.2 j v hv
theorem fillA_run {place : Nat → Option (Nat × Nat)} : ∀ (ps : List (Nat × Operand)) (zs : List AVal) (ds : Array Value) (out : List AVal), fillA place zs (ps.map fun x => (x.1, aeval T x.2)) = some out → CellsRep w E H zs ds →
    (∀ x ∈ ps, Rep w E H (aeval T x.2) (a.eval x.2)) → ∃ ds', Instr.fill place ds (ps.map fun x => (x.1, a.eval x.2)) = some ds' ∧ CellsRep w E H out ds'
  | [], zs, ds, out, h, hc, _ => by
    simp only [List.map_nil, fillA, Option.some.injEq] at h
    subst h
    exact ⟨ds, rfl, hc⟩
  | (i, x) :: ps, zs, ds, out, h, hc, hr => by
    simp only [List.map_cons, fillA] at h
    split at h
    · rename_i off size cs hp hcs
      split at h
      · rename_i hcond
        obtain ⟨hsz, hle⟩ := hcond
        obtain ⟨hl, h1, hrep⟩ := cellsOf_rep hcs (hr (i, x) (by simp))
        have hl' : (a.eval x).cells.size = cs.length := by simpa using hl
        have := fillA_run ps _ _ out h (hc.set hl hle h1 hrep) (fun y hy => hr y (by simp [hy]))
        obtain ⟨ds', e, hd⟩ := this
        refine ⟨ds', ?_, hd⟩
        rw [List.map_cons, fill_step place ds i (a.eval x) _ off size hp (by omega) (by rw [hc.1]; omega)]
        exact e
      · simp at h
    · simp at h
theorem run_places : ∀ (fields : List Field), fields.all (fun f => (sizeT P f.type).isSome) = true → ∃ l : List (Nat × Nat), (fields.mapM (fun f => (do pure (f.offset, ← sizeOf f.type) : Sem (Nat × Nat)))).run P w = .ok l w ∧
    ∀ i : Nat, l[i]? = placeOf P fields i
  | [], _ => ⟨[], by simp, fun i => by simp [placeOf]⟩
  | f :: fs, h => by
    simp only [List.all_cons, Bool.and_eq_true] at h
    obtain ⟨n, hn⟩ := Option.isSome_iff_exists.1 h.1
    obtain ⟨l, hl, hi⟩ := run_places fs h.2
    refine ⟨(f.offset, n) :: l, ?_, fun i => ?_⟩
    · rw [List.mapM_cons]
      simp only [Sem.run_bind, run_sizeT hn, Result.andThen_ok, Sem.run_pure, hl]
    · cases i with
      | zero => simp [placeOf, hn]
      | succ i => simpa [placeOf] using hi i
theorem step_build (fs : FS w a E H β T B G) {t : TypeId} {ps : Array (Nat × Operand)} (hv : okTmps G (mkO dst (.build t ps) type pos after guard)) {v : AVal} {ex : Bool} (h : buildA ex P t (ps.toList.map fun x => (x.1, aeval T x.2)) = some v)
    (hn : ps.toList.all (fun x => noTmp (aeval T x.2)) = true) : Sound P w a E H β T G (mkO dst (.build t ps) type pos after guard) ⟨true, v, B, H⟩ := by
  unfold buildA at h
  split at h
  · rename_i fields z hu hz
    split at h
    · simp at h
    · rename_i hall
      split at h
      · rename_i out hout
        simp only [Option.some.injEq] at h
        subst h
        obtain ⟨c, hc, hl, hr⟩ := zeroTX_run hz w
        have hm : ∀ x ∈ ps.toList, x.2 ∈ (mkO dst (.build t ps) type pos after guard).op.operands.toList := fun x hx => by
          simp only [Op.operands]
          exact List.mem_map.2 ⟨x, hx, rfl⟩
        obtain ⟨ds', hf, hd⟩ := fillA_run (w := w) (E := E) (H := H) (a := a) ps.toList z c.cells out hout ⟨hl, fun j u hu => let ⟨d, g1, g2, g3⟩ := hr j u hu; ⟨d, g1, g2, .pure _ _ (g3 _)⟩⟩
          (fun x hx => noTmp_rep (List.all_eq_true.1 hn x hx) (okTmps_rep fs hv (hm x hx)))
        obtain ⟨l, hpl, hi⟩ := run_places (P := P) (w := w) fields.toList (by cases e : fields.toList.all (fun f => (sizeT P f.type).isSome) <;> simp_all)
        refine Sound.pure fs (c := .agg ds'.toList.toArray) ?_ (.val _ _ (.agg out ds'.toList (by simp [hd.1]) (fun j hj => ?_) (fun j hj => ?_)))
        · have hpl' : (fields.mapM (fun f => (do pure (f.offset, ← sizeOf f.type) : Sem (Nat × Nat)))).run P w = .ok l.toArray w := by
            rw [← Array.toArray_toList (xs := fields), List.mapM_toArray]
            simp only [Sem.run_map, hpl, Result.andThen_ok]
          have hplace : (fun (i : Nat) => l.toArray[i]?) = placeOf P fields.toList := by
            funext i
            rw [← hi i]; simp
          simp only [execOp, Instr.build, Sem.run_bind, hc, Result.andThen_ok, run_underlying hu, hpl']
          rw [hplace]
          have : (ps.map fun (i, x) => (i, a.eval x)).toList = ps.toList.map fun x => (x.1, a.eval x.2) := by simp
          rw [this]
          simp only [hf]
          simp
        · obtain ⟨d, g1, g2, g3⟩ := hd.2 j (out.getD j .undef) (by rw [List.getD_eq_getElem?_getD, List.getElem?_eq_getElem hj]; rfl)
          rw [List.getD_eq_getElem?_getD, Array.getElem?_toList, g1]; exact g2
        · obtain ⟨d, g1, g2, g3⟩ := hd.2 j (out.getD j .undef) (by rw [List.getD_eq_getElem?_getD, List.getElem?_eq_getElem hj]; rfl)
          rw [List.getD_eq_getElem?_getD (l := ds'.toList), Array.getElem?_toList, g1]; exact g3
      · simp at h
  · simp at h

/- slices that are built -/
theorem fill_rows (sz : Nat) : ∀ (ps : List (Nat × Operand)) (i : Nat) (ds : Array Value) (rows : List (List AVal)), rowsA sz i (ps.map fun x => (x.1, aeval T x.2)) = some rows → (i + rows.length) * sz ≤ ds.size →
    (∀ x ∈ ps, Rep w E H (aeval T x.2) (a.eval x.2)) → ∃ ds', Instr.fill (fun i => some (i * sz, sz)) ds (ps.map fun x => (x.1, a.eval x.2)) = some ds' ∧ ds'.size = ds.size ∧ (∀ j, j < i * sz → ds'[j]? = ds[j]?) ∧
      ∀ (m : Nat) (row : List AVal), rows[m]? = some row → row.length = sz ∧ ∀ j, j < sz → ∃ c, ds'[(i + m) * sz + j]? = some c ∧ c.oneCell' = true ∧ Rep w E H (row.getD j .undef) c
  | [], i, ds, rows, h, _, _ => by
    simp only [List.map_nil, rowsA, Option.some.injEq] at h
    subst h
    exact ⟨ds, rfl, rfl, fun _ _ => rfl, fun m row hm => by simp at hm⟩
  | (k, x) :: ps, i, ds, rows, h, hle, hr => by
    simp only [List.map_cons, rowsA] at h
    split at h
    · rename_i cs rs hcs hrs
      split at h
      · rename_i hcond
        obtain ⟨rfl, hsz⟩ := hcond
        simp only [Option.some.injEq] at h
        subst h
        obtain ⟨hl, h1, hrep⟩ := cellsOf_rep hcs (hr (i, x) (by simp))
        have hl' : (a.eval x).cells.size = cs.length := by simpa using hl
        have hll : (a.eval x).cells.toList.length = sz := hl.trans hsz
        simp only [List.length_cons] at hle
        have hle1 : i * sz + sz ≤ ds.size := by
          have : (i + 1) * sz ≤ (i + (rs.length + 1)) * sz := Nat.mul_le_mul_right _ (by omega)
          rw [Nat.add_mul, Nat.one_mul] at this; omega
        have ih := fill_rows sz ps (i + 1) (setArr ds (i * sz) (a.eval x).cells.toList) rs hrs (by rw [setArr_size]; rw [show i + 1 + rs.length = i + (rs.length + 1) by omega]; exact hle) (fun y hy => hr y (by simp [hy]))
        obtain ⟨ds', e1, e2, e3, e4⟩ := ih
        refine ⟨ds', ?_, by rw [e2, setArr_size], fun j hj => ?_, fun m row hm => ?_⟩
        · rw [List.map_cons, fill_step _ ds i (a.eval x) _ (i * sz) sz rfl (by omega) (by omega)]
          exact e1
        · rw [e3 j (by rw [Nat.add_mul]; omega), setArr_get _ ds _ j (by omega), if_neg (by omega)]
        · cases m with
          | zero =>
            simp only [List.getElem?_cons_zero, Option.some.injEq] at hm
            subst hm
            refine ⟨hsz, fun j hj => ?_⟩
            have hlt : j < (a.eval x).cells.toList.length := by omega
            refine ⟨(a.eval x).cells.toList[j], ?_, h1 _ (List.getElem_mem hlt), ?_⟩
            · rw [Nat.add_zero, e3 _ (by rw [Nat.add_mul]; omega), setArr_get _ ds _ _ (by omega), if_pos (by omega)]
              rw [show i * sz + j - i * sz = j by omega, List.getElem?_eq_getElem hlt]
            · have := hrep j (by omega)
              rwa [List.getD_eq_getElem?_getD (l := (a.eval x).cells.toList), List.getElem?_eq_getElem hlt] at this
          | succ m =>
            simp only [List.getElem?_cons_succ] at hm
            have := e4 m row hm
            rw [show i + 1 + m = i + (m + 1) by omega] at this
            exact this
      · simp at h
    · simp at h
theorem rows_cellAt {sz : Nat} {rows : List (List AVal)} {ds : Array Value} (hsz : 0 < sz) (h : ∀ (m : Nat) (row : List AVal), rows[m]? = some row → row.length = sz ∧ ∀ j, j < sz → ∃ c, ds[m * sz + j]? = some c ∧ c.oneCell' = true ∧ Rep w E H (row.getD j .undef) c)
    (j : Nat) (v : AVal) (hv : cellAt sz rows j = some v) : ∃ c, ds[j]? = some c ∧ c.oneCell' = true ∧ Rep w E H v c := by
  unfold cellAt at hv
  rw [Option.bind_eq_some_iff] at hv
  obtain ⟨row, h1, h2⟩ := hv
  obtain ⟨g1, g2⟩ := h _ _ h1
  obtain ⟨c, k1, k2, k3⟩ := g2 (j % sz) (Nat.mod_lt _ hsz)
  rw [List.getD_eq_getElem?_getD, h2] at k3
  refine ⟨c, ?_, k2, k3⟩
  rw [← k1]; congr 1
  rw [Nat.mul_comm]; exact (Nat.div_add_mod j sz).symm
theorem list_of_cells {n sz : Nat} {rows : List (List AVal)} {b : Nat} {ds : Array Value} {ty : TypeId} {fr : Nat × Nat} (himm : E.imm b) (hb : w.heap[b]? = some (.cells ds ty fr)) (hn : rows.length = n) {cap : Nat} (hcap : n ≤ cap) {full : Bool} (hfull : full = true → cap = n)
    (h : ∀ (m : Nat) (row : List AVal), rows[m]? = some row → row.length = sz ∧ ∀ j, j < sz → ∃ c, ds[m * sz + j]? = some c ∧ c.oneCell' = true ∧ RepP w E.imm (row.getD j .undef) c) :
    RepP w E.imm (.list full n (fun i => rows.getD i [])) (.slice (some ⟨b, 0, none⟩) n cap) := by
  have hg : ∀ i, i < n → rows[i]? = some (rows.getD i []) := fun i hi => by rw [List.getD_eq_getElem?_getD, List.getElem?_eq_getElem (by omega)]; rfl
  refine .list full n _ b 0 cap sz (fun i j => ds.getD (i * sz + j) undef) hcap hfull himm (fun i hi => (h i _ (hg i hi)).1) (fun i j hi hj => ?_) (fun i j hi hj => ?_)
  · obtain ⟨c, k1, k2, k3⟩ := (h i _ (hg i hi)).2 j hj
    rw [cell?_block hb, Nat.zero_add, k1]
    simp [k1, k2]
  · obtain ⟨c, k1, k2, k3⟩ := (h i _ (hg i hi)).2 j hj
    simpa [k1] using k3
theorem step_buildSlice (fs : FS w a E H β T B G) {t e : TypeId} {n sz : Nat} {ps : Array (Nat × Operand)} (hv : okTmps G (mkO dst (.buildSlice t n ps) type pos after guard)) (he : elemT P t = some e) (hs : sizeT P e = some sz) {rows : List (List AVal)}
    (h : rowsA sz 0 (ps.toList.map fun x => (x.1, aeval T x.2)) = some rows) (hn : rows.length = n) (hsz : sz ≠ 0) (hz : zeroOk P e sz = true) (hbig : n * sz ≤ 16777216) (hno : ps.toList.all (fun x => noTmp (aeval T x.2)) = true) :
    Sound P w a E H β T G (mkO dst (.buildSlice t n ps) type pos after guard) ⟨true, .own H.length 0 n 0 false, B, H ++ [.arr sz rows 0]⟩ ∧
    (rows.all (fun r => r.all isPure) = true → Sound P w a E H β T G (mkO dst (.buildSlice t n ps) type pos after guard) ⟨true, .list true n (fun i => rows.getD i []), B, H⟩) := by
  have hu := elemT_some he
  unfold zeroOk at hz
  split at hz
  case h_2 => simp at hz
  rename_i z hzz
  simp only [beq_iff_eq] at hz
  obtain ⟨c, hc, hl, hr⟩ := zeroT_run hzz w
  have hm : ∀ x ∈ ps.toList, x.2 ∈ (mkO dst (.buildSlice t n ps) type pos after guard).op.operands.toList := fun x hx => by
    simp only [Op.operands]
    exact List.mem_map.2 ⟨x, hx, rfl⟩
  have hrep : ∀ x ∈ ps.toList, Rep w E H (aeval T x.2) (a.eval x.2) := fun x hx => noTmp_rep (List.all_eq_true.1 hno x hx) (okTmps_rep fs hv (hm x hx))
  obtain ⟨ds, hf, hds, _, hrows⟩ := fill_rows (w := w) (E := E) (H := H) (a := a) sz ps.toList 0 (if n * sz = 0 then (Array.range (n * sz)).map (fun x => (#[] : Array Value)[x % (#[] : Array Value).size]!) else (Array.range (n * sz)).map (fun x => c.cells[x % c.cells.size]!)) rows h
    (by rw [Nat.zero_add, hn]; split <;> simp) hrep
  have hdsz : ds.size = n * sz := by rw [hds]; split <;> simp
  have hrun : (execOp a.eval (mkO dst (.buildSlice t n ps) type pos after guard)).run P w = .ok (.value (.slice (some ⟨w.heap.size, 0, none⟩) n n)) (w.alloc (.cells ds e)) := by
    have hps : (ps.map fun (i, x) => (i, a.eval x)).toList = ps.toList.map fun x => (x.1, a.eval x.2) := by simp
    simp only [execOp, Instr.buildSlice, Sem.run_bind, run_underlying hu, Result.andThen_ok, run_sizeT hs]
    rw [if_neg (by omega)]
    by_cases h0 : n * sz = 0
    · rw [if_pos h0] at hf
      simp only [h0, if_true, Sem.run_pure, Result.andThen_ok, Sem.run_bind]
      rw [h0] at hf
      rw [hps]
      simp only [hf]
      simp [newRow]
    · rw [if_neg h0] at hf
      simp only [h0, if_false, Sem.run_bind, hc, Result.andThen_ok, Sem.run_pure]
      rw [hps]
      simp only [hf]
      simp [newRow]
  simp only [Nat.zero_add] at hrows
  have hps := pushed_alloc w ds e
  constructor
  · obtain ⟨ev, fs'⟩ := fresh_obj fs hps (thawed0 _) (obj := .arr sz rows 0) (c := n) (fun cs e => by cases e) (fun sz' rows' u e => by
      cases e
      exact ⟨by omega, by omega, fun r hr => let ⟨i, hi⟩ := List.mem_iff_getElem?.1 hr; (hrows i r hi).1, by omega, rows_cellAt (by omega) hrows⟩)
    refine ⟨_, _, _, β, ⟨.inl hrun, ev, fs', .val _ _ (.own _ _ _ _ _ _ _ sz 0 (by simp [arrInfo]) (Nat.le_refl _) (fun _ => ?_)), fun _ _ h => .inl h⟩⟩
    refine ⟨Nat.le_refl _, fun h => by simp at h, fun _ _ => by simp [pushEnv], by simp [pushEnv], fun _ _ => by simp [pushEnv]⟩
  · intro hpure
    obtain ⟨ev, fs'⟩ := fresh_imm fs hps
    refine ⟨_, _, _, β, ⟨.inl hrun, ev, fs', .val _ _ (.pure _ _ (list_of_cells (sz := sz) (Or.inr rfl) hps.new hn (Nat.le_refl _) (fun _ => rfl) (fun m row hm => ?_))), fun _ _ h => .inl h⟩⟩
    obtain ⟨g1, g2⟩ := hrows m row hm
    refine ⟨g1, fun j hj => ?_⟩
    obtain ⟨c, k1, k2, k3⟩ := g2 j hj
    refine ⟨c, k1, k2, ?_⟩
    have hp : isPure (row.getD j .undef) = true := by
      have := List.all_eq_true.1 (List.all_eq_true.1 hpure row (List.mem_of_getElem? hm)) (row.getD j .undef)
      exact this (by rw [List.getD_eq_getElem?_getD, List.getElem?_eq_getElem (by omega)]; exact List.getElem_mem _)
    exact (isPure_rep hp k3).mono ev.sees.imm
theorem step_makeSlice (fs : FS w a E H β T B G) {t : TypeId} {l c : Operand} (hv : okTmps G (mkO dst (.makeSlice t l c) type pos after guard)) {ok : Bool} {v : AVal} {Hn : Heap} (h : makeA P H t (aeval T l) (aeval T c) = some (ok, v, Hn)) (hok : ok = true) :
    Sound P w a E H β T G (mkO dst (.makeSlice t l c) type pos after guard) ⟨true, v, B, Hn⟩ := by
  unfold makeA at h
  split at h
  · simp at h
  rename_i e he
  have hu := elemT_some he
  split at h
  case h_2 => simp at h
  rename_i sz by_ z kl nl kc nc hs hb hz hl hc
  split at h
  · simp at h
  rename_i hcond
  simp only [not_or, Decidable.not_not] at hcond
  obtain ⟨hsz, hzl⟩ := hcond
  simp only [Option.some.injEq, Prod.mk.injEq] at h
  obtain ⟨rfl, rfl, rfl⟩ := h
  simp only [Bool.and_eq_true, decide_eq_true_eq] at hok
  obtain ⟨⟨⟨h0, hlc⟩, hby⟩, h63⟩ := hok
  have el : a.eval l = .int kl nl := by
    have := okTmps_rep fs hv (x := l) (by simp [Op.operands])
    rw [hl] at this; exact repT_int this
  have ec : a.eval c = .int kc nc := by
    have := okTmps_rep fs hv (x := c) (by simp [Op.operands])
    rw [hc] at this; exact repT_int this
  unfold sizeT at hs
  unfold bytesT at hb
  unfold zeroT at hz
  rw [Option.map_eq_some_iff] at hs hb
  obtain ⟨i, hi, rfl⟩ := hs
  obtain ⟨i', hi', rfl⟩ := hb
  rw [hi] at hi' hz
  cases hi'
  simp only at hz
  split at hz
  case h_2 => simp at hz
  rename_i zv hzv
  split at hz
  case isFalse => simp at hz
  rename_i hall
  simp only [Option.some.injEq] at hz
  subst hz
  simp only [List.length_map, Array.length_toList] at hzl
  have hrun : (execOp a.eval (mkO dst (.makeSlice t l c) type pos after guard)).run P w = .ok (.value (.slice (some ⟨w.heap.size, 0, none⟩) nl.toNat nc.toNat)) (w.alloc (.cells (madeCells zv.cells (nc.toNat * i.size)) e)) := by
    have := run_make (P := P) w t e i zv hu hi hzv kl kc nl nc h0 hlc hby h63
    simp only [execOp, el, ec, Sem.run_bind, Sem.run_map, this, Result.andThen_ok, Sem.run_pure]
  have hps := pushed_alloc w (madeCells zv.cells (nc.toNat * i.size)) e
  have hrows : ∀ (m : Nat) (row : List AVal), (List.replicate nl.toNat (zv.cells.toList.map ofCell))[m]? = some row → row.length = i.size ∧ ∀ j, j < i.size → ∃ d, (madeCells zv.cells (nc.toNat * i.size))[m * i.size + j]? = some d ∧ d.oneCell' = true ∧ Rep w E H (row.getD j .undef) d := by
    intro m row hm
    rw [List.getElem?_replicate] at hm
    split at hm
    case isFalse => simp at hm
    rename_i hml
    simp only [Option.some.injEq] at hm
    subst hm
    refine ⟨by simpa using hzl, fun j hj => ?_⟩
    have hlt : m * i.size + j < nc.toNat * i.size := by
      have h1 : (m + 1) * i.size ≤ nc.toNat * i.size := Nat.mul_le_mul_right _ (by omega)
      rw [Nat.add_mul] at h1
      omega
    have hjz : j < zv.cells.size := by omega
    refine ⟨zv.cells[j], ?_, List.all_eq_true.1 hall _ (Array.mem_toList_iff.2 (Array.getElem_mem hjz)), ?_⟩
    · unfold madeCells
      rw [Array.getElem?_map, Array.getElem?_range, if_pos hlt]
      simp only [Option.map_some]
      have em : (m * i.size + j) % zv.cells.size = j := by rw [hzl, Nat.mul_comm, Nat.mul_add_mod, Nat.mod_eq_of_lt hj]
      have eg : zv.cells[(m * i.size + j) % zv.cells.size]! = zv.cells[j] := by
        rw [em]; simp [hjz]
      exact congrArg some eg
    · rw [List.getD_eq_getElem?_getD, List.getElem?_map]
      simp [hjz]
      exact .pure _ _ (ofCell_rep _)
  obtain ⟨ev, fs'⟩ := fresh_obj fs hps (thawed0 _) (obj := .arr i.size (List.replicate nl.toNat (zv.cells.toList.map ofCell)) 0) (c := nc.toNat) (fun cs e => by cases e) (fun sz' rows' u e => by
    cases e
    exact ⟨by omega, by simp; omega, fun r hr => let ⟨m, hm⟩ := List.mem_iff_getElem?.1 hr; (hrows m r hm).1, by rw [size_madeCells]; exact Nat.le_refl _, rows_cellAt (by omega) hrows⟩)
  refine ⟨_, _, _, β, ⟨.inl hrun, ev, fs', .val _ _ (.own _ _ _ _ _ _ _ i.size 0 (by simp [arrInfo]) (Nat.le_refl _) (fun _ => ?_)), fun _ _ h => .inl h⟩⟩
  refine ⟨by omega, fun h => by simp at h, fun _ _ => by simp [pushEnv], by simp [pushEnv]; omega, fun _ _ => by simp [pushEnv]⟩
end Go.Mu
/-
  Mu: arrays that grow: in their place, or in a new block.
-/
namespace Go.Mu
open Go
variable {P : Program} {fh : FH} {w w' : World} {a : Act} {E E' : Env} {H H' : Heap} {β : Nat → Option Nat} {T : List AVal} {B : Boxes} {G : Tags}

theorem isVar_setArr {k sz u : Nat} {old new : List (List AVal)} {u' : Nat} (hk : H[k]? = some (.arr sz old u)) (l : Nat) : isVar (H.set k (.arr sz new u')) l = isVar H l := by
  have hlt := get_lt hk
  by_cases e : l = k
  · subst e; simp [isVar, List.getElem?_set_self hlt, hk]
  · simp [isVar, List.getElem?_set_ne (Ne.symm e)]
theorem arrInfo_setArr {k sz u : Nat} {old new : List (List AVal)} {u' : Nat} (hk : H[k]? = some (.arr sz old u)) (l : Nat) : arrInfo (H.set k (.arr sz new u')) l = if l = k then some (sz, u') else arrInfo H l := by
  have hlt := get_lt hk
  by_cases e : l = k
  · subst e; simp [arrInfo, List.getElem?_set_self hlt]
  · simp [arrInfo, List.getElem?_set_ne (Ne.symm e), e]

theorem live_setArr {k sz u : Nat} {old new : List (List AVal)} {u' : Nat} (hk : H[k]? = some (.arr sz old u)) {E' : Env} (hc : ∀ l, l ≠ k → E'.cap l = E.cap l) {l : Nat} (hl : live E' (H.set k (.arr sz new u')) l) : l ≠ k → live E H l := by
  intro e
  simp only [live, isVar_setArr hk, arrInfo_setArr hk, if_neg e, hc l e] at hl
  exact hl

/-- an array that goes on in its own place -/
theorem bump_own (fs : FS w a E H β T B G) {k sz u : Nat} {rows rows' : List (List AVal)} (hk : H[k]? = some (.arr sz rows u)) {off : Nat} {vs : List Value} (hcap : E.cap k ≠ 0)
    (hrl : rows'.length ≤ E.cap k) (hlen : ∀ r ∈ rows', r.length = sz) (hle : off + vs.length ≤ E.cap k * sz) (h1 : ∀ x ∈ vs, x.oneCell' = true)
    (hin : ∀ (j : Nat) (v : AVal), off ≤ j → j < off + vs.length → cellAt sz rows' j = some v → Rep w E H v (vs.getD (j - off) undef))
    (hout : ∀ (j : Nat) (v : AVal), ¬(off ≤ j ∧ j < off + vs.length) → cellAt sz rows' j = some v → cellAt sz rows j = some v) :
    Evo (Xβ β) w E H (w.setCells (E.φ k) off vs) E (H.set k (.arr sz rows' (u + 1))) ∧ FS (w.setCells (E.φ k) off vs) a E (H.set k (.arr sz rows' (u + 1))) β T B G := by
  have hlv : live E H k := .inr ⟨⟨sz, u, arr_of_get hk⟩, hcap⟩
  obtain ⟨ap1, ap2⟩ := fs.sim.apart k hlv
  obtain ⟨r1, r2, r3⟩ := setCells_rest (E.φ k) vs off w
  have hi := fun l => isVar_setArr (new := rows') (u' := u + 1) hk l
  have ha := fun l => arrInfo_setArr (new := rows') (u' := u + 1) hk l
  have hlive : ∀ l, live E (H.set k (.arr sz rows' (u + 1))) l → live E H l := fun l hl => by
    by_cases e : l = k
    · subst e; exact hlv
    · exact live_setArr hk (fun _ _ => rfl) hl e
  have hne : ∀ x, E.imm x → x ≠ E.φ k := fun x hx e => ap1 (e ▸ hx)
  have ev : Evo (Xβ β) w E H (w.setCells (E.φ k) off vs) E (H.set k (.arr sz rows' (u + 1))) := by
    refine ⟨Nat.le_of_eq (setCells_size _ vs off w).symm, fun x hx hn hk' => setCells_other _ x (fun e => hk' k hlv e.symm) vs off w, fun x hx => ⟨hx, setCells_other _ x (hne x hx) vs off w⟩, fun x hx => .inl hx,
      fun l hl => ⟨by rw [hi]; exact hl, rfl⟩, fun l sz' u' hl => ?_, fun l hl => .inr ⟨hlive l hl, rfl⟩, by simp, r1, r2, r3⟩
    by_cases e : l = k
    · subst e
      rw [arr_of_get hk] at hl
      simp only [Option.some.injEq, Prod.mk.injEq] at hl
      obtain ⟨rfl, rfl⟩ := hl
      exact ⟨u + 1, by rw [ha, if_pos rfl], by omega, fun h => by omega⟩
    · exact ⟨u', by rw [ha, if_neg e]; exact hl, Nat.le_refl _, fun _ => ⟨rfl, fun _ => rfl⟩⟩
  have hs := ev.sees
  have kb := (fs.sim.arr k sz rows u hk).2.2.2 hcap
  have hother : ∀ l, live E H l → l ≠ k → (w.setCells (E.φ k) off vs).heap[E.φ l]? = w.heap[E.φ l]? := fun l hl e => setCells_other _ _ (fun e' => e (fs.sim.inj l k hl hlv e')) vs off w
  refine ⟨ev, fs.keep ⟨fun b hb => by rw [setCells_size]; exact fs.sim.immLt b hb, fun l cs hc => ?_, fun l sz' rw' u' hc => ?_, fun l hl => by rw [setCells_size]; exact fs.sim.apart l (hlive l hl), fun x y hx hy => fs.sim.inj x y (hlive x hx) (hlive y hy), fun j t n hj hl => (fs.sim.note j t n (get_set_note (fun t n e => by cases e) hj) (hlive _ hl)).setCells, fs.sim.glob.mono hs.imm⟩
    hs (Nat.le_of_eq (setCells_size _ vs off w).symm) (fun t b hb => (fs.box t b hb).1) (fun t b hb l hl => (fs.box t b hb).2.2.1 l (hlive l hl)) (fun t b hb => setCells_other _ _ (fun e => (fs.box t b hb).2.2.1 k hlv e.symm) vs off w)⟩
  · by_cases e : l = k
    · subst e; rw [List.getElem?_set_self (get_lt hk)] at hc; simp at hc
    · rw [List.getElem?_set_ne (Ne.symm e)] at hc
      exact (fs.sim.var l cs hc).mono hs (hother l (.inl (var_of_get hc)) e)
  · by_cases e : l = k
    · subst e
      rw [List.getElem?_set_self (get_lt hk)] at hc
      simp only [Option.some.injEq, Obj.arr.injEq] at hc
      obtain ⟨rfl, rfl, rfl⟩ := hc
      exact ⟨(fs.sim.arr l sz rows u hk).1, hrl, hlen, fun _ => kb.write hle h1 hs hin hout⟩
    · rw [List.getElem?_set_ne (Ne.symm e)] at hc
      obtain ⟨g1, g2, g3, g4⟩ := fs.sim.arr l sz' rw' u' hc
      exact ⟨g1, g2, g3, fun hcap' => (g4 hcap').mono hs (hother l (.inr ⟨⟨sz', u', arr_of_get hc⟩, hcap'⟩) e)⟩

/-- an array that goes on in a new block, or is but counted on (no block at all: c = 0) -/
theorem move_own (fs : FS w a E H β T B G) {k sz u : Nat} {rows rows' : List (List AVal)} (hk : H[k]? = some (.arr sz rows u)) {ds ty fr} (hp : Pushed w w' ds ty fr) (hth : thawed fr ds.size) {c : Nat}
    (hrl : rows'.length ≤ c) (hlen : ∀ r ∈ rows', r.length = sz) (hle : c * sz ≤ ds.size) (hcell : ∀ (j : Nat) (v : AVal), cellAt sz rows' j = some v → ∃ c, ds[j]? = some c ∧ c.oneCell' = true ∧ Rep w E H v c)
    (hnt : noteOk H k ty = true) :
    Evo (Xβ β) w E H w' (pushEnv E k w.heap.size c) (H.set k (.arr sz rows' (u + 1))) ∧ FS w' a (pushEnv E k w.heap.size c) (H.set k (.arr sz rows' (u + 1))) β T B G := by
  have hi := fun l => isVar_setArr (new := rows') (u' := u + 1) hk l
  have ha := fun l => arrInfo_setArr (new := rows') (u' := u + 1) hk l
  have φe : ∀ l, l ≠ k → (pushEnv E k w.heap.size c).φ l = E.φ l := fun l hl => by simp only [pushEnv]; rw [upd_other _ _ hl]
  have ce : ∀ l, l ≠ k → (pushEnv E k w.heap.size c).cap l = E.cap l := fun l hl => by simp only [pushEnv]; rw [upd_other _ _ hl]
  have φk : (pushEnv E k w.heap.size c).φ k = w.heap.size := by simp [pushEnv]
  have ck : (pushEnv E k w.heap.size c).cap k = c := by simp [pushEnv]
  have hlive : ∀ l, live (pushEnv E k w.heap.size c) (H.set k (.arr sz rows' (u + 1))) l → l ≠ k → live E H l := fun l hl e => live_setArr hk ce hl e
  have hnv : isVar H k = false := by simp [isVar, hk]
  have ev : Evo (Xβ β) w E H w' (pushEnv E k w.heap.size c) (H.set k (.arr sz rows' (u + 1))) := by
    refine ⟨by rw [hp.size]; omega, fun b hb _ _ => hp.old hb, fun b hb => ⟨hb, hp.old (fs.sim.immLt b hb)⟩, fun b hb => .inl hb, fun l hl => ⟨by rw [hi]; exact hl, φe l (fun e => by rw [e, hnv] at hl; cases hl)⟩, fun l sz' u' hl => ?_,
      fun l hl => ?_, by simp, hp.tape, hp.os, hp.output⟩
    · by_cases e : l = k
      · subst e
        rw [arr_of_get hk] at hl
        simp only [Option.some.injEq, Prod.mk.injEq] at hl
        obtain ⟨rfl, rfl⟩ := hl
        exact ⟨u + 1, by rw [ha, if_pos rfl], by omega, fun h => by omega⟩
      · exact ⟨u', by rw [ha, if_neg e]; exact hl, Nat.le_refl _, fun _ => ⟨ce l e, fun _ => φe l e⟩⟩
    · by_cases e : l = k
      · subst e; exact .inl (by rw [φk]; exact Nat.le_refl _)
      · exact .inr ⟨hlive l hl e, φe l e⟩
  have hs := ev.sees
  refine ⟨ev, fs.keep ⟨fun b hb => by rw [hp.size]; have := fs.sim.immLt b hb; omega, fun l cs hc => ?_, fun l sz' rw' u' hc => ?_, fun l hl => ?_, fun x y hx hy he => ?_, fun j t n hj hl => ?_, fs.sim.glob.mono hs.imm⟩
    hs (by rw [hp.size]; omega) (fun t b hb => (fs.box t b hb).1) (fun t b hb l hl => ?_) (fun t b hb => hp.old (fs.box t b hb).2.1)⟩
  · by_cases e : l = k
    · subst e; rw [List.getElem?_set_self (get_lt hk)] at hc; simp at hc
    · rw [List.getElem?_set_ne (Ne.symm e)] at hc
      rw [φe l e]
      exact (fs.sim.var l cs hc).mono hs (hp.old (fs.sim.apart l (.inl (var_of_get hc))).2)
  · by_cases e : l = k
    · subst e
      rw [List.getElem?_set_self (get_lt hk)] at hc
      simp only [Option.some.injEq, Obj.arr.injEq] at hc
      obtain ⟨rfl, rfl, rfl⟩ := hc
      rw [φk, ck]
      refine ⟨(fs.sim.arr l sz rows u hk).1, hrl, hlen, fun _ => ⟨ds, ty, fr, hp.new, hle, fun o ho => hth o (by omega), fun j v hv => ?_⟩⟩
      obtain ⟨c, g1, g2, g3⟩ := hcell j v hv
      exact ⟨c, g1, g2, g3.mono hs⟩
    · rw [List.getElem?_set_ne (Ne.symm e)] at hc
      rw [φe l e, ce l e]
      obtain ⟨g1, g2, g3, g4⟩ := fs.sim.arr l sz' rw' u' hc
      exact ⟨g1, g2, g3, fun hcap' => (g4 hcap').mono hs (hp.old (fs.sim.apart l (.inr ⟨⟨sz', u', arr_of_get hc⟩, hcap'⟩)).2)⟩
  · by_cases e : l = k
    · subst e; rw [φk, hp.size]
      exact ⟨fun h => Nat.lt_irrefl _ (fs.sim.immLt _ h), by omega⟩
    · rw [φe l e, hp.size]
      have := fs.sim.apart l (hlive l hl e)
      exact ⟨this.1, by omega⟩
  rotate_left 1
  · have hj' := get_set_note (fun t n e => by cases e) hj
    by_cases e : j - 1 = k
    · rw [e, φk]
      have hj0 : j = k + 1 := by
        rcases Nat.eq_zero_or_pos j with h0 | h0
        · subst h0
          obtain rfl : 0 = k := e
          rw [hk] at hj'; cases hj'
        · omega
      subst hj0
      unfold noteOk at hnt
      rw [hj'] at hnt
      simp only [Bool.and_eq_true, beq_iff_eq] at hnt
      obtain ⟨rfl, rfl⟩ := hnt
      exact ⟨ds, fr, hp.new, fun h => absurd rfl h⟩
    · rw [φe _ e]
      have h1 := hlive _ hl e
      exact (fs.sim.note j t n hj' h1).same (hp.old (fs.sim.apart _ h1).2)
  rotate_left 1
  · by_cases e1 : x = k <;> by_cases e2 : y = k
    · rw [e1, e2]
    · subst e1; rw [φk, φe y e2] at he
      have := (fs.sim.apart y (hlive y hy e2)).2; omega
    · subst e2; rw [φk, φe x e1] at he
      have := (fs.sim.apart x (hlive x hx e1)).2; omega
    · rw [φe x e1, φe y e2] at he
      exact fs.sim.inj x y (hlive x hx e1) (hlive y hy e2) he
  · by_cases e : l = k
    · subst e; rw [φk]; have := (fs.box t b hb).2.1; omega
    · rw [φe l e]; exact (fs.box t b hb).2.2.1 l (hlive l hl e)
/-- an array without a block, counted on -/
theorem bump_virtual (fs : FS w a E H β T B G) {k sz u : Nat} (hk : H[k]? = some (.arr sz [] u)) (hcap : E.cap k = 0) :
    Evo (Xβ β) w E H w E (H.set k (.arr sz [] (u + 1))) ∧ FS w a E (H.set k (.arr sz [] (u + 1))) β T B G := by
  have hi := fun l => isVar_setArr (new := []) (u' := u + 1) hk l
  have ha := fun l => arrInfo_setArr (new := []) (u' := u + 1) hk l
  have hlive : ∀ l, live E (H.set k (.arr sz [] (u + 1))) l → live E H l := fun l hl => by
    by_cases e : l = k
    · subst e
      rcases hl with hl | ⟨_, hl⟩
      · rw [hi] at hl; exact .inl hl
      · exact absurd hcap hl
    · exact live_setArr hk (fun _ _ => rfl) hl e
  have ev : Evo (Xβ β) w E H w E (H.set k (.arr sz [] (u + 1))) := by
    refine ⟨Nat.le_refl _, fun _ _ _ _ => rfl, fun b hb => ⟨hb, rfl⟩, fun b hb => .inl hb, fun l hl => ⟨by rw [hi]; exact hl, rfl⟩, fun l sz' u' hl => ?_, fun l hl => .inr ⟨hlive l hl, rfl⟩, by simp, rfl, rfl, rfl⟩
    by_cases e : l = k
    · subst e
      rw [arr_of_get hk] at hl
      simp only [Option.some.injEq, Prod.mk.injEq] at hl
      obtain ⟨rfl, rfl⟩ := hl
      exact ⟨u + 1, by rw [ha, if_pos rfl], by omega, fun h => by omega⟩
    · exact ⟨u', by rw [ha, if_neg e]; exact hl, Nat.le_refl _, fun _ => ⟨rfl, fun _ => rfl⟩⟩
  have hs := ev.sees
  refine ⟨ev, fs.keep ⟨fs.sim.immLt, fun l cs hc => ?_, fun l sz' rw' u' hc => ?_, fun l hl => fs.sim.apart l (hlive l hl), fun x y hx hy => fs.sim.inj x y (hlive x hx) (hlive y hy), fun j t n hj hl => fs.sim.note j t n (get_set_note (fun t n e => by cases e) hj) (hlive _ hl), fs.sim.glob.mono hs.imm⟩
    hs (Nat.le_refl _) (fun t b hb => (fs.box t b hb).1) (fun t b hb l hl => (fs.box t b hb).2.2.1 l (hlive l hl)) (fun t b hb => rfl)⟩
  · by_cases e : l = k
    · subst e; rw [List.getElem?_set_self (get_lt hk)] at hc; simp at hc
    · rw [List.getElem?_set_ne (Ne.symm e)] at hc
      exact (fs.sim.var l cs hc).mono hs rfl
  · by_cases e : l = k
    · subst e
      rw [List.getElem?_set_self (get_lt hk)] at hc
      simp only [Option.some.injEq, Obj.arr.injEq] at hc
      obtain ⟨rfl, rfl, rfl⟩ := hc
      exact ⟨(fs.sim.arr l sz [] u hk).1, Nat.zero_le _, fun r hr => by simp at hr, fun h => absurd hcap h⟩
    · rw [List.getElem?_set_ne (Ne.symm e)] at hc
      obtain ⟨g1, g2, g3, g4⟩ := fs.sim.arr l sz' rw' u' hc
      exact ⟨g1, g2, g3, fun hcap' => (g4 hcap').mono hs rfl⟩
end Go.Mu
/-
  Mu: the operations, one by one (what is appended).
-/
namespace Go.Mu
open Go
variable {P : Program} {fh : FH} {w w' : World} {a : Act} {E E' : Env} {H H' : Heap} {β : Nat → Option Nat} {T : List AVal} {B : Boxes} {G : Tags}
  {dst : Option Nat} {type : TypeId} {pos : String} {after : Array Edge} {guard : Option (Nat × Bool)} {r : SR}

/-- rows, one behind another, as cells -/
structure RowsRep (w : World) (E : Env) (H : Heap) (sz : Nat) (rows : List (List AVal)) (cs : List Value) : Prop where
  len : cs.length = rows.length * sz
  rlen : ∀ r ∈ rows, r.length = sz
  one : ∀ u ∈ cs, u.oneCell' = true
  cell : ∀ (m : Nat) (row : List AVal), rows[m]? = some row → ∀ j, j < sz → ∃ c, cs[m * sz + j]? = some c ∧ Rep w E H (row.getD j .undef) c

theorem mul_lt {m n j sz : Nat} (h : m < n) (hj : j < sz) : m * sz + j < n * sz := by
  have : (m + 1) * sz ≤ n * sz := Nat.mul_le_mul_right _ h
  rw [Nat.add_mul, Nat.one_mul] at this; omega
theorem RowsRep.nil {sz : Nat} : RowsRep w E H sz [] [] := ⟨by simp, fun r hr => by simp at hr, fun u hu => by simp at hu, fun m row hm => by simp at hm⟩
theorem RowsRep.append {sz : Nat} {r1 r2 : List (List AVal)} {c1 c2 : List Value} (h1 : RowsRep w E H sz r1 c1) (h2 : RowsRep w E H sz r2 c2) : RowsRep w E H sz (r1 ++ r2) (c1 ++ c2) := by
  refine ⟨by simp [h1.len, h2.len, Nat.add_mul], fun r hr => ?_, fun u hu => ?_, fun m row hm j hj => ?_⟩
  · rcases List.mem_append.1 hr with h | h
    · exact h1.rlen r h
    · exact h2.rlen r h
  · rcases List.mem_append.1 hu with h | h
    · exact h1.one u h
    · exact h2.one u h
  · rcases Nat.lt_or_ge m r1.length with g | g
    · rw [List.getElem?_append_left g] at hm
      obtain ⟨c, k1, k2⟩ := h1.cell m row hm j hj
      refine ⟨c, ?_, k2⟩
      rw [List.getElem?_append_left (by rw [h1.len]; exact mul_lt g hj)]; exact k1
    · rw [List.getElem?_append_right g] at hm
      obtain ⟨c, k1, k2⟩ := h2.cell (m - r1.length) row hm j hj
      refine ⟨c, ?_, k2⟩
      have e : m * sz = r1.length * sz + (m - r1.length) * sz := by rw [← Nat.add_mul]; congr 1; omega
      rw [List.getElem?_append_right (by rw [h1.len]; omega), h1.len, ← k1]
      congr 1; omega
theorem RowsRep.mono {sz : Nat} {rows : List (List AVal)} {cs : List Value} (hs : Sees w E H w' E' H') (h : RowsRep w E H sz rows cs) : RowsRep w' E' H' sz rows cs :=
  ⟨h.len, h.rlen, h.one, fun m row hm j hj => let ⟨c, k1, k2⟩ := h.cell m row hm j hj; ⟨c, k1, k2.mono hs⟩⟩
theorem RowsRep.cellAt {sz : Nat} {rows : List (List AVal)} {cs : List Value} (hsz : 0 < sz) (h : RowsRep w E H sz rows cs) (j : Nat) (v : AVal) (hv : cellAt sz rows j = some v) : ∃ c, cs[j]? = some c ∧ c.oneCell' = true ∧ Rep w E H v c := by
  have := rows_cellAt (w := w) (E := E) (H := H) (sz := sz) (rows := rows) (ds := cs.toArray) hsz (fun m row hm => ⟨h.rlen row (List.mem_of_getElem? hm), fun j hj => by
    obtain ⟨c, k1, k2⟩ := h.cell m row hm j hj
    exact ⟨c, by simpa using k1, h.one c (List.mem_of_getElem? k1), k2⟩⟩) j v hv
  simpa using this
theorem getD_some {α : Type} {l : List α} {j : Nat} (d : α) (h : j < l.length) : l[j]? = some (l.getD j d) := by
  rw [List.getD_eq_getElem?_getD, List.getElem?_eq_getElem h]; rfl

/-- what lies behind a slice -/
theorem slice_rows (fs : FS w a E H β T B G) {sz : Nat} {x : AVal} {c : Value} {ys : List (List AVal)} (hx : (∃ full n row, x = .list full n row) ∨ (∃ k off len ver clip, x = .own k off len ver clip)) (h : rowsOf sz H x = some (true, ys)) (hr : RepT w E H β x c) :
    ∃ ao cap cs, c = .slice ao ys.length cap ∧ RowsRep w E H sz ys cs ∧ (ys = [] ∨ ∃ ad, ao = some ad ∧ ∀ j u, cs[j]? = some u → w.cell? (ad.add j) = some u) := by
  rcases hx with ⟨full, n, row, rfl⟩ | ⟨k, off, len, ver, clip, rfl⟩
  · simp only [rowsOf, Option.some.injEq, Prod.mk.injEq] at h
    obtain ⟨h1, rfl⟩ := h
    obtain ⟨ao, cap, rfl, hle, _, hc⟩ := rep_list (noTmp_of hr (by simp))
    by_cases hn : n = 0
    · subst hn
      exact ⟨ao, cap, [], by simp, RowsRep.nil, .inl (by simp)⟩
    · obtain ⟨blk, o, sz', cs, rfl, himm, hl, hcell, hrep⟩ := hc hn
      have hz : sz' = sz := by
        rw [← hl 0 (by omega)]
        simp only [Bool.or_eq_true, decide_eq_true_eq, beq_iff_eq] at h1
        rcases h1 with h1 | h1
        · exact h1
        · exact absurd h1 hn
      subst hz
      have key : ∀ q, q < n * sz' → 0 < sz' ∧ q / sz' < n ∧ q % sz' < sz' := fun q hq => by
        have h0 : 0 < sz' := by
          rcases Nat.eq_zero_or_pos sz' with e | e
          · rw [e] at hq; simp at hq
          · exact e
        exact ⟨h0, Nat.div_lt_of_lt_mul (by rw [Nat.mul_comm]; exact hq), Nat.mod_lt _ h0⟩
      refine ⟨_, cap, (List.range (n * sz')).map fun q => cs (q / sz') (q % sz'), by simp, ⟨by simp, ?_, ?_, ?_⟩, .inr ⟨⟨blk, o, none⟩, rfl, ?_⟩⟩
      · intro r hr
        simp only [List.mem_map, List.mem_range] at hr
        obtain ⟨i, hi, rfl⟩ := hr
        exact hl i hi
      · intro u hu
        simp only [List.mem_map, List.mem_range] at hu
        obtain ⟨q, hq, rfl⟩ := hu
        obtain ⟨h0, g1, g2⟩ := key q hq
        exact (hcell _ _ g1 g2).2
      · intro m r hm j hj
        have hmn : m < n := by
          rcases Nat.lt_or_ge m n with g | g
          · exact g
          · rw [List.getElem?_eq_none (by simpa using g)] at hm; simp at hm
        have h0 : 0 < sz' := by omega
        simp only [List.getElem?_map, List.getElem?_range hmn, Option.map_some, Option.some.injEq] at hm
        subst hm
        refine ⟨cs m j, ?_, .pure _ _ (hrep m j hmn hj)⟩
        rw [List.getElem?_map, List.getElem?_range (mul_lt hmn hj), Option.map_some]
        rw [show (m * sz' + j) / sz' = m by rw [Nat.mul_comm, Nat.mul_add_div h0, Nat.div_eq_of_lt hj, Nat.add_zero], show (m * sz' + j) % sz' = j by rw [Nat.mul_comm, Nat.mul_add_mod, Nat.mod_eq_of_lt hj]]
      · intro q u hu
        have hq : q < n * sz' := by
          rcases Nat.lt_or_ge q (n * sz') with g | g
          · exact g
          · rw [List.getElem?_eq_none (by simpa using g)] at hu; simp at hu
        simp only [List.getElem?_map, List.getElem?_range hq, Option.map_some, Option.some.injEq] at hu
        obtain ⟨h0, g1, g2⟩ := key q hq
        rw [addr_add, ← hu, ← (hcell _ _ g1 g2).1]
        congr 2
        rw [Nat.add_assoc, Nat.mul_comm, Nat.div_add_mod]
  · simp only [rowsOf] at h
    split at h
    · rename_i sz' rows v hk
      simp only [Option.some.injEq, Prod.mk.injEq, Bool.and_eq_true, beq_iff_eq, decide_eq_true_eq] at h
      obtain ⟨⟨⟨rfl, rfl⟩, hle⟩, rfl⟩ := h
      obtain ⟨ao, cap, sz2, u, rfl, g1, g2, g3⟩ := rep_own (noTmp_of hr (by simp))
      rw [arr_of_get hk] at g1
      simp only [Option.some.injEq, Prod.mk.injEq] at g1
      obtain ⟨rfl, rfl⟩ := g1
      obtain ⟨s1, s2, s3, s4, s5⟩ := g3 rfl
      obtain ⟨k1, k2, k3, k4⟩ := fs.sim.arr k sz' rows v hk
      have hlen : ((rows.drop off).take len).length = len := by simp; omega
      by_cases h0 : len = 0
      · subst h0
        exact ⟨ao, cap, [], by simp, by simpa using RowsRep.nil, .inl (by simp)⟩
      · have hcap : E.cap k ≠ 0 := by omega
        obtain ⟨ds, ty, fr, b1, b2, b3, b4⟩ := k4 hcap
        have hcm : (off + len) * sz' ≤ E.cap k * sz' := Nat.mul_le_mul_right _ s4
        rw [Nat.add_mul] at hcm
        have cellq : ∀ m j, m < len → j < sz' → ∃ r c, rows[off + m]? = some r ∧ r.length = sz' ∧ ds[off * sz' + (m * sz' + j)]? = some c ∧ c.oneCell' = true ∧ Rep w E H (r.getD j .undef) c := fun m j hm hj => by
          have hlt : off + m < rows.length := by omega
          have hrl := k3 _ (List.getElem_mem hlt)
          obtain ⟨c, c1, c2, c3⟩ := b4 ((off + m) * sz' + j) (rows[off + m].getD j .undef) (by
            show cellAt sz' rows ((off + m) * sz' + j) = _
            unfold Mu.cellAt
            rw [show ((off + m) * sz' + j) / sz' = off + m by rw [Nat.mul_comm, Nat.mul_add_div k1, Nat.div_eq_of_lt hj, Nat.add_zero], show ((off + m) * sz' + j) % sz' = j by rw [Nat.mul_comm, Nat.mul_add_mod, Nat.mod_eq_of_lt hj],
              List.getElem?_eq_getElem hlt]
            exact getD_some _ (by omega))
          exact ⟨_, c, List.getElem?_eq_getElem hlt, hrl, by rw [← c1]; congr 1; rw [Nat.add_mul]; omega, c2, c3⟩
        refine ⟨_, cap, (List.range (len * sz')).map fun q => ds.getD (off * sz' + q) undef, by rw [hlen], ⟨by rw [hlen]; simp, ?_, ?_, ?_⟩, .inr ⟨_, s5 hcap (.inl h0), ?_⟩⟩
        · intro r hr
          exact k3 r (List.mem_of_mem_drop (List.mem_of_mem_take hr))
        · intro u hu
          simp only [List.mem_map, List.mem_range] at hu
          obtain ⟨q, hq, rfl⟩ := hu
          obtain ⟨r, c, e1, e2, e3, e4, e5⟩ := cellq (q / sz') (q % sz') (Nat.div_lt_of_lt_mul (by rw [Nat.mul_comm]; exact hq)) (Nat.mod_lt _ k1)
          rw [show q / sz' * sz' + q % sz' = q by rw [Nat.mul_comm, Nat.div_add_mod]] at e3
          simp [e3, e4]
        · intro m r hm j hj
          have hml : m < len := by
            have := (List.getElem?_eq_some_iff.1 hm).1
            omega
          rw [List.getElem?_take_of_lt hml, List.getElem?_drop] at hm
          obtain ⟨r', c, e1, e2, e3, e4, e5⟩ := cellq m j hml hj
          rw [hm] at e1
          cases Option.some.inj e1
          refine ⟨c, ?_, e5⟩
          rw [List.getElem?_map, List.getElem?_range (mul_lt hml hj), Option.map_some]
          simp [e3]
        · intro q u hu
          have hq : q < len * sz' := by
            rcases Nat.lt_or_ge q (len * sz') with g | g
            · exact g
            · rw [List.getElem?_eq_none (by simpa using g)] at hu; simp at hu
          simp only [List.getElem?_map, List.getElem?_range hq, Option.map_some, Option.some.injEq] at hu
          rw [addr_add, cell?_block b1, ← hu]
          have : off * sz' + q < ds.size := by omega
          simp [this]
    · simp at h

/-- what is appended -/
theorem rows_src (fs : FS w a E H β T B G) {sz : Nat} {tx : TypeId} {x : AVal} {c : Value} {ys : List (List AVal)} (hs : srcOk (P.underlying tx) x = true) (h : rowsOf sz H x = some (true, ys)) (hr : RepT w E H β x c) :
    ∃ news, Src P sz tx c ys.length news w ∧ RowsRep w E H sz ys news := by
  have hsl : ∀ e, P.underlying tx = some (.slice e) → ((∃ full n row, x = .list full n row) ∨ (∃ k off len ver clip, x = .own k off len ver clip)) → ∃ news, Src P sz tx c ys.length news w ∧ RowsRep w E H sz ys news := by
    intro e he hx
    obtain ⟨ao, cap, cs, rfl, hrr, hcell⟩ := slice_rows fs hx h hr
    refine ⟨cs, ?_, hrr⟩
    cases ao with
    | some ad =>
      rcases hcell with rfl | ⟨ad', e', hc⟩
      · have : cs = [] := List.eq_nil_of_length_eq_zero (by rw [hrr.len]; simp)
        subst this
        exact Src.ofSlice w he ad 0 cap [] (by simp) (fun j u hj => by simp at hj) hrr.one
      · cases Option.some.inj e'
        exact Src.ofSlice w he ad _ cap cs hrr.len hc hrr.one
    | none =>
      rcases hcell with rfl | ⟨ad', e', hc⟩
      · have : cs = [] := List.eq_nil_of_length_eq_zero (by rw [hrr.len]; simp)
        subst this
        exact Src.ofNil w he cap
      · cases e'
  unfold srcOk at hs
  split at hs
  · rename_i s hu
    obtain ⟨b, rfl, hb⟩ := repT_str hr
    simp only [rowsOf, Option.some.injEq, Prod.mk.injEq, beq_iff_eq] at h
    obtain ⟨rfl, rfl⟩ := h
    have e : (s.map byteRow).length = b.size := by rw [List.length_map, size_eq, hb]
    refine ⟨byteCells b, e ▸ Src.ofString w hu b, ⟨by rw [byteCells_length, Nat.mul_one, e], fun r hr => ?_, fun u hu => ?_, fun m row hm j hj => ?_⟩⟩
    · obtain ⟨_, _, rfl⟩ := List.mem_map.1 hr; rfl
    · obtain ⟨_, _, rfl⟩ := List.mem_map.1 hu; rfl
    · have hj0 : j = 0 := by omega
      subst hj0
      rw [List.getElem?_map, Option.map_eq_some_iff] at hm
      obtain ⟨y, hy, rfl⟩ := hm
      refine ⟨.int .u8 y.toNat, ?_, .pure _ _ (.int _ _)⟩
      simp only [byteCells, Nat.mul_one, Nat.add_zero, List.getElem?_map, hb, hy, Option.map_some]
  · exact hsl _ (by assumption) (.inl ⟨_, _, _, rfl⟩)
  · exact hsl _ (by assumption) (.inr ⟨_, _, _, _, _, rfl⟩)
  · rename_i e hu
    simp only [rowsOf, Option.some.injEq, Prod.mk.injEq, true_and] at h
    subst h
    have := noTmp_of hr (by simp)
    cases this with
    | pure _ _ h =>
      cases h with
      | nonS ad cap => exact ⟨[], Src.ofSlice w hu ad 0 cap [] (by simp) (fun j u hj => by simp at hj) (fun u hu => by simp at hu), ⟨by simp, fun r hr => by simp at hr, fun u hu => by simp at hu, fun m row hm => by simp at hm⟩⟩
  · simp at hs

/-- the arm that grows -/
theorem grow_run {t tx ty e : TypeId} {sz by_ : Nat} (he : elemT P t = some e) (hs : sizeT P e = some sz) (hb : bytesT P e = some by_) (hz : zeroOk P e sz = true) (hb0 : by_ ≠ 0) {base : Option Addr} {len cap : Nat} {olds : List Value}
    (hold : (Builtin.firstCells sz len (.slice base len cap)).run P w.drew = .ok olds.toArray w.drew) (ho : olds.length = len * sz) {x : Value} {n : Nat} {news : List Value} (hsrc : Src P sz tx x n news w) (hg : cap < len + n)
    (hbig : (2 * (len + n) + 1000) * by_ ≤ 281474976710656) :
    ∃ c w' ds, (Builtin.append_ #[t, tx] ty #[.slice base len cap, x]).run P w = .ok (.slice (some ⟨w.heap.size, 0, none⟩) (len + n) c) w' ∧ Pushed w w' ds e (0, 0) ∧ len + n ≤ c ∧ ds.size = c * sz ∧
      ∀ j, j < (len + n) * sz → ds[j]? = (olds ++ news)[j]? := by
  have hu := elemT_some he
  unfold sizeT at hs
  unfold bytesT at hb
  obtain ⟨i, hi, rfl⟩ := Option.map_eq_some_iff.1 hs
  rw [hi] at hb
  simp only [Option.map_some, Option.some.injEq] at hb
  subst hb
  unfold zeroOk at hz
  split at hz
  case h_2 => simp at hz
  rename_i z0 hzz
  simp only [beq_iff_eq] at hz
  unfold zeroT at hzz
  rw [hi] at hzz
  simp only at hzz
  split at hzz
  case h_2 => simp at hzz
  rename_i z hzi
  split at hzz
  case isFalse => simp at hzz
  rename_i hone
  simp only [Option.some.injEq] at hzz
  have hzs : z.cells.size = i.size := by rw [← hz, ← hzz]; simp
  have h1 : 1 ≤ i.bytes := by omega
  have hneed : 2 * (len + n) + 1000 ≤ 281474976710656 := Nat.le_trans (Nat.le_mul_of_pos_right _ h1) hbig
  have hfit : Builtin.nextslicecap (len + n) cap * i.bytes ≤ 281474976710656 := Nat.le_trans (Nat.mul_le_mul_right _ (Nat.le_trans (nextslicecap_le hg) (by omega))) hbig
  have hrun := run_append_grow_src (P := P) w t tx ty e i z hu hi hzi base len cap olds hold x n news hsrc hg (by omega) hfit
  have hge := grownCap_ge w (len + n) cap e
  have hnl := hsrc.newsLen
  have hsize : (olds ++ news).length = (len + n) * i.size := by rw [List.length_append, ho, hnl, Nat.add_mul]
  refine ⟨_, _, _, hrun, ⟨rfl, rfl, rfl, rfl⟩, hge, ?_, fun j hj => ?_⟩
  · rw [Array.size_append, List.size_toArray, hsize]
    have : (Builtin.zeroCells z.cells (grownCap w (len + n) cap e - (len + n))).size = (grownCap w (len + n) cap e - (len + n)) * i.size := by simp [Builtin.zeroCells, hzs]
    rw [this, ← Nat.add_mul]
    congr 1; omega
  · rw [Array.getElem?_append_left (by rw [List.size_toArray, hsize]; exact hj)]
    simp

theorem firstCells_rows {sz : Nat} {ys : List (List AVal)} {ao : Option Addr} {cap : Nat} {cs : List Value} (hrr : RowsRep w E H sz ys cs) (hc : ys = [] ∨ ∃ ad, ao = some ad ∧ ∀ j u, cs[j]? = some u → w.cell? (ad.add j) = some u) :
    (Builtin.firstCells sz ys.length (.slice ao ys.length cap)).run P w.drew = .ok cs.toArray w.drew := by
  have hl := hrr.len
  cases ao with
  | some ad =>
    rcases hc with rfl | ⟨ad', e', hc⟩
    · have : cs = [] := List.eq_nil_of_length_eq_zero (by rw [hl]; simp)
      subst this
      exact run_firstCells_some w.drew sz 0 ad 0 cap [] (by simp) (fun j u hj => by simp at hj)
    · cases Option.some.inj e'
      exact run_firstCells_some w.drew sz _ ad _ cap cs hl (by simpa using hc)
  | none =>
    rcases hc with rfl | ⟨ad', e', hc⟩
    · have : cs = [] := List.eq_nil_of_length_eq_zero (by rw [hl]; simp)
      subst this
      exact run_firstCells_none w.drew sz 0 0 cap
    · cases e'


theorem two_args {α : Type} {xs : Array α} {x y : α} (h : xs.size = 2) (h0 : xs[0]? = some x) (h1 : xs[1]? = some y) : xs = #[x, y] := by
  obtain ⟨l⟩ := xs
  match l, h with
  | [p, q], _ =>
    simp at h0 h1
    subst h0 h1
    rfl
theorem call_append {s x : Operand} {c : Call} (hc : c.callee = .builtin .append) (ha : c.args = #[s, x]) {t u : TypeId} (ht : c.argTypes = #[t, u]) {v : Value} (h : (Builtin.append_ #[t, u] type #[a.eval s, a.eval x]).run P w = .ok v w') :
    (execOp a.eval (mkO dst (.call c) type pos after guard)).run P w = .ok (.value v) w' := by
  simp only [execOp, resolve, hc, ha, ht, Sem.run_bind, Sem.run_pure, Result.andThen_ok, invoke, builtin, List.map_toArray, List.map_cons, List.map_nil, h]
theorem own_shape0 {k b c n sz : Nat} (hn : n ≤ c) : OwnShape (pushEnv E k b c) k 0 n false sz (some ⟨b, 0, none⟩) c :=
  ⟨hn, fun h => by simp at h, fun _ _ => by simp [pushEnv], by simpa [pushEnv] using hn, fun _ _ => by simp [pushEnv]⟩
theorem step_append (fs : FS w a E H β T B G) {c : Call} {t u : TypeId} {s x : Operand} (hv : okTmps G (mkO dst (.call c) type pos after guard)) (hc : c.callee = .builtin .append) (ht : c.argTypes[0]? = some t) (hs : c.args[0]? = some s)
    (hx : c.args[1]? = some x) (hu : c.argTypes[1]? = some u) (h2 : c.args.size = 2 ∧ c.argTypes.size = 2 ∧ srcOk (P.underlying u) (aeval T x) = true) {nl : Bool} (h : appendA P nl t B H (aeval T s) (aeval T x) = some r) (hok : r.ok = true) :
    Sound P w a E H β T G (mkO dst (.call c) type pos after guard) r := by
  have ha := two_args h2.1 hs hx
  have hat := two_args h2.2.1 ht hu
  have rs := okTmps_rep fs hv (x := s) (by simp [Op.operands, Call.operands, hc, ha])
  have rx := okTmps_rep fs hv (x := x) (by simp [Op.operands, Call.operands, hc, ha])
  have hsrc := h2.2.2
  generalize aeval T s = sv at *
  generalize aeval T x = xv at *
  unfold appendA at h
  split at h
  case h_1 => simp at h
  rename_i e he
  split at h
  case h_2 => simp at h
  rename_i sz by_ hsz hby
  split at h
  case h_2 => simp at h
  rename_i ok1 ys hys
  split at h
  · simp at h
  rename_i hcond
  have hz0 : 0 < sz := by omega
  have hb0 : by_ ≠ 0 := fun e => hcond (.inr (.inl e))
  have hzo : zeroOk P e sz = true := by
    cases e : zeroOk P _ sz with
    | true => rfl
    | false => exact absurd (.inr (.inr e)) hcond
  have hu' := elemT_some he
  have fit : ok1 = true → ∃ news, Src P sz u (a.eval x) ys.length news w ∧ RowsRep w E H sz ys news := fun e => rows_src fs hsrc (e ▸ hys) rx
  split at h
  · -- nil
    split at h
    case isFalse => simp at h
    simp only [Option.some.injEq] at h
    subst h
    simp only [Bool.and_eq_true, List.isEmpty_iff] at hok
    obtain ⟨o1, rfl⟩ := hok
    obtain ⟨news, src, hnews⟩ := fit o1
    have hne : news = [] := List.eq_nil_of_length_eq_zero (by rw [hnews.len]; simp)
    subst hne
    have e2 := rep_nilX (noTmp_of rs (by simp))
    obtain ⟨i, hi, rfl⟩ := info_size hsz
    have run := run_append_nothing (P := P) w t u type e i hu' hi none 0 0 (Nat.le_refl _) (a.eval x) src
    refine Sound.pure fs (call_append hc ha hat (by rw [e2]; exact run)) ?_
    rw [e2] at rs; exact rs
  · -- a list
    rename_i n row
    split at h
    · simp only [Option.some.injEq] at h
      subst h
      simp only [Bool.and_eq_true, beq_iff_eq, List.isEmpty_iff] at hok
      obtain ⟨⟨o1, rfl⟩, rfl⟩ := hok
      obtain ⟨news, src, hnews⟩ := fit o1
      have hne : news = [] := List.eq_nil_of_length_eq_zero (by rw [hnews.len]; simp)
      subst hne
      obtain ⟨ao, cap, e2, hle, hfull, _⟩ := rep_list (noTmp_of rs (by simp))
      have hcap := hfull rfl
      subst hcap
      obtain ⟨i, hi, rfl⟩ := info_size hsz
      have run := run_append_nothing (P := P) w t u type e i hu' hi ao 0 0 (Nat.le_refl _) (a.eval x) src
      refine Sound.pure fs (call_append hc ha hat (by rw [e2]; exact run)) ?_
      rw [e2] at rs; exact rs
    simp only [Option.some.injEq] at h
    subst h
    simp only [Bool.and_eq_true, Bool.or_eq_true, decide_eq_true_eq, beq_iff_eq] at hok
    obtain ⟨⟨⟨o1, o2⟩, o3⟩, o4⟩ := hok
    obtain ⟨news, src, hnews⟩ := fit o1
    have hbase : rowsOf sz H (.list true n row) = some (true, (List.range n).map row) := by
      simp only [rowsOf, Option.some.injEq, Prod.mk.injEq, and_true]
      simpa using o2
    obtain ⟨ao, cap, olds, e1, hrr, hcell⟩ := slice_rows fs (.inl ⟨_, _, _, rfl⟩) hbase rs
    obtain ⟨_, cap', e2, hle, hfull, _⟩ := rep_list (noTmp_of rs (by simp))
    rw [e1] at e2
    simp only [List.length_map, List.length_range, Value.slice.injEq] at e1 e2
    obtain ⟨-, -, rfl⟩ := e2
    have hcap := hfull rfl
    rcases Nat.eq_zero_or_pos ys.length with hy | hy
    · have hn : n = 0 := by omega
      subst hn
      subst hcap
      have hye : ys = [] := List.eq_nil_of_length_eq_zero hy
      subst hye
      have hne : news = [] := List.eq_nil_of_length_eq_zero (by rw [hnews.len]; simp)
      subst hne
      obtain ⟨i, hi, rfl⟩ := info_size hsz
      have run := run_append_nothing (P := P) w t u type e i hu' hi ao 0 0 (Nat.le_refl _) (a.eval x) src
      obtain ⟨ev, fs'⟩ := fresh_virtual fs hz0
      simp only [List.range_zero, List.map_nil, List.nil_append, List.length_nil, Nat.add_zero]
      refine ⟨_, _, _, β, ⟨.inl (call_append hc ha hat (by rw [e1]; exact run)), ev, fs', .val _ _ (.own _ _ _ _ _ _ _ i.size 0 (by simp [arrInfo]) (Nat.le_refl _) (fun _ => ?_)), fun _ _ h => .inl h⟩⟩
      exact ⟨Nat.le_refl _, fun h => by simp at h, fun _ _ => by simp [pushEnv], by simp, fun h => by simp [pushEnv] at h⟩
    · have hrl := hrr.len
      have hfc := firstCells_rows (P := P) (cap := cap) hrr hcell
      simp only [List.length_map, List.length_range] at hrl hfc
      obtain ⟨cc, w1, ds, run, hp, hge, hds, hcells⟩ := grow_run (P := P) (w := w) (tx := u) (ty := type) he hsz hby hzo hb0 hfc hrl src (by omega) o4
      have hall := hrr.append hnews
      obtain ⟨ev, fs'⟩ := fresh_obj fs hp (thawed0 _) (obj := .arr sz ((List.range n).map row ++ ys) 0) (c := cc) (fun cs e => by cases e) (fun sz' rows' u e => by
        cases e
        refine ⟨hz0, by simpa using hge, hall.rlen, by omega, fun j v hv => ?_⟩
        obtain ⟨c, k1, k2, k3⟩ := hall.cellAt hz0 j v hv
        have : j < (n + ys.length) * sz := by
          have := (List.getElem?_eq_some_iff.1 k1).1
          rw [hall.len] at this; simpa using this
        exact ⟨c, by rw [hcells j this]; exact k1, k2, k3⟩)
      exact ⟨_, _, _, β, ⟨.inl (call_append hc ha hat (by rw [e1]; exact run)), ev, fs', .val _ _ (.own _ _ _ _ _ _ _ sz 0 (by simp [arrInfo]) (Nat.le_refl _) (fun _ => own_shape0 hge)), fun _ _ h => .inl h⟩⟩
  · -- an array of one's own
    rename_i k off len ver clip
    split at h
    case h_2 => simp at h
    rename_i sz' rows v hk
    split at h
    case isFalse => simp at h
    rename_i hoz
    obtain ⟨rfl, rfl⟩ := hoz
    obtain ⟨k1, k2, k3, k4⟩ := fs.sim.arr k sz' rows v hk
    split at h
    · rename_i hclip
      subst hclip
      simp only [Option.some.injEq] at h
      subst h
      simp only [Bool.and_eq_true, decide_eq_true_eq, beq_iff_eq] at hok
      obtain ⟨⟨⟨⟨o1, rfl⟩, o2⟩, o3⟩, o4⟩ := hok
      obtain ⟨news, src, hnews⟩ := fit o1
      have hbase : rowsOf sz' H (.own k 0 len v true) = some (true, rows.take len) := by
        simp [rowsOf, hk, o2]
      obtain ⟨ao, cap, olds, e1, hrr, hcell⟩ := slice_rows fs (.inr ⟨_, _, _, _, _, rfl⟩) hbase rs
      obtain ⟨_, cap', sz2, u', e2, g1, g2, g3⟩ := rep_own (noTmp_of rs (by simp))
      rw [e1] at e2
      have hll : (rows.take len).length = len := by simp; omega
      rw [hll] at e1 e2
      simp only [Value.slice.injEq] at e2
      obtain ⟨-, -, rfl⟩ := e2
      rw [arr_of_get hk] at g1
      simp only [Option.some.injEq, Prod.mk.injEq] at g1
      obtain ⟨rfl, rfl⟩ := g1
      have hcap := (g3 rfl).2.1 rfl
      have hrl := hrr.len
      have hfc := firstCells_rows (P := P) (cap := cap) hrr hcell
      rw [hll] at hrl hfc
      obtain ⟨cc, w1, ds, run, hp, hge, hds, hcells⟩ := grow_run (P := P) (w := w) (tx := u) (ty := type) he hsz hby hzo hb0 hfc hrl src (by omega) o4
      have hall := hrr.append hnews
      obtain ⟨ev, fs'⟩ := fresh_obj fs hp (thawed0 _) (obj := .arr sz' (rows.take len ++ ys) 0) (c := cc) (fun cs e => by cases e) (fun sz' rows' u e => by
        cases e
        refine ⟨hz0, by rw [List.length_append, hll]; exact hge, hall.rlen, by omega, fun j v hv => ?_⟩
        obtain ⟨c, k1, k2, k3⟩ := hall.cellAt hz0 j v hv
        have : j < (len + ys.length) * sz' := by
          have := (List.getElem?_eq_some_iff.1 k1).1
          rw [hall.len, List.length_append, hll] at this; exact this
        exact ⟨c, by rw [hcells j this]; exact k1, k2, k3⟩)
      exact ⟨_, _, _, β, ⟨.inl (call_append hc ha hat (by rw [e1]; exact run)), ev, fs', .val _ _ (.own _ _ _ _ _ _ _ sz' 0 (by simp [arrInfo]) (Nat.le_refl _) (fun _ => own_shape0 hge)), fun _ _ h => .inl h⟩⟩
    · rename_i hclip
      have hclip : clip = false := by cases clip <;> simp_all
      subst hclip
      simp only [Option.some.injEq] at h
      subst h
      simp only [Bool.and_eq_true, decide_eq_true_eq, beq_iff_eq] at hok
      obtain ⟨⟨⟨⟨o1, rfl⟩, rfl⟩, o4⟩, o5⟩ := hok
      obtain ⟨news, src, hnews⟩ := fit o1
      have hbase : rowsOf sz' H (.own k 0 rows.length v false) = some (true, rows) := by
        simp [rowsOf, hk]
      obtain ⟨ao, cap, olds, e1, hrr, hcell⟩ := slice_rows fs (.inr ⟨_, _, _, _, _, rfl⟩) hbase rs
      obtain ⟨_, cap', sz2, u', e2, g1, g2, g3⟩ := rep_own (noTmp_of rs (by simp))
      rw [e1] at e2
      simp only [Value.slice.injEq] at e2
      obtain ⟨rfl, -, rfl⟩ := e2
      rw [arr_of_get hk] at g1
      simp only [Option.some.injEq, Prod.mk.injEq] at g1
      obtain ⟨rfl, rfl⟩ := g1
      obtain ⟨s1, s2, s3, s4, s5⟩ := g3 rfl
      have hcap := s3 rfl rfl
      have hrl := hrr.len
      have hall := hrr.append hnews
      have hallcell : ∀ (j : Nat) (v : AVal), cellAt sz' (rows ++ ys) j = some v → j < (rows.length + ys.length) * sz' ∧ ∃ c, (olds ++ news)[j]? = some c ∧ c.oneCell' = true ∧ Rep w E H v c := fun j v hv => by
        obtain ⟨c, k1, k2, k3⟩ := hall.cellAt hz0 j v hv
        refine ⟨?_, c, k1, k2, k3⟩
        have := (List.getElem?_eq_some_iff.1 k1).1
        rw [hall.len] at this; simpa using this
      rcases Nat.lt_or_ge cap (rows.length + ys.length) with hg | hg
      · have hfc := firstCells_rows (P := P) (cap := cap) hrr hcell
        obtain ⟨cc, w1, ds, run, hp, hge, hds, hcells⟩ := grow_run (P := P) (w := w) (tx := u) (ty := type) he hsz hby hzo hb0 hfc hrl src hg o4
        obtain ⟨ev, fs'⟩ := move_own fs hk (rows' := rows ++ ys) hp (thawed0 _) (c := cc) (by simpa using hge) hall.rlen (by omega) (fun j v hv => by
          obtain ⟨q, c, c1, c2, c3⟩ := hallcell j v hv
          exact ⟨c, by rw [hcells j q]; exact c1, c2, c3⟩) o5
        exact ⟨_, _, _, β, ⟨.inl (call_append hc ha hat (by rw [e1]; exact run)), ev, fs', .val _ _ (.own _ _ _ _ _ _ _ sz' (v + 1) (by rw [arrInfo_setArr hk, if_pos rfl]) (Nat.le_refl _) (fun _ => own_shape0 hge)), fun _ _ h => .inl h⟩⟩
      · by_cases h0 : E.cap k = 0
        · have hr0 : rows = [] := List.eq_nil_of_length_eq_zero (by omega)
          have hy0 : ys = [] := List.eq_nil_of_length_eq_zero (by omega)
          subst hr0 hy0
          have hne : news = [] := List.eq_nil_of_length_eq_zero (by rw [hnews.len]; simp)
          subst hne
          obtain ⟨i, hi, rfl⟩ := info_size hsz
          have run := run_append_nothing (P := P) w t u type e i hu' hi ao 0 cap (by omega) (a.eval x) src
          obtain ⟨ev, fs'⟩ := bump_virtual fs hk h0
          simp only [List.nil_append, List.length_nil, Nat.add_zero]
          refine ⟨_, _, _, β, ⟨.inl (call_append hc ha hat (by rw [e1]; exact run)), ev, fs', .val _ _ (.own _ _ _ _ _ _ _ i.size (v + 1) (by rw [arrInfo_setArr hk, if_pos rfl]) (Nat.le_refl _) (fun _ => ?_)), fun _ _ h => .inl h⟩⟩
          exact ⟨by omega, fun h => by simp at h, fun _ _ => hcap, by omega, fun h => absurd h0 h⟩
        · have hao := s5 h0 (.inr ⟨rfl, rfl⟩)
          simp only [Nat.zero_mul] at hao
          subst hao
          have kb := k4 h0
          have hle2 : (rows.length + ys.length) * sz' ≤ E.cap k * sz' := Nat.mul_le_mul_right _ (by omega)
          rw [Nat.add_mul] at hle2
          have hnl := hnews.len
          obtain ⟨i, hi, rfl⟩ := info_size hsz
          have run := run_append_room_src (P := P) w t u type e i hu' hi (E.φ k) 0 rows.length cap (a.eval x) ys.length news src hg
            (fun j hj => (kb.some (j := 0 + rows.length * i.size + j) (by omega)).1) (fun j hj => (kb.some (j := 0 + rows.length * i.size + j) (by omega)).2)
          simp only [Nat.zero_add] at run
          obtain ⟨ev, fs'⟩ := bump_own fs hk (rows' := rows ++ ys) (off := rows.length * i.size) (vs := news) h0 (by simp; omega) hall.rlen (by omega) hnews.one
            (fun j v h1 h2 hv => by
              obtain ⟨q, c, c1, c2, c3⟩ := hallcell j v hv
              rw [List.getElem?_append_right (by omega), hrl] at c1
              rw [List.getD_eq_getElem?_getD, c1]; exact c3)
            (fun j v hn hv => by
              obtain ⟨q, _⟩ := hallcell j v hv
              rw [Nat.add_mul] at q
              have hj : j < rows.length * i.size := by omega
              unfold Mu.cellAt at hv ⊢
              rwa [List.getElem?_append_left (Nat.div_lt_of_lt_mul (by rw [Nat.mul_comm]; exact hj))] at hv)
          refine ⟨_, _, _, β, ⟨.inl (call_append hc ha hat (by rw [e1]; exact run)), ev, fs', .val _ _ (.own _ _ _ _ _ _ _ i.size (v + 1) (by rw [arrInfo_setArr hk, if_pos rfl]) (Nat.le_refl _) (fun _ => ?_)), fun _ _ h => .inl h⟩⟩
          exact ⟨hg, fun h => by simp at h, fun _ _ => hcap, by omega, fun _ _ => by simp⟩
  · simp at h
end Go.Mu
/-
  Mu: the operations, one by one (what is converted).
-/
namespace Go.Mu
open Go
variable {P : Program} {fh : FH} {w w' : World} {a : Act} {E E' : Env} {H H' : Heap} {β : Nat → Option Nat} {T : List AVal} {B : Boxes} {G : Tags}
  {dst : Option Nat} {type : TypeId} {pos : String} {after : Array Edge} {guard : Option (Nat × Bool)} {r : SR}

theorem conv_exec {s d : TypeId} {x : Operand} {v : Value} (h : (convert s d (a.eval x)).run P w = .ok v w') : (execOp a.eval (mkO dst (.convert s d x) type pos after guard)).run P w = .ok (.value v) w' := by
  simp [execOp, h]
theorem bytesRow_get {b : ByteArray} {cap : Nat} {j : Nat} (h : j < b.size) : (bytesRow b cap)[j]? = some (.int .u8 ((b.data.toList.getD j 0).toNat : Int)) := by
  have hl : j < b.data.size := h
  unfold bytesRow
  rw [Array.getElem?_append_left (by simpa using hl)]
  simp only [Array.getElem?_map, Array.getElem?_eq_getElem hl, Option.map_some, List.getD_eq_getElem?_getD, Array.getElem?_toList]
  rfl
theorem bytesRow_size {b : ByteArray} {cap : Nat} (h : b.size ≤ cap) : (bytesRow b cap).size = cap := by
  have : b.data.size = b.size := rfl
  simp [bytesRow]; omega
theorem byte_back (rows : List (List AVal)) (cs : List Value) (hrr : RowsRep w E H 1 rows cs) (h : rows.all isByteRow = true) : cs = (rows.map fun r => intOf (r.getD 0 .undef)).map (Value.int .u8) := by
  apply List.ext_getElem?
  intro j
  rcases Nat.lt_or_ge j rows.length with g | g
  · have hb := List.all_eq_true.1 h _ (List.getElem_mem g)
    obtain ⟨c, k1, k2⟩ := hrr.cell j _ (List.getElem?_eq_getElem g) 0 (by omega)
    rw [Nat.mul_one, Nat.add_zero] at k1
    rw [k1]
    simp only [List.map_map, List.getElem?_map, List.getElem?_eq_getElem g, Option.map_some, Function.comp]
    generalize rows[j] = r at *
    unfold isByteRow at hb
    split at hb
    · rename_i v
      unfold isInt at hb
      split at hb
      · simp only [decide_eq_true_eq] at hb
        subst hb
        simp only [List.getD_cons_zero] at k2 ⊢
        rw [rep_int k2]; rfl
      · simp at hb
    · simp at hb
  · rw [List.getElem?_eq_none (by rw [hrr.len]; omega), List.getElem?_eq_none (by simpa using g)]
theorem rows_kind {sz : Nat} {xv : AVal} {ok : Bool} {rows : List (List AVal)} (h : rowsOf sz H xv = some (ok, rows)) (hns : ∀ s, xv = .str s → False) (hns2 : xv = .nonS → False) : (∃ full n row, xv = .list full n row) ∨ (∃ k off len ver clip, xv = .own k off len ver clip) := by
  unfold rowsOf at h
  split at h
  · exact .inl ⟨_, _, _, rfl⟩
  · exact .inr ⟨_, _, _, _, _, rfl⟩
  · exact absurd rfl (hns _)
  · exact (hns2 rfl).elim
  · simp at h
theorem step_convert (fs : FS w a E H β T B G) {s d : TypeId} {x : Operand} {o : Bool} (hv : okTmps G (mkO dst (.convert s d x) type pos after guard)) (h : convA P o B H s d (aeval T x) = some r) (hok : r.ok = true) :
    Sound P w a E H β T G (mkO dst (.convert s d x) type pos after guard) r := by
  have rx := okTmps_rep fs hv (x := x) (by simp [Op.operands])
  generalize aeval T x = xv at *
  unfold convA at h
  split at h
  · rename_i te i off hs hd
    simp only [Option.some.injEq] at h
    subst h
    unfold toUnsafe at hok
    split at hok
    · rename_i nt n j hnote hj
      simp only [Bool.and_eq_true, decide_eq_true_eq, bne_iff_ne, ne_eq] at hok
      obtain ⟨e, hvar⟩ := rep_ptrH (noTmp_of rx (by simp))
      obtain ⟨cs, fr, hb, hsz⟩ := fs.sim.note (i + 1) nt n hnote (.inl hvar)
      have hsh : w.shape? (E.φ i) = some (nt, n) := by
        simp only [Nat.add_sub_cancel] at hb
        simp only [World.shape?, hb]
        rw [hsz (by omega)]
      refine Sound.pure fs (c := .pointer (some ⟨E.φ i, off, none⟩)) (conv_exec ?_) (.val _ _ (.ptrH _ _ hvar))
      rw [e]
      exact Lib.run_to_unsafe (w := w) ⟨E.φ i, off, none⟩ hs hd hj hok.2 hsh hok.1
    · simp at hok
  · rename_i u i off hs hd
    simp only [Option.some.injEq] at h
    subst h
    unfold ofUnsafe at hok
    split at hok
    · rename_i nt n j hnote hj
      simp only [Bool.and_eq_true, bne_iff_ne, ne_eq] at hok
      obtain ⟨e, hvar⟩ := rep_ptrH (noTmp_of rx (by simp))
      obtain ⟨cs, fr, hb, hsz⟩ := fs.sim.note (i + 1) nt n hnote (.inl hvar)
      have hsh : w.shape? (E.φ i) = some (nt, n) := by
        simp only [Nat.add_sub_cancel] at hb
        simp only [World.shape?, hb]
        rw [hsz hok.1]
      refine Sound.pure fs (c := .pointer (some ⟨E.φ i, off, none⟩)) (conv_exec ?_) (.val _ _ (.ptrH _ _ hvar))
      rw [e]
      exact Lib.run_from_unsafe (w := w) ⟨E.φ i, off, none⟩ hs hd hj hsh hok.2
    · simp at hok
  · rename_i q k k' n hs hd
    simp only [Option.some.injEq] at h
    subst h
    have e := repT_int rx
    refine Sound.pure fs (c := .int k (k.wrap n)) (conv_exec ?_) (.int _ _)
    rw [e]
    simp [convert, run_underlying hs, run_underlying hd, Conv.intToInt]
  · rename_i q y hs hd
    simp only [Option.some.injEq] at h
    subst h
    obtain ⟨b, e, hb⟩ := repT_str rx
    refine Sound.pure fs (c := .string b) (conv_exec ?_) (.str' hb)
    rw [e]
    simp [convert, run_underlying hs, run_underlying hd]
  · rename_i e y hs hd
    split at h
    case h_2 => simp at h
    rename_i he
    obtain ⟨b, ex, hb⟩ := repT_str rx
    have hlen : y.length = b.size := by rw [size_eq, hb]
    have hge := grownCap_ge w b.size 0 e
    have run := run_bytes_of_string (P := P) w s d e b hs hd he
    have hbs := bytesRow_size hge
    have hp : Pushed w (w.drew.alloc (.cells (bytesRow b (grownCap w b.size 0 e)) e ((bytesRow b (grownCap w b.size 0 e)).size, (bytesRow b (grownCap w b.size 0 e)).size + 1))) (bytesRow b (grownCap w b.size 0 e)) e _ := ⟨rfl, rfl, rfl, rfl⟩
    have hth : thawed ((bytesRow b (grownCap w b.size 0 e)).size, (bytesRow b (grownCap w b.size 0 e)).size + 1) (bytesRow b (grownCap w b.size 0 e)).size := fun o ho hh => by simp only at hh; omega
    split at h
    · simp only [Option.some.injEq] at h
      subst h
      obtain ⟨ev, fs'⟩ := fresh_obj fs hp hth (obj := .arr 1 (y.map byteRow) 0) (c := grownCap w b.size 0 e) (fun cs e => by cases e) (fun sz' rows' u e => by
        cases e
        refine ⟨by omega, by rw [List.length_map, hlen]; exact hge, fun r hr => by obtain ⟨_, _, rfl⟩ := List.mem_map.1 hr; rfl, by omega, fun j v hv => ?_⟩
        unfold cellAt at hv
        rw [Option.bind_eq_some_iff] at hv
        obtain ⟨row, h1, h2⟩ := hv
        simp only [Nat.div_one, Nat.mod_one] at h1 h2
        rw [List.getElem?_map, Option.map_eq_some_iff] at h1
        obtain ⟨c, hc, rfl⟩ := h1
        simp only [byteRow, List.getElem?_cons_zero, Option.some.injEq] at h2
        subst h2
        have hj : j < b.size := by rw [← hlen]; exact (List.getElem?_eq_some_iff.1 hc).1
        refine ⟨_, bytesRow_get hj, rfl, ?_⟩
        rw [hb, List.getD_eq_getElem?_getD, hc]
        exact .pure _ _ (.int _ _))
      exact ⟨_, _, _, β, ⟨.inl (conv_exec (by rw [ex]; exact run)), ev, fs', .val _ _ (by rw [hlen]; exact .own _ _ _ _ _ _ _ 1 0 (by simp [arrInfo]) (Nat.le_refl _) (fun _ => own_shape0 hge)), fun _ _ h => .inl h⟩⟩
    · simp only [Option.some.injEq] at h
      subst h
      obtain ⟨ev, fs'⟩ := fresh_imm fs hp
      refine ⟨_, _, _, β, ⟨.inl (conv_exec (by rw [ex]; exact run)), ev, fs', .val _ _ (.pure _ _ ?_), fun _ _ h => .inl h⟩⟩
      rw [hlen]
      refine .list false b.size _ _ 0 _ 1 (fun i j => .int .u8 ((y.getD i 0).toNat : Int)) hge (fun h => by simp at h) (Or.inr rfl) (fun i hi => rfl) (fun i j hi hj => ?_) (fun i j hi hj => ?_)
      · rw [cell?_block hp.new, show 0 + i * 1 + j = i by omega, bytesRow_get hi, hb]
        exact ⟨rfl, rfl⟩
      · have : j = 0 := by omega
        subst this
        exact .int _ _
  · rename_i e hs hd _
    split at h
    case h_2 => simp at h
    rename_i he
    split at h
    · simp at h
    · simp at h
    rename_i hns hns2
    split at h
    case h_2 => simp at h
    rename_i ok rows hrows
    simp only [Option.some.injEq] at h
    subst h
    simp only [Bool.and_eq_true] at hok
    obtain ⟨rfl, hall⟩ := hok
    have hx := rows_kind hrows hns hns2
    obtain ⟨ao, cap, cs, ex, hrr, hcell⟩ := slice_rows fs hx hrows rx
    have hcs := byte_back rows cs hrr hall
    have hstr : ∀ b : ByteArray, b.data.toList = rows.map byteOf → (convert s d (.slice ao rows.length cap)).run P w = .ok (.string b) w → Sound P w a E H β T G (mkO dst (.convert s d x) type pos after guard) ⟨true && rows.all isByteRow, .str (rows.map byteOf), B, H⟩ := fun b hb hrun =>
      Sound.pure fs (c := .string b) (conv_exec (by rw [ex]; exact hrun)) (.str' hb)
    rw [hall] at hstr
    refine (hall ▸ hstr ⟨(rows.map byteOf).toArray⟩ rfl ?_)
    rw [run_convert_bytes_string w s d e ao _ cap hs he hd]
    have hpush : ∀ (l : List (List AVal)) (r : ByteArray), (l.map fun r => intOf (r.getD 0 .undef)).foldl (fun r n => r.push (UInt8.ofNat n.toNat)) r = ⟨r.data ++ (l.map byteOf).toArray⟩ := by
      intro l
      induction l with
      | nil => intro r; simp
      | cons x l ih => intro r; simp only [List.map_cons, List.foldl_cons]; rw [ih]; simp [ByteArray.push, byteOf]
    have hload : ∀ ad, ao = some ad → (∀ j u, cs[j]? = some u → w.cell? (ad.add j) = some u) → (Conv.bytesToString (.slice ao rows.length cap)).run P w = .ok (.string ⟨(rows.map byteOf).toArray⟩) w := by
      intro ad hao hc
      subst hao
      have hl := run_loadCells_list (P := P) w ad cs hc
      rw [hrr.len, Nat.mul_one] at hl
      rw [hcs] at hl
      rw [run_bytesToString w ad rows.length cap _ hl, hpush]
      have he0 : ByteArray.empty.data = #[] := rfl
      rw [he0]; simp
    rcases hcell with rfl | ⟨ad, rfl, hc⟩
    · cases ao with
      | none => simp [Conv.bytesToString]; rfl
      | some ad => exact hload ad rfl (fun j u hj => by
          have : cs = [] := List.eq_nil_of_length_eq_zero (by rw [hrr.len]; simp)
          rw [this] at hj; simp at hj)
    · exact hload ad rfl hc
  · simp at h
end Go.Mu
