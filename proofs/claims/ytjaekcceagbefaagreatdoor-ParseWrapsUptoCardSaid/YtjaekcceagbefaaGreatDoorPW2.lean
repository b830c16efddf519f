/-
  Lemmas on the given program (part 2).
-/
import Derived.Test.YtjaekcceagbefaaGreatDoorPW1
import Derived.Laws.Strings
import Derived.Laws.StructEq
import Derived.Deep.AppendSrc
import Derived.Laws.AppendOwn
import Derived.Laws.BytesString
import Derived.Laws.MakeOwn
import Derived.Deep.Upon
import Derived.MapKept
import Derived.Laws.IdiomStrings
import Derived.LaidEqlPtr
import Derived.Lib.Builder
import Derived.LoopN
import Derived.Tactics
set_option linter.unusedVariables false
set_option linter.unusedSimpArgs false
namespace Go.Mu
open Go
variable {P : Program} {fh : FH} {w w' : World} {a : Act} {E E' : Env} {H H' : Heap} {β : Nat → Option Nat} {T : Vs} {B : Boxes} {G : Tags}
 {dst : Option Nat} {type : TypeId} {pos : String} {after : Array Edge} {guard : Option (Nat × Bool)} {r : SR}
abbrev mkO (dst : Option Nat) (op : Op) (type : TypeId) (pos : String) (after : Array Edge) (guard : Option (Nat × Bool)) : Oper := ⟨dst, op, type, pos, after, guard⟩
def Sound (P : Program) (w : World) (a : Act) (E : Env) (H : Heap) (β : Nat → Option Nat) (T : Vs) (G : Tags) (o : Oper) (r : SR) : Prop :=
 ∃ c w' E' β', OpOut P w a E H β T G o r.v r.B r.H c w' E' β'
theorem Sound.pure (fs : FS w a E H β T B G) {o : Oper} {v : AVal} {ok : Bool} {c : Value} (hr : (execOp a.eval o).run P w = .ok (.value c) w) (h : RepT w E H β v c) : Sound P w a E H β T G o ⟨ok, v, B, H⟩ :=
 OpOut.pure fs hr h
theorem val_some {x : Option (Bool × AVal)} (h : val B H x = some r) : ∃ ok v, x = some (ok, v) ∧ r = ⟨ok, v, B, H⟩ := by
 cases x with
 | none => simp [val] at h
 | some y => obtain ⟨ok, v⟩ := y; simp [val] at h; exact ⟨ok, v, rfl, h.symm⟩
theorem val1_some {x : Option AVal} (h : val1 B H x = some r) : ∃ v, x = some v ∧ r = ⟨true, v, B, H⟩ := by
 cases x with
 | none => simp [val1] at h
 | some y => simp [val1] at h; exact ⟨y, rfl, h.symm⟩
theorem step_move (fs : FS w a E H β T B G) {x : Operand} (hv : okTmps G (mkO dst (.move x) type pos after guard)) : Sound P w a E H β T G (mkO dst (.move x) type pos after guard) ⟨true, aeval T x, B, H⟩ :=
 Sound.pure fs rfl (okTmps_rep fs hv (by simp [Op.operands]))
theorem step_assign (fs : FS w a E H β T B G) {x : Operand} (hv : okTmps G (mkO dst (.assign x) type pos after guard)) : Sound P w a E H β T G (mkO dst (.assign x) type pos after guard) ⟨true, aeval T x, B, H⟩ :=
 Sound.pure fs rfl (okTmps_rep fs hv (by simp [Op.operands]))
theorem pickA_rep {q : Bool} {x y : AVal} {c d : Value} (h1 : q = true → RepT w E H β x c) (h2 : q = false → RepT w E H β y d) : RepT w E H β (pickA q x y) (if q then c else d) := by
 have hc : ∀ q, (q = true → RepT w E H β x c) → (q = false → RepT w E H β y d) → RepT w E H β (cond q x y) (if q then c else d) := by
  intro q a b; cases q
  · exact b rfl
  · exact a rfl
 unfold pickA
 split
 · cases q
   · exact h2 rfl
   · exact h1 rfl
 · split
   · rename_i e; subst e
     cases q
     · exact h2 rfl
     · exact h1 rfl
   · exact hc q h1 h2
 · cases q
   · exact h2 rfl
   · exact h1 rfl
 · exact hc q h1 h2
theorem step_pick (fs : FS w a E H β T B G) {c x y : Operand} {q : Bool} (hq : aeval T c = .bool q) (hc : ∀ t, c = .tmp t → valid G t = true)
 (h1 : q = true → ∀ t, x = .tmp t → valid G t = true) (h2 : q = false → ∀ t, y = .tmp t → valid G t = true) :
 Sound P w a E H β T G (mkO dst (.pick c x y) type pos after guard) ⟨true, pickA q (aeval T x) (aeval T y), B, H⟩ := by
 have hr := aeval_rep fs c hc
 rw [hq] at hr
 have e : a.eval c = .bool q := by cases hr with | val _ _ h => exact rep_bool h
 refine Sound.pure fs (c := if q then a.eval x else a.eval y) ?_ (pickA_rep (fun h => aeval_rep fs x (h1 h)) (fun h => aeval_rep fs y (h2 h)))
 simp [execOp, e, asBool]
theorem noTmp_of {v : AVal} {c : Value} (h : RepT w E H β v c) (hn : ∀ t off, v ≠ .ptr (.tmp t) off) : Rep w E H v c := by
 cases h with
 | box t off b hb => exact absurd rfl (hn t off)
 | val _ _ h => exact h
theorem repT_int {k : IntKind} {n : Int} {c : Value} (h : RepT w E H β (.int k n) c) : c = .int k n := rep_int (noTmp_of h (by simp))
theorem repT_bool {b : Bool} {c : Value} (h : RepT w E H β (.bool b) c) : c = .bool b := rep_bool (noTmp_of h (by simp))
theorem repT_str {s : Oc} {c : Value} (h : RepT w E H β (.str s) c) : ∃ b : ByteArray, c = .string b ∧ b.data.toList = s := rep_str (noTmp_of h (by simp))
theorem RepT.int (k : IntKind) (n : Int) : RepT w E H β (.int k n) (.int k n) := .val _ _ (.pure _ _ (.int k n))
theorem RepT.bool (b : Bool) : RepT w E H β (.bool b) (.bool b) := .val _ _ (.pure _ _ (.bool b))
theorem RepT.strb (b : ByteArray) : RepT w E H β (.str b.data.toList) (.string b) := .val _ _ (.pure _ _ (.str b))
theorem RepT.str' {s : Oc} {b : ByteArray} (h : b.data.toList = s) : RepT w E H β (.str s) (.string b) := h ▸ RepT.strb b
theorem step_load (fs : FS w a E H β T B G) {t : TypeId} {x : Operand} (hv : okTmps G (mkO dst (.load t x) type pos after guard)) (h : val B H (loadA P B H t (aeval T x)) = some r) (hok : r.ok = true) :
 Sound P w a E H β T G (mkO dst (.load t x) type pos after guard) r := by
 obtain ⟨ok, v, h1, rfl⟩ := val_some h
 simp only at hok; subst hok
 obtain ⟨blk, off, d, e, hr, hrep⟩ := loadA_run fs h1 (okTmps_rep fs hv (x := x) (by simp [Op.operands]))
 refine Sound.pure fs (c := d) ?_ (.val _ _ hrep)
 simp [execOp, Instr.loadAt, Instr.sureAddr, e, hr]
theorem exV_rep {ex : Bool} {w : World} {E : Env} {H : Heap} {β : Nat → Option Nat} {T : Vs} {a : Act} {y : Operand} (h : RepT w E H β (aeval T y) (a.eval y)) : RepT w E H β (exV ex y (aeval T y)) (a.eval y) := by
 cases y with
 | const c =>
  show RepT w E H β (exCell ex c (aeval T (.const c))) c
  unfold exCell
  split
  · split
    · exact .val _ _ (.pure _ _ .nilX)
    · exact h
  · exact h
 | tmp t => exact h
 | global g => exact h
 | func f => exact h
theorem step_store (fs : FS w a E H β T B G) {t : TypeId} {x y : Operand} (hv : okTmps G (mkO dst (.store t x y) type pos after guard)) {ex : Bool} {cs : Vs} {n : Nat} (hc : cellsOf? (exV ex y (aeval T y)) = some cs) (hsz : sizeT P t = some n)
 (hn : cs.length = n) (h : storeA B H (aeval T x) cs = some r) (hnt : noTmp (exV ex y (aeval T y)) = true) (hok : r.ok = true) : Sound P w a E H β T G (mkO dst (.store t x y) type pos after guard) ⟨true, .undef, r.B, r.H⟩ := by
 have hy := noTmp_rep hnt (exV_rep (ex := ex) (okTmps_rep fs hv (x := y) (by simp [Op.operands])))
 obtain ⟨hl, h1, hr⟩ := cellsOf_rep hc hy
 obtain ⟨blk, off, e, hcell, ev, fs'⟩ := storeA_sound fs h hok (okTmps_rep fs hv (x := x) (by simp [Op.operands])) hl h1 hr
 refine ⟨undef, _, E, β, ⟨.inr ⟨?_, rfl⟩, ev, fs', .undef _, fun _ _ h => .inl h⟩⟩
 have hs : (a.eval y).cells.size = n := by rw [← hn, ← hl]; simp
 have := run_storeVar_cells (P := P) (w := w) (t := t) (blk := blk) (off := off) hsz hs (fun j hj => (hcell j (by omega)).1) (fun j hj => (hcell j (by omega)).2) h1
 simp [execOp, Instr.storeAt, Instr.sureAddr, e, this]
theorem step_nilCheck (fs : FS w a E H β T B G) {x : Operand} (hv : okTmps G (mkO dst (.nilCheck x) type pos after guard))
 (h : (∃ o off, aeval T x = .ptr o off) ∨ (∃ cs, aeval T x = .rptr cs) ∨ (∃ k v i off, aeval T x = .eptr k v i off ∧ ∃ sz rows, H[k]? = some (.arr sz rows v)) ∨ (∃ f cs, aeval T x = .func f cs)) : Sound P w a E H β T G (mkO dst (.nilCheck x) type pos after guard) ⟨true, aeval T x, B, H⟩ := by
 have hr := okTmps_rep fs hv (x := x) (by simp [Op.operands])
 refine Sound.pure fs (c := a.eval x) ?_ hr
 rcases h with ⟨o, off, e⟩ | ⟨cs, e⟩ | ⟨k, v, i, off, e, sz, rows, hk⟩ | ⟨f, cs, e⟩
 · rw [e] at hr
   have : ∃ b, a.eval x = .pointer (some b) := by
    cases o with
    | tmp t => obtain ⟨b, h, _⟩ := repT_ptr hr; exact ⟨_, h⟩
    | hp k => obtain ⟨h, _⟩ := rep_ptrH (noTmp_of hr (by simp)); exact ⟨_, h⟩
   obtain ⟨b, hb⟩ := this
   simp [execOp, hb]
 · rw [e] at hr
   obtain ⟨blk, off, f, h, _⟩ := rep_rptr (noTmp_of hr (by simp))
   simp [execOp, h]
 · rw [e] at hr
   obtain ⟨p, sz', u, h, ha, hu, hp⟩ := rep_eptr (noTmp_of hr (by simp))
   rw [arr_of_get hk] at ha
   simp only [sJ, Prod.mk.injEq] at ha
   obtain ⟨rfl, rfl⟩ := ha
   simp [execOp, h, (hp rfl).2]
 · rw [e] at hr
   obtain ⟨cs', h, _⟩ := rep_func (noTmp_of hr (by simp))
   simp [execOp, h]
theorem intBin_run {op : BinOp} {k : IntKind} {x y : Int} {v : AVal} (h : intBin op k x y = some (true, v)) (w : World) (t : TypeId) : ∃ c, (binOp op t (.int k x) (.int k y)).run P w = .ok c w ∧ ∀ E H β, RepT w E H β v c := by
 cases op <;> simp only [intBin, sJ, Prod.mk.injEq, true_and, reduceCtorEq, beq_self_eq_true, Bool.true_and, Bool.not_eq_true', beq_eq_false_iff_ne, ne_eq] at h
 case add => subst h; exact ⟨_, by simp [binOp, Op.intArith], fun E H β => .int _ _⟩
 case sub => subst h; exact ⟨_, by simp [binOp, Op.intArith], fun E H β => .int _ _⟩
 case mul => subst h; exact ⟨_, by simp [binOp, Op.intArith], fun E H β => .int _ _⟩
 case quo => obtain ⟨h0, rfl⟩ := h; exact ⟨_, by simp [binOp, Op.intDiv, h0], fun E H β => .int _ _⟩
 case rem => obtain ⟨h0, rfl⟩ := h; exact ⟨_, by simp [binOp, Op.intDiv, h0], fun E H β => .int _ _⟩
 case and => subst h; exact ⟨_, by simp only [binOp, Op.intBits, ne_eq, not_true_eq_false, if_false]; rfl, fun E H β => .int _ _⟩
 case or => subst h; exact ⟨_, by simp only [binOp, Op.intBits, ne_eq, not_true_eq_false, if_false]; rfl, fun E H β => .int _ _⟩
 case xor => subst h; exact ⟨_, by simp only [binOp, Op.intBits, ne_eq, not_true_eq_false, if_false]; rfl, fun E H β => .int _ _⟩
 case andNot => subst h; exact ⟨_, by simp only [binOp, Op.intBits, ne_eq, not_true_eq_false, if_false]; rfl, fun E H β => .int _ _⟩
 all_goals (subst h; exact ⟨_, by simp only [binOp, Op.intCmp, ne_eq, not_true_eq_false, if_false]; rfl, fun E H β => .bool _⟩)
theorem shiftA_run {op : BinOp} {k k' : IntKind} {x y : Int} {v : AVal} (h : shiftA op k x y = some (true, v)) (w : World) (t : TypeId) : ∃ c, (binOp op t (.int k x) (.int k' y)).run P w = .ok c w ∧ ∀ E H β, RepT w E H β v c := by
 cases op <;> simp [shiftA] at h
 case shl => obtain ⟨h0, rfl⟩ := h; exact ⟨_, by simp only [binOp, Op.shift]; rw [if_neg (by omega)]; rfl, fun E H β => .int _ _⟩
 case shr => obtain ⟨h0, rfl⟩ := h; exact ⟨_, by simp only [binOp, Op.shift]; rw [if_neg (by omega)]; rfl, fun E H β => .int _ _⟩
theorem toList_eq (b : _root_.ByteArray) : b.toList = b.data.toList := Go.ByteArray.toList_eq b
theorem size_eq (b : _root_.ByteArray) : b.size = b.data.toList.length := by rw [Array.length_toList]; rfl
theorem strBin_run {op : BinOp} {b1 b2 : ByteArray} {v : AVal} (h : strBin op b1.data.toList b2.data.toList = some (true, v)) (w : World) (t : TypeId) :
 ∃ c, (binOp op t (.string b1) (.string b2)).run P w = .ok c w ∧ ∀ E H β, RepT w E H β v c := by
 cases op <;> simp only [strBin, sJ, Prod.mk.injEq, true_and, decide_eq_true_eq, reduceCtorEq] at h
 case add =>
  obtain ⟨h0, rfl⟩ := h
  refine ⟨.string (b1 ++ b2), ?_, fun E H β => .str' (by simp)⟩
  have : ¬ (((b1.size + b2.size : Nat) : Int) > IntKind.i64.max) := by
   rw [size_eq, size_eq]
   simp only [maxS] at h0
   have : IntKind.i64.max = 9223372036854775807 := by decide
   omega
  simp only [binOp, Op.stringOp]
  rw [if_neg this]; rfl
 all_goals (subst h; refine ⟨_, by simp only [binOp, Op.stringOp]; rfl, fun E H β => ?_⟩; rw [toList_eq, toList_eq]; exact .bool _)
end Go.Mu
namespace Go.Mu
open Go
variable {P : Program} {fh : FH} {w w' : World} {a : Act} {E E' : Env} {H H' : Heap} {β : Nat → Option Nat} {T : Vs} {B : Boxes} {G : Tags}
 {dst : Option Nat} {type : TypeId} {pos : String} {after : Array Edge} {guard : Option (Nat × Bool)} {r : SR}
theorem plainKey_of {t : TypeId} (h : P.underlying t = some .string ∨ (∃ k, P.underlying t = some (.int k)) ∨ P.underlying t = some .bool) : P.plainKey t = true := by
 unfold Program.plainKey
 rcases h with h | ⟨k, h⟩ | h <;> simp [h]
theorem fieldsEq_run (d : Nat) : ∀ (fs : List Field) (i : Nat) (xs ys : Vs) (cx cy : List Value) (r : Bool), fieldsEq P i fs xs ys = some r →
 (∀ j, j < xs.length → Rep w E H (xs.getD j .undef) (cx.getD (i + j) undef) ∧ i + j < cx.length) → (∀ j, j < ys.length → Rep w E H (ys.getD j .undef) (cy.getD (i + j) undef) ∧ i + j < cy.length) →
 (Op.eqFields (d + 1) cx.toArray cy.toArray fs).run P w = .ok r w
 | [], _, [], [], _, _, r, h, _, _ => by
  simp only [fieldsEq, sJ] at h
  subst h
  simp [Op.eqFields]
 | [], _, _ :: _, _, _, _, _, h, _, _ => by simp [fieldsEq] at h
 | [], _, [], _ :: _, _, _, _, h, _, _ => by simp [fieldsEq] at h
 | _ :: _, _, [], _, _, _, _, h, _, _ => by simp [fieldsEq] at h
 | _ :: _, _, _ :: _, [], _, _, _, h, _, _ => by simp [fieldsEq] at h
 | f :: fs, i, x :: xs, y :: ys, cx, cy, r, h, hx, hy => by
  simp only [fieldsEq] at h
  split at h
  · rename_i hf
    obtain ⟨hname, hoff⟩ := hf
    have ih : ∀ r', fieldsEq P (i + 1) fs xs ys = some r' → (Op.eqFields (d + 1) cx.toArray cy.toArray fs).run P w = .ok r' w := fun r' h' =>
     fieldsEq_run d fs (i + 1) xs ys cx cy r' h' (fun j hj => by have := hx (j + 1) (by simp; omega); rw [show i + (j + 1) = i + 1 + j by omega] at this; simpa using this)
      (fun j hj => by have := hy (j + 1) (by simp; omega); rw [show i + (j + 1) = i + 1 + j by omega] at this; simpa using this)
    obtain ⟨rx, lx⟩ := hx 0 (by simp)
    obtain ⟨ry, ly⟩ := hy 0 (by simp)
    simp only [Nat.add_zero, List.getD_cons_zero] at rx ry lx ly
    have gx : cx.toArray[f.offset]? = some (cx.getD i undef) := by rw [hoff]; simp [gQ, List.getElem?_eq_getElem lx]
    have gy : cy.toArray[f.offset]? = some (cy.getD i undef) := by rw [hoff]; simp [gQ, List.getElem?_eq_getElem ly]
    generalize cx.getD i undef = vx at *
    generalize cy.getD i undef = vy at *
    split at h
    · rename_i k' k p k'' q r' hu hr
      split at h
      · rename_i hk
        subst hk
        simp only [sJ] at h
        obtain rfl := rep_int rx
        obtain rfl := rep_int ry
        have hp := plainKey_of (P := P) (t := f.type) (.inr (.inl ⟨_, hu⟩))
        simp only [Op.eqFields, hname, ne_eq, not_false_eq_true, if_true, Sem.run_bind, run_part_plain w hp gx, run_part_plain w hp gy, Result.andThen_ok, run_equalIn_int w d _ _ _ _ _ hu]
        rw [← h]
        by_cases e : p = q
        · simp [e, ih r' hr]
        · simp [e]
      · simp at h
    · rename_i s1 s2 r' hu hr
      simp only [sJ] at h
      obtain ⟨b1, rfl, e1⟩ := rep_str rx
      obtain ⟨b2, rfl, e2⟩ := rep_str ry
      have hp := plainKey_of (P := P) (t := f.type) (.inl hu)
      simp only [Op.eqFields, hname, ne_eq, not_false_eq_true, if_true, Sem.run_bind, run_part_plain w hp gx, run_part_plain w hp gy, Result.andThen_ok, run_equalIn_string w d _ _ _ hu, toList_eq]
      rw [← h]
      rw [e1, e2]
      by_cases e : s1 = s2
      · simp [e, ih r' hr]
      · simp [e]
    · rename_i s1 s2 r' hu hr
      simp only [sJ] at h
      obtain rfl := rep_bool rx
      obtain rfl := rep_bool ry
      have hp := plainKey_of (P := P) (t := f.type) (.inr (.inr hu))
      simp only [Op.eqFields, hname, ne_eq, not_false_eq_true, if_true, Sem.run_bind, run_part_plain w hp gx, run_part_plain w hp gy, Result.andThen_ok, run_equalIn_bool w d _ _ _ hu]
      rw [← h]
      by_cases e : s1 = s2
      · simp [e, ih r' hr]
      · simp [e]
    · simp at h
  · simp at h
theorem binA_run (fs : FS w a E H β T B G) {op : BinOp} {t : TypeId} {x y : Operand} {u v r : AVal} {cu cv : Value} (h : binA P op t u v = some (true, r)) (hu : RepT w E H β u cu) (hv : RepT w E H β v cv) :
 ∃ c, (do eqGuard op t x y cu cv; binOp op t cu cv : Sem Value).run P w = .ok c w ∧ RepT w E H β r c := by
 unfold binA at h
 split at h
 · rename_i k p k' q
   obtain rfl := repT_int hu
   obtain rfl := repT_int hv
   have hg : (eqGuard op t x y (.int k p) (.int k' q)).run P w = .ok () w := by
    unfold eqGuard; split <;> simp
   split at h
   · obtain ⟨c, h1, h2⟩ := shiftA_run (P := P) (k' := k') h w t
     exact ⟨c, by simp [hg, h1], h2 _ _ _⟩
   · obtain ⟨c, h1, h2⟩ := shiftA_run (P := P) (k' := k') h w t
     exact ⟨c, by simp [hg, h1], h2 _ _ _⟩
   · split at h
     · rename_i hk
       subst hk
       obtain ⟨c, h1, h2⟩ := intBin_run (P := P) h w t
       exact ⟨c, by simp [hg, h1], h2 _ _ _⟩
     · simp at h
 · rename_i s1 s2
   obtain ⟨b1, rfl, e1⟩ := repT_str hu
   obtain ⟨b2, rfl, e2⟩ := repT_str hv
   subst e1; subst e2
   have hg : (eqGuard op t x y (.string b1) (.string b2)).run P w = .ok () w := by
    unfold eqGuard; split <;> simp
   obtain ⟨c, h1, h2⟩ := strBin_run (P := P) h w t
   exact ⟨c, by simp [hg, h1], h2 _ _ _⟩
 · rename_i p q
   obtain rfl := repT_bool hu
   obtain rfl := repT_bool hv
   have hg : (eqGuard op t x y (.bool p) (.bool q)).run P w = .ok () w := by
    unfold eqGuard; split <;> simp
   split at h
   · rename_i ht
     simp only [sJ, Prod.mk.injEq, true_and] at h
     subst h
     have he : (Op.equal t (.bool p) (.bool q)).run P w = .ok (p == q) w := run_equalIn_bool w 9999 t p q ht
     exact ⟨.bool (p == q), by simp only [Sem.run_bind, hg, Result.andThen_ok, binOp, he, Sem.run_pure], .bool _⟩
   · rename_i ht
     simp only [sJ, Prod.mk.injEq, true_and] at h
     subst h
     have he : (Op.equal t (.bool p) (.bool q)).run P w = .ok (p == q) w := run_equalIn_bool w 9999 t p q ht
     exact ⟨.bool (!(p == q)), by simp only [Sem.run_bind, hg, Result.andThen_ok, binOp, he, Sem.run_pure], .bool _⟩
   · simp at h
 · rename_i xs ys
   obtain ⟨cx, rfl, lx, hx⟩ := rep_agg (noTmp_of hu (by simp))
   obtain ⟨cy, rfl, ly, hy⟩ := rep_agg (noTmp_of hv (by simp))
   have key : ∀ r', structEq P t xs ys = some r' → (op = .eql ∨ op = .neq) → (Op.equal t (.agg cx.toArray) (.agg cy.toArray)).run P w = .ok r' w ∧ (eqGuard op t x y (.agg cx.toArray) (.agg cy.toArray)).run P w = .ok () w := by
    intro r' hr hop
    unfold structEq at hr
    split at hr
    · rename_i fields ht
      split at hr
      · rename_i hc
        obtain ⟨hc1, hc2⟩ := hc
        have hfo : P.fieldsOf t = fields := by simp [Program.fieldsOf, ht]
        have hrun := fieldsEq_run 9998 (P := P) (w := w) (E := E) (H := H) fields.toList 0 xs ys cx cy r' hr (fun j hj => by simpa using ⟨(hx j hj).2, by omega⟩) (fun j hj => by simpa using ⟨(hy j hj).2, by omega⟩)
        refine ⟨?_, ?_⟩
        · have := run_equalIn_struct (P := P) w 9999 t cx.toArray cy.toArray (by rw [hfo]; exact ht) hc1
          rw [hfo] at this
          exact this.trans hrun
        · rcases hop with rfl | rfl <;> simp [eqGuard, hc2]
      · simp at hr
    · simp at hr
   split at h
   · rename_i r' hr
     simp only [sJ, Prod.mk.injEq, true_and] at h
     subst h
     obtain ⟨k1, k2⟩ := key _ hr (.inl rfl)
     exact ⟨.bool r', by simp only [Sem.run_bind, k2, Result.andThen_ok, binOp, k1, Sem.run_pure], .bool _⟩
   · rename_i r' hr
     simp only [sJ, Prod.mk.injEq, true_and] at h
     subst h
     obtain ⟨k1, k2⟩ := key _ hr (.inr rfl)
     exact ⟨.bool (!r'), by simp only [Sem.run_bind, k2, Result.andThen_ok, binOp, k1, Sem.run_pure], .bool _⟩
   · simp at h
 · simp at h
theorem step_bin (fs : FS w a E H β T B G) {op : BinOp} {t u : TypeId} {x y : Operand} (hv : okTmps G (mkO dst (.binOp op t x y u) type pos after guard)) (h : val B H (binA P op t (aeval T x) (aeval T y)) = some r) (hok : r.ok = true) :
 Sound P w a E H β T G (mkO dst (.binOp op t x y u) type pos after guard) r := by
 obtain ⟨ok, v, h1, rfl⟩ := val_some h
 simp only at hok; subst hok
 obtain ⟨c, hr, hrep⟩ := binA_run (x := x) (y := y) fs h1 (okTmps_rep fs hv (x := x) (by simp [Op.operands])) (okTmps_rep fs hv (x := y) (by simp [Op.operands]))
 refine Sound.pure fs (c := c) ?_ hrep
 simp only [execOp, Sem.run_bind] at hr ⊢
 rw [hr]; simp
theorem equal_sliceNil {t e : TypeId} (hu : P.underlying t = some (.slice e)) (a : Option Addr) (n cap : Nat) : (Op.equal t (.slice a n cap) (.slice none 0 0)).run P w = .ok a.isNone w := by
 have e1 : Op.equal t (.slice a n cap) (.slice none 0 0) = Op.equalIn (9999 + 1) t (.slice a n cap) (.slice none 0 0) := rfl
 rw [e1]
 unfold Op.equalIn
 cases a <;> simp [run_underlying hu]
theorem equal_ptrNil {t e : TypeId} (hu : P.underlying t = some (.pointer e)) (a : Option Addr) : (Op.equal t (.pointer a) (.pointer none)).run P w = .ok a.isNone w := by
 have e1 : Op.equal t (.pointer a) (.pointer none) = Op.equalIn (9999 + 1) t (.pointer a) (.pointer none) := rfl
 rw [e1]
 unfold Op.equalIn
 cases a <;> simp [run_underlying hu]
theorem nilOf_rep {x : AVal} {c : Value} {b : Bool} (h : nilOf x = some b) (r : RepT w E H β x c) : ∃ a n cap, c = .slice a n cap ∧ a.isNone = b := by
 unfold nilOf at h
 split at h
 · simp only [sJ] at h; subst h
   have := noTmp_of r (by simp)
   cases this with | pure _ _ h => cases h; exact ⟨_, _, _, rfl, rfl⟩
 · simp only [sJ] at h; subst h
   have := noTmp_of r (by simp)
   cases this with | pure _ _ h => cases h; exact ⟨_, _, _, rfl, rfl⟩
 · simp only [sJ] at h; subst h
   have := noTmp_of r (by simp)
   cases this with | pure _ _ h => cases h; exact ⟨_, _, _, rfl, rfl⟩
 · simp only [sJ] at h; subst h
   obtain ⟨a, cap, rfl, _, _, hc⟩ := rep_list (noTmp_of r (by simp))
   obtain ⟨blk, off, sz, cs, rfl, _⟩ := hc (by omega)
   exact ⟨_, _, _, rfl, rfl⟩
 · simp at h
theorem nilPOf_rep {x : AVal} {c : Value} {b : Bool} (h : nilPOf x = some b) (r : RepT w E H β x c) : ∃ a, c = .pointer a ∧ a.isNone = b := by
 unfold nilPOf at h
 split at h
 · simp only [sJ] at h; subst h
   have := noTmp_of r (by simp)
   cases this with | pure _ _ h => cases h; exact ⟨_, rfl, rfl⟩
 · rename_i o off
   simp only [sJ] at h; subst h
   cases o with
   | tmp t => obtain ⟨b, rfl, _⟩ := repT_ptr r; exact ⟨_, rfl, rfl⟩
   | hp k =>
    obtain ⟨rfl, _⟩ := rep_ptrH (noTmp_of r (by simp))
    exact ⟨_, rfl, rfl⟩
 · simp at h
theorem step_nil (fs : FS w a E H β T B G) {op : BinOp} {t u : TypeId} {x y : Operand} {b : Bool} (hv : okTmps G (mkO dst (.binOp op t x y u) type pos after guard)) (hb : nilCmp P op t y (aeval T x) = some b) (h : val1 B H (some (.bool b)) = some r) :
 Sound P w a E H β T G (mkO dst (.binOp op t x y u) type pos after guard) r := by
 obtain ⟨v, h1, rfl⟩ := val1_some h
 simp only [sJ] at h1
 subst h1
 have rx := okTmps_rep fs hv (x := x) (by simp [Op.operands])
 generalize aeval T x = xv at *
 have key : ∀ (cx cy : Value) (q : Bool), a.eval x = cx → a.eval y = cy → (∀ p z, op = .eql ∨ op = .neq → (eqGuard op t p z cx cy).run P w = .ok () w) → ((binOp .eql t cx cy).run P w = .ok (.bool q) w ∧ (binOp .neq t cx cy).run P w = .ok (.bool (!q)) w) → (op = .eql ∧ b = q ∨ op = .neq ∧ b = !q) → Sound P w a E H β T G (mkO dst (.binOp op t x y u) type pos after guard) ⟨true, .bool b, B, H⟩ := by
  intro cx cy q hx hy hg he hop
  refine Sound.pure fs (c := .bool b) ?_ (.bool _)
  simp only [execOp, hx, hy]
  rcases hop with ⟨rfl, rfl⟩ | ⟨rfl, rfl⟩
  · simp only [Sem.run_bind, hg _ _ (.inl rfl), Result.andThen_ok, he.1, Sem.run_pure]
  · simp only [Sem.run_bind, hg _ _ (.inr rfl), Result.andThen_ok, he.2, Sem.run_pure]
 unfold nilCmp at hb
 split at hb
 all_goals first | (simp at hb; done) | skip
 all_goals
  rename_i q hq
  simp only [sJ] at hb
  split at hq
  · split at hq
    · rename_i e hu
      obtain ⟨ad, n, cap, hc, hn⟩ := nilOf_rep hq rx
      have he := equal_sliceNil (w := w) hu ad n cap
      rw [hn] at he
      refine key (.slice ad n cap) (.slice none 0 0) q hc rfl (fun p z ho => ?_) ⟨by simp only [binOp, Sem.run_bind, he, Result.andThen_ok, Sem.run_pure], by simp only [binOp, Sem.run_bind, he, Result.andThen_ok, Sem.run_pure]⟩ (by simp [hb])
      rcases ho with ho | ho <;> first | (cases ho; done) | (simp [eqGuard, Program.eqGuardType, hu])
    · simp at hq
  · split at hq
    · rename_i e hu
      obtain ⟨ad, hc, hn⟩ := nilPOf_rep hq rx
      have he := equal_ptrNil (w := w) hu ad
      rw [hn] at he
      refine key (.pointer ad) (.pointer none) q hc rfl (fun p z ho => ?_) ⟨by simp only [binOp, Sem.run_bind, he, Result.andThen_ok, Sem.run_pure], by simp only [binOp, Sem.run_bind, he, Result.andThen_ok, Sem.run_pure]⟩ (by simp [hb])
      rcases ho with ho | ho <;> first | (cases ho; done) | (simp [eqGuard, Program.eqGuardType, hu])
    · simp at hq
  · simp at hq
theorem step_same (fs : FS w a E H β T B G) {op : BinOp} {t u : TypeId} {x y : Operand} {b : Bool} (hv : okTmps G (mkO dst (.binOp op t x y u) type pos after guard)) (hb : ptrSame P op t (aeval T x) (aeval T y) = some b) (h : val1 B H (some (.bool b)) = some r) :
 Sound P w a E H β T G (mkO dst (.binOp op t x y u) type pos after guard) r := by
 obtain ⟨v, h1, rfl⟩ := val1_some h
 simp only [sJ] at h1
 subst h1
 have rx := okTmps_rep fs hv (x := x) (by simp [Op.operands])
 have ry := okTmps_rep fs hv (x := y) (by simp [Op.operands])
 generalize aeval T x = xv at *
 generalize aeval T y = yv at *
 unfold ptrSame at hb
 split at hb
 · rename_i i o j o'
   split at hb
   · rename_i hij
     obtain ⟨rfl, rfl⟩ := hij
     split at hb
     · rename_i te hu
       obtain ⟨ex, _⟩ := rep_ptrH (noTmp_of rx (by simp))
       obtain ⟨ey, _⟩ := rep_ptrH (noTmp_of ry (by simp))
       split at hb
       · rename_i jn hj
         simp only [sJ] at hb
         subst hb
         refine Sound.pure fs (c := .bool true) ?_ (.bool _)
         simp only [execOp, ex, ey]
         have hg : ∀ p z, (eqGuard .eql t p z (.pointer (some ⟨E.φ i, o, none⟩)) (.pointer (some ⟨E.φ i, o, none⟩))).run P w = .ok () w := fun p z => by simp [eqGuard, Program.eqGuardType, hu]
         simp only [Sem.run_bind, hg, Result.andThen_ok, run_eql_ptr_same (w := w) ⟨E.φ i, o, none⟩ hu hj, Sem.run_pure]
       · rename_i jn hj
         simp only [sJ] at hb
         subst hb
         refine Sound.pure fs (c := .bool false) ?_ (.bool _)
         simp only [execOp, ex, ey]
         have hg : ∀ p z, (eqGuard .neq t p z (.pointer (some ⟨E.φ i, o, none⟩)) (.pointer (some ⟨E.φ i, o, none⟩))).run P w = .ok () w := fun p z => by simp [eqGuard, Program.eqGuardType, hu]
         simp only [Sem.run_bind, hg, Result.andThen_ok, Lib.run_neq_ptr_same (w := w) ⟨E.φ i, o, none⟩ hu hj, Sem.run_pure]
       · simp at hb
     · simp at hb
   · simp at hb
 · simp at hb
theorem step_un (fs : FS w a E H β T B G) {op : UnOp} {t : TypeId} {x : Operand} (hv : okTmps G (mkO dst (.unOp op t x) type pos after guard)) (h : val1 B H (unA op (aeval T x)) = some r) :
 Sound P w a E H β T G (mkO dst (.unOp op t x) type pos after guard) r := by
 obtain ⟨v, h1, rfl⟩ := val1_some h
 have hx := okTmps_rep fs hv (x := x) (by simp [Op.operands])
 unfold unA at h1
 split at h1
 · rename_i b hb
   rw [hb] at hx
   have e := repT_bool hx
   simp only [sJ] at h1; subst h1
   exact Sound.pure fs (c := .bool (!b)) (by simp [execOp, e, Op.unary]) (.bool _)
 · rename_i k n hb
   rw [hb] at hx
   have e := repT_int hx
   simp only [sJ] at h1; subst h1
   exact Sound.pure fs (c := .int k (k.wrap (0 - n))) (by simp [execOp, e, Op.unary, Op.intArith]) (.int _ _)
 · simp at h1
theorem elemT_some {t e : TypeId} (h : elemT P t = some e) : P.underlying t = some (.slice e) := by
 unfold elemT at h
 split at h
 · rename_i e' he; simp only [sJ] at h; subst h; exact he
 · simp at h
theorem step_field (fs : FS w a E H β T B G) {t : TypeId} {x : Operand} {f : Nat} (hv : okTmps G (mkO dst (.fieldAddr t x f) type pos after guard)) (h : val B H (fieldAddrA P H t (aeval T x) f) = some r) (hok : r.ok = true) :
 Sound P w a E H β T G (mkO dst (.fieldAddr t x f) type pos after guard) r := by
 obtain ⟨ok, v, h1, rfl⟩ := val_some h
 have hx := okTmps_rep fs hv (x := x) (by simp [Op.operands])
 unfold fieldAddrA at h1
 split at h1
 · rename_i o' ft hf
   unfold fieldOff at hf
   split at hf
   · rename_i fields hu
     split at hf
     · rename_i fd hfd
       split at hf
       · simp at hf
       · rename_i n hn hsz
         simp only [sJ, Prod.mk.injEq] at hf
         obtain ⟨rfl, rfl⟩ := hf
         have hn0 : n ≠ 0 := fun e => hn (by rw [e])
         have hrun : ∀ b off, (Instr.fieldAt t (.pointer (some ⟨b, off, none⟩)) f).run P w = .ok (.pointer (some ⟨b, off + fd.offset, none⟩)) w := by
          intro b off
          simp [Instr.fieldAt, run_underlying hu, hfd, Instr.sureAddr, fieldPlace, run_sizeT hsz, hn0, addr_add]
         split at h1
         · rename_i q off hq
           rw [hq] at hx
           simp only [sJ, Prod.mk.injEq] at h1
           obtain ⟨rfl, rfl⟩ := h1
           cases q with
           | tmp u =>
            obtain ⟨b, e, hb⟩ := repT_ptr hx
            exact Sound.pure fs (c := .pointer (some ⟨b, off + fd.offset, none⟩)) (by simp [execOp, e, hrun]) (.box _ _ _ hb)
           | hp k =>
            obtain ⟨e, hb⟩ := rep_ptrH (noTmp_of hx (by simp))
            exact Sound.pure fs (c := .pointer (some ⟨E.φ k, off + fd.offset, none⟩)) (by simp [execOp, e, hrun]) (.val _ _ (.ptrH _ _ hb))
         · rename_i k ver i off hq
           rw [hq] at hx
           split at h1
           case h_2 => simp at h1
           rename_i sz0 rows0 u0 hk
           simp only [sJ, Prod.mk.injEq] at h1
           obtain ⟨rfl, rfl⟩ := h1
           simp only [beq_iff_eq] at hok
           subst hok
           obtain ⟨p, sz, u, e, ha, hle, hp⟩ := rep_eptr (noTmp_of hx (by simp))
           obtain ⟨hc, rfl⟩ := hp (by rw [arr_of_get hk] at ha; simp only [sJ, Prod.mk.injEq] at ha; exact ha.2)
           exact Sound.pure fs (c := .pointer (some ⟨E.φ k, i * sz + off + fd.offset, none⟩)) (by simp [execOp, e, hrun])
            (.val _ _ (.eptr _ _ _ _ _ sz u ha hle (fun _ => ⟨hc, by rw [Nat.add_assoc]⟩)))
         · rename_i cs hq
           rw [hq] at hx
           simp only [sJ, Prod.mk.injEq] at h1
           obtain ⟨rfl, rfl⟩ := h1
           obtain ⟨blk, off, f', e, hi, h2, h3⟩ := rep_rptr (noTmp_of hx (by simp))
           refine Sound.pure fs (c := .pointer (some ⟨blk, off + fd.offset, none⟩)) (by simp [execOp, e, hrun]) (.val _ _ (.pure _ _ (.rptr _ blk _ (fun j => f' (fd.offset + j)) hi (fun j hj => ?_) (fun j hj => ?_))))
           · simp only [List.length_drop] at hj
             have := h2 (fd.offset + j) (by omega)
             rw [show off + fd.offset + j = off + (fd.offset + j) by omega]; exact this
           · simp only [List.length_drop] at hj
             have := h3 (fd.offset + j) (by omega)
             simpa [gQ] using this
         · simp at h1
       · simp at hf
     · simp at hf
   · simp at hf
 · simp at h1
end Go.Mu
namespace Go.Mu
open Go
variable {P : Program} {fh : FH} {w w' : World} {a : Act} {E E' : Env} {H H' : Heap} {β : Nat → Option Nat} {T : Vs} {B : Boxes} {G : Tags}
 {dst : Option Nat} {type : TypeId} {pos : String} {after : Array Edge} {guard : Option (Nat × Bool)} {r : SR}
theorem step_idx (fs : FS w a E H β T B G) {t : TypeId} {x i : Operand} (hv : okTmps G (mkO dst (.indexAddr t x i) type pos after guard)) (h : val B H (idxA P H t (aeval T x) (aeval T i)) = some r) (hok : r.ok = true) :
 Sound P w a E H β T G (mkO dst (.indexAddr t x i) type pos after guard) r := by
 obtain ⟨ok, v, h1, rfl⟩ := val_some h
 simp only at hok; subst hok
 have hx := okTmps_rep fs hv (x := x) (by simp [Op.operands])
 have hi := okTmps_rep fs hv (x := i) (by simp [Op.operands])
 unfold idxA at h1
 split at h1
 · rename_i e k n he hn
   rw [hn] at hi
   have ei := repT_int hi
   have hu := elemT_some he
   split at h1
   · rename_i full m row hm
     rw [hm] at hx
     simp only [sJ, Prod.mk.injEq, Bool.and_eq_true, decide_eq_true_eq] at h1
     obtain ⟨⟨⟨hsz, h0⟩, hlt⟩, rfl⟩ := h1
     obtain ⟨ad, cap, ex, hc, hf, hrow⟩ := rep_list (noTmp_of hx (by simp))
     have hm0 : m ≠ 0 := by omega
     obtain ⟨blk, off, sz, cs, rfl, himm, hl, hcell, hrep⟩ := hrow hm0
     have hsz' : sizeT P e = some sz := by rw [← hsz, hl 0 (by omega)]
     refine Sound.pure fs (c := .pointer (some ⟨blk, off + n.toNat * sz, none⟩)) ?_ (.val _ _ (.pure _ _ (.rptr _ blk _ (fun j => cs n.toNat j) himm (fun j hj => ?_) (fun j hj => ?_))))
     · simp only [execOp, Instr.indexAt, ex, ei, asIntOf, Sem.run_bind, Sem.run_pure, Result.andThen_ok, run_underlying hu, run_sizeT hsz']
       rw [Sem.run_ite, if_pos ⟨h0, hlt⟩]
       simp [run_sizeT hsz', addr_add]
     · rw [hl n.toNat (by omega)] at hj
       exact hcell n.toNat j (by omega) hj
     · rw [hl n.toNat (by omega)] at hj
       exact hrep n.toNat j (by omega) hj
   · rename_i k' off len ver clip hm
     rw [hm] at hx
     split at h1
     · rename_i sz rows u hk
       simp only [sJ, Prod.mk.injEq, Bool.and_eq_true, decide_eq_true_eq, beq_iff_eq] at h1
       obtain ⟨⟨⟨⟨hsz, hvu⟩, h0⟩, hlt⟩, rfl⟩ := h1
       obtain ⟨ad, cap, sz', u', ex, ha, hle, hsh⟩ := rep_own (noTmp_of hx (by simp))
       have ha' := ha
       rw [arr_of_get hk] at ha
       simp only [sJ, Prod.mk.injEq] at ha
       obtain ⟨rfl, rfl⟩ := ha
       obtain ⟨s1, s2, s3, s4, s5⟩ := hsh hvu.symm
       have hcap : E.cap k' ≠ 0 := by omega
       have had := s5 hcap (.inl (by omega))
       subst had
       refine Sound.pure fs (c := .pointer (some ⟨E.φ k', (off + n.toNat) * sz, none⟩)) ?_ (.val _ _ (.eptr _ _ _ _ _ sz u ha' hle (fun _ => ⟨hcap, rfl⟩)))
       simp only [execOp, Instr.indexAt, ex, ei, asIntOf, Sem.run_bind, Sem.run_pure, Result.andThen_ok, run_underlying hu]
       rw [Sem.run_ite, if_pos ⟨h0, hlt⟩]
       simp [run_sizeT hsz.symm, addr_add, Nat.add_mul]
     · simp at h1
   · simp at h1
 · rename_i k n he hn
   rw [hn] at hi
   have ei := repT_int hi
   split at h1
   · rename_i len e q off hu hq
     split at h1
     · rename_i sz hsz
       rw [hq] at hx
       simp only [sJ, Prod.mk.injEq, Bool.and_eq_true, decide_eq_true_eq] at h1
       obtain ⟨⟨h0, hlt⟩, rfl⟩ := h1
       have hrun : ∀ b off, a.eval x = .pointer (some ⟨b, off, none⟩) → (execOp a.eval (mkO dst (.indexAddr t x i) type pos after guard)).run P w = .ok (.value (.pointer (some ⟨b, off + n.toNat * sz, none⟩))) w := by
        intro b off hb
        simp only [execOp, Instr.indexAt, hb, ei, asIntOf, Instr.sureAddr, Sem.run_bind, Sem.run_pure, Result.andThen_ok, run_underlying hu]
        rw [Sem.run_ite, if_pos ⟨h0, hlt⟩]
        simp [run_sizeT hsz, addr_add]
       cases q with
       | tmp u =>
        obtain ⟨b, e', hb⟩ := repT_ptr hx
        exact Sound.pure fs (c := .pointer (some ⟨b, off + n.toNat * sz, none⟩)) (hrun b off e') (.box _ _ _ hb)
       | hp k' =>
        obtain ⟨e', hv'⟩ := rep_ptrH (noTmp_of hx (by simp))
        exact Sound.pure fs (c := .pointer (some ⟨E.φ k', off + n.toNat * sz, none⟩)) (hrun _ off e') (.val _ _ (.ptrH _ _ hv'))
     · simp at h1
   · rename_i len e k' ver hu hq
     split at h1
     · rename_i sz rows u hk
       rw [hq] at hx
       simp only [sJ, Prod.mk.injEq, Bool.and_eq_true, decide_eq_true_eq, beq_iff_eq] at h1
       obtain ⟨⟨⟨⟨hsz, hvu⟩, h0⟩, hlt⟩, rfl⟩ := h1
       obtain ⟨p, sz', u', ex, ha, hle, hp⟩ := rep_eptr (noTmp_of hx (by simp))
       have ha' := ha
       rw [arr_of_get hk] at ha
       simp only [sJ, Prod.mk.injEq] at ha
       obtain ⟨rfl, rfl⟩ := ha
       obtain ⟨hcap, rfl⟩ := hp hvu.symm
       refine Sound.pure fs (c := .pointer (some ⟨E.φ k', n.toNat * sz + 0, none⟩)) ?_ (.val _ _ (.eptr _ _ _ _ _ sz u ha' hle (fun _ => ⟨hcap, rfl⟩)))
       simp only [execOp, Instr.indexAt, ex, ei, asIntOf, Instr.sureAddr, Sem.run_bind, Sem.run_pure, Result.andThen_ok, run_underlying hu]
       rw [Sem.run_ite, if_pos ⟨h0, hlt⟩]
       simp [run_sizeT hsz.symm, addr_add]
     · simp at h1
   · simp at h1
 · simp at h1
theorem bound_run {x : Value} {k : IntKind} {n : Int} {y : Nat} {code : BoundsCode} (hx : x = .int k n) (h0 : 0 ≤ n) (h1 : n ≤ y) (w : World) : (Instr.sliceBound x y code).run P w = .ok n.toNat w := by
 subst hx
 simp only [Instr.sliceBound, asIntOf, Sem.run_bind, Sem.run_pure, Result.andThen_ok]
 rw [Sem.run_ite, if_pos ⟨h0, h1⟩]; rfl
theorem bounds_run {isSl : Bool} {len cap : Nat} {lo hi : Option Value} {l h : Int} (hl : ∀ v, lo = some v → ∃ k, v = .int k l) (hl' : lo = none → l = 0) (hh : ∀ v, hi = some v → ∃ k, v = .int k h) (hh' : hi = none → h = len)
 (h0 : 0 ≤ l) (h1 : l ≤ h) (h2 : h ≤ len) (hc : len ≤ cap) (w : World) : (Instr.sliceBounds isSl len cap lo hi none).run P w = .ok (l.toNat, h.toNat, cap) w := by
 cases lo with
 | none =>
  have e := hl' rfl
  subst e
  cases hi with
  | none =>
   have e := hh' rfl
   subst e
   simp [Instr.sliceBounds]
  | some v =>
   obtain ⟨k, rfl⟩ := hh v rfl
   simp [Instr.sliceBounds, bound_run (P := P) (k := k) (n := h) (y := cap) rfl (by omega) (by omega)]
 | some u =>
  obtain ⟨k', rfl⟩ := hl u rfl
  cases hi with
  | none =>
   have e := hh' rfl
   subst e
   simp [Instr.sliceBounds, bound_run (P := P) (k := k') (n := l) (y := len) rfl h0 h1]
  | some v =>
   obtain ⟨k, rfl⟩ := hh v rfl
   simp [Instr.sliceBounds, bound_run (P := P) (k := k) (n := h) (y := cap) rfl (by omega) (by omega), bound_run (P := P) (k := k') (n := l) (y := h.toNat) rfl h0 (by omega)]
theorem bounds_run3 {len cap : Nat} {lo : Option Value} {hi mx : Value} {l h m : Int} (hl : ∀ v, lo = some v → ∃ k, v = .int k l) (hl' : lo = none → l = 0) (hh : ∃ k, hi = .int k h) (hm : ∃ k, mx = .int k m)
 (h0 : 0 ≤ l) (h1 : l ≤ h) (h2 : h ≤ m) (hc : m ≤ cap) (w : World) : (Instr.sliceBounds true len cap lo (some hi) (some mx)).run P w = .ok (l.toNat, h.toNat, m.toNat) w := by
 obtain ⟨k1, rfl⟩ := hh
 obtain ⟨k2, rfl⟩ := hm
 cases lo with
 | none =>
  have e := hl' rfl
  subst e
  simp [Instr.sliceBounds, bound_run (P := P) (k := k2) (n := m) (y := cap) rfl (by omega) (by omega), bound_run (P := P) (k := k1) (n := h) (y := m.toNat) rfl (by omega) (by omega)]
 | some u =>
  obtain ⟨k', rfl⟩ := hl u rfl
  simp [Instr.sliceBounds, bound_run (P := P) (k := k2) (n := m) (y := cap) rfl (by omega) (by omega), bound_run (P := P) (k := k1) (n := h) (y := m.toNat) rfl (by omega) (by omega), bound_run (P := P) (k := k') (n := l) (y := h.toNat) rfl h0 (by omega)]
theorem isIntV_rep {v : AVal} {c : Value} (h : isIntV v = true) (hr : RepT w E H β v c) : ∃ k, c = .int k (intOf v) := by
 cases v <;> simp [isIntV] at h
 exact ⟨_, repT_int hr⟩
theorem lo_ok {lo : Option Operand} (h : isIntO (lo.map (aeval T)) = true) (hr : ∀ x, lo = some x → RepT w E H β (aeval T x) (a.eval x)) :
 (∀ v, lo.map a.eval = some v → ∃ k, v = .int k (lowOf (lo.map (aeval T)))) ∧ (lo.map a.eval = none → lowOf (lo.map (aeval T)) = 0) := by
 cases lo with
 | none => exact ⟨fun v e => by simp at e, fun _ => rfl⟩
 | some x =>
  refine ⟨fun v e => ?_, fun e => by simp at e⟩
  simp only [Option.map_some, sJ] at e
  subst e
  exact isIntV_rep (by simpa [isIntO] using h) (hr x rfl)
theorem hi_ok {hi : Option Operand} {n : Nat} (h : isIntO (hi.map (aeval T)) = true) (hr : ∀ x, hi = some x → RepT w E H β (aeval T x) (a.eval x)) :
 (∀ v, hi.map a.eval = some v → ∃ k, v = .int k (highOf (hi.map (aeval T)) n)) ∧ (hi.map a.eval = none → highOf (hi.map (aeval T)) n = n) := by
 cases hi with
 | none => exact ⟨fun v e => by simp at e, fun _ => rfl⟩
 | some x =>
  refine ⟨fun v e => ?_, fun e => by simp at e⟩
  simp only [Option.map_some, sJ] at e
  subst e
  exact isIntV_rep (by simpa [isIntO] using h) (hr x rfl)
theorem extract_list (b : _root_.ByteArray) (l h : Nat) : (b.extract l h).data.toList = (b.data.toList.take h).drop l := by
 simp [List.drop_take]
theorem step_slice (fs : FS w a E H β T B G) {t : TypeId} {x : Operand} {lo hi mx : Option Operand} (hv : okTmps G (mkO dst (.slice t x lo hi mx) type pos after guard))
 (h : val B H (sliceA P H t (aeval T x) (lo.map (aeval T)) (hi.map (aeval T)) (mx.map (aeval T))) = some r) (hok : r.ok = true) :
 Sound P w a E H β T G (mkO dst (.slice t x lo hi mx) type pos after guard) r := by
 obtain ⟨ok, v, h1, rfl⟩ := val_some h
 simp only at hok; subst hok
 have hx := okTmps_rep fs hv (x := x) (by simp [Op.operands])
 have rlo : ∀ y, lo = some y → RepT w E H β (aeval T y) (a.eval y) := fun y e => okTmps_rep fs hv (by subst e; simp [Op.operands])
 have rhi : ∀ y, hi = some y → RepT w E H β (aeval T y) (a.eval y) := fun y e => okTmps_rep fs hv (by subst e; simp [Op.operands])
 have rmx : ∀ y, mx = some y → RepT w E H β (aeval T y) (a.eval y) := fun y e => okTmps_rep fs hv (by subst e; simp [Op.operands])
 unfold sliceA at h1
 simp only at h1
 generalize hL : lowOf (lo.map (aeval T)) = l at *
 split at h1
 · -- a string
   rename_i s hu hs
   rw [hs] at hx
   obtain ⟨b, ex, hb⟩ := repT_str hx
   split at h1
   · simp at h1
   · rename_i hmx
     simp only [sJ, Prod.mk.injEq, Bool.and_eq_true, decide_eq_true_eq] at h1
     obtain ⟨⟨⟨⟨⟨⟨q1, q2⟩, q3⟩, h0⟩, hle⟩, hn⟩, rfl⟩ := h1
     have e0 : mx = none := by cases mx with | none => rfl | some _ => simp at hmx
     subst e0
     obtain ⟨l1, l2⟩ := lo_ok q1 rlo
     obtain ⟨g1, g2⟩ := hi_ok (n := s.length) q2 rhi
     rw [hL] at l1 l2
     have hsz : b.size = s.length := by rw [size_eq, hb]
     have := bounds_run (P := P) (isSl := false) (len := s.length) (cap := s.length) l1 l2 g1 g2 h0 hle hn (Nat.le_refl _) w
     refine Sound.pure fs (c := .string (b.extract l.toNat (highOf (hi.map (aeval T)) s.length).toNat)) ?_ (.str' ?_)
     · simp only [execOp, Instr.sliceAt, Sem.run_bind, run_underlying hu, Result.andThen_ok, ex, Instr.slice]
       simp [this, hsz]
     · rw [extract_list, hb]
 · -- plain data
   rename_i e full n row hu hs
   rw [hs] at hx
   obtain ⟨ad, cap, ex, hc, hf, hrow⟩ := rep_list (noTmp_of hx (by simp))
   split at h1
   · rename_i m0 hmx
     simp only [sJ, Prod.mk.injEq, Bool.and_eq_true, decide_eq_true_eq, Bool.or_eq_true, beq_iff_eq] at h1
     obtain ⟨⟨⟨⟨⟨⟨⟨⟨⟨q1, q2⟩, q3⟩, hz⟩, hsome⟩, h0⟩, hle⟩, hm⟩, hn⟩, rfl⟩ := h1
     obtain ⟨l1, l2⟩ := lo_ok q1 rlo
     rw [hL] at l1 l2
     cases mx with
     | none => simp at hmx
     | some mo =>
     cases hi with
     | none => simp at hsome
     | some ho =>
     simp only [Option.map_some, sJ] at hmx
     subst hmx
     obtain ⟨k1, e1⟩ := isIntV_rep (by simpa [isIntO] using q2) (rhi ho rfl)
     obtain ⟨k2, e2⟩ := isIntV_rep (by simpa [isIntO] using q3) (rmx mo rfl)
     simp only [Option.map_some, highOf] at *
     generalize intOf (aeval T ho) = hh at *
     generalize intOf (aeval T mo) = mm at *
     have hb := bounds_run3 (P := P) (len := n) (cap := cap) l1 l2 ⟨k1, e1⟩ ⟨k2, e2⟩ h0 hle hm (by omega) w
     obtain ⟨sz, hsz⟩ : ∃ sz, sizeT P e = some sz := by
      rcases hz with hz | ⟨_, hz⟩
      · exact ⟨_, hz.symm⟩
      · exact Option.isSome_iff_exists.1 hz
     refine Sound.pure fs (c := .slice (if mm.toNat = l.toNat then ad else ad.map (·.add (l.toNat * sz))) (hh.toNat - l.toNat) (mm.toNat - l.toNat)) ?_ (.val _ _ (.pure _ _ ?_))
     · simp only [execOp, Instr.sliceAt, Sem.run_bind, run_underlying hu, Result.andThen_ok, ex, Instr.slice, Option.map_some, hb, run_sizeT hsz, Sem.run_pure]
     · rw [show (hh - l).toNat = hh.toNat - l.toNat by omega]
       by_cases hz0 : hh.toNat - l.toNat = 0
       · rw [hz0]; exact .list0 _ _ _ _ (fun hfull => by simp only [beq_iff_eq] at hfull; omega)
       · obtain ⟨blk, off, sz', cs, rfl, himm, hlen, hcell, hrep⟩ := hrow (by omega)
         have hsz' : sz' = sz := by
          rcases hz with hz | ⟨hz, _⟩
          · rw [hlen 0 (by omega)] at hz; rw [hsz] at hz; exact Option.some.inj hz
          · omega
         subst hsz'
         rw [if_neg (by omega)]
         simp only [Option.map_some, addr_add]
         refine .list _ _ _ blk (off + l.toNat * sz') _ sz' (fun i j => cs (l.toNat + i) j) (by omega) (fun hfull => by simp only [beq_iff_eq] at hfull; omega) himm (fun i hi => hlen _ (by omega)) (fun i j hi hj => ?_) (fun i j hi hj => hrep _ _ (by omega) hj)
         have := hcell (l.toNat + i) j (by omega) hj
         rw [show off + l.toNat * sz' + i * sz' + j = off + (l.toNat + i) * sz' + j by rw [Nat.add_mul]; omega]
         exact this
   · rename_i hmx
     simp only [sJ, Prod.mk.injEq, Bool.and_eq_true, decide_eq_true_eq, Bool.or_eq_true, beq_iff_eq] at h1
     obtain ⟨⟨⟨⟨⟨⟨⟨q1, q2⟩, q3⟩, hz⟩, h0⟩, hle⟩, hn⟩, rfl⟩ := h1
     have e0 : mx = none := by cases mx with | none => rfl | some _ => simp at hmx
     subst e0
     obtain ⟨l1, l2⟩ := lo_ok q1 rlo
     obtain ⟨g1, g2⟩ := hi_ok (n := n) q2 rhi
     rw [hL] at l1 l2
     generalize highOf (hi.map (aeval T)) n = hh at *
     have hb := bounds_run (P := P) (isSl := true) (len := n) (cap := cap) l1 l2 g1 g2 h0 hle hn hc w
     obtain ⟨sz, hsz⟩ : ∃ sz, sizeT P e = some sz := by
      rcases hz with hz | ⟨_, hz⟩
      · exact ⟨_, hz.symm⟩
      · exact Option.isSome_iff_exists.1 hz
     refine Sound.pure fs (c := .slice (if cap = l.toNat then ad else ad.map (·.add (l.toNat * sz))) (hh.toNat - l.toNat) (cap - l.toNat)) ?_ (.val _ _ (.pure _ _ ?_))
     · simp only [execOp, Instr.sliceAt, Sem.run_bind, run_underlying hu, Result.andThen_ok, ex, Instr.slice, Option.map_none, hb, run_sizeT hsz, Sem.run_pure]
     · rw [show (hh - l).toNat = hh.toNat - l.toNat by omega]
       by_cases hz0 : hh.toNat - l.toNat = 0
       · rw [hz0]; exact .list0 _ _ _ _ (fun hfull => by simp only [Bool.and_eq_true, beq_iff_eq] at hfull; have := hf hfull.1; omega)
       · obtain ⟨blk, off, sz', cs, rfl, himm, hlen, hcell, hrep⟩ := hrow (by omega)
         have hsz' : sz' = sz := by
          rcases hz with hz | ⟨hz, _⟩
          · rw [hlen 0 (by omega)] at hz; rw [hsz] at hz; exact Option.some.inj hz
          · omega
         subst hsz'
         rw [if_neg (by omega)]
         simp only [Option.map_some, addr_add]
         refine .list _ _ _ blk (off + l.toNat * sz') _ sz' (fun i j => cs (l.toNat + i) j) (by omega) (fun hfull => by simp only [Bool.and_eq_true, beq_iff_eq] at hfull; have := hf hfull.1; omega) himm (fun i hi => hlen _ (by omega)) (fun i j hi hj => ?_) (fun i j hi hj => hrep _ _ (by omega) hj)
         have := hcell (l.toNat + i) j (by omega) hj
         rw [show off + l.toNat * sz' + i * sz' + j = off + (l.toNat + i) * sz' + j by rw [Nat.add_mul]; omega]
         exact this
 · -- what is owned
   rename_i e k off len ver clip hu hs
   rw [hs] at hx
   obtain ⟨ad, cap, sz, u, ex, ha, hle', hsh⟩ := rep_own (noTmp_of hx (by simp))
   have hz_of : (match H[k]? with | some (.arr sz _ u) => decide (some sz = sizeT P e) && u == ver | _ => false) = true → sizeT P e = some sz ∧ ver = u := by
    intro h1
    unfold arrInfo at ha
    split at h1
    · rename_i hk
      rw [hk] at ha
      simp only [sJ, Prod.mk.injEq] at ha
      obtain ⟨rfl, rfl⟩ := ha
      simp only [Bool.and_eq_true, decide_eq_true_eq, beq_iff_eq] at h1
      exact ⟨h1.1.symm, h1.2.symm⟩
    · simp at h1
   split at h1
   · rename_i m0 hmx
     cases mx with
     | none => simp at hmx
     | some mo =>
     simp only [Option.map_some, sJ] at hmx
     subst hmx
     split at h1
     · rename_i heq
       simp only [sJ, Prod.mk.injEq, Bool.and_eq_true, decide_eq_true_eq] at h1
       obtain ⟨⟨⟨⟨⟨⟨⟨q1, q2⟩, q3⟩, hz⟩, hsome⟩, h0⟩, hn⟩, rfl⟩ := h1
       obtain ⟨hsz, hvu⟩ := hz_of hz
       obtain ⟨s1, s2, s3, s4, s5⟩ := hsh hvu
       obtain ⟨l1, l2⟩ := lo_ok q1 rlo
       rw [hL] at l1 l2
       cases hi with
       | none => simp at hsome
       | some ho =>
       obtain ⟨k1, e1⟩ := isIntV_rep (by simpa [isIntO] using q2) (rhi ho rfl)
       obtain ⟨k2, e2⟩ := isIntV_rep (by simpa [isIntO] using q3) (rmx mo rfl)
       simp only [Option.map_some, highOf] at *
       generalize intOf (aeval T ho) = hh at *
       generalize intOf (aeval T mo) = mm at *
       simp only [Bool.and_eq_true, beq_iff_eq] at heq
       obtain ⟨rfl, rfl⟩ := heq
       have hb := bounds_run3 (P := P) (len := len) (cap := cap) l1 l2 ⟨k1, e1⟩ ⟨k2, e2⟩ h0 (by omega) (by omega) (by omega) w
       refine Sound.pure fs (c := .slice ad 0 0) ?_ (.val _ _ (.pure _ _ (.list0 _ _ _ _ (fun _ => rfl))))
       simp only [execOp, Instr.sliceAt, Sem.run_bind, run_underlying hu, Result.andThen_ok, ex, Instr.slice, Option.map_some, hb, run_sizeT hsz, Sem.run_pure]
       simp
     · rename_i heq
       simp only [sJ, Prod.mk.injEq, Bool.and_eq_true, decide_eq_true_eq] at h1
       obtain ⟨⟨⟨⟨⟨⟨⟨⟨⟨q1, q2⟩, q3⟩, hz⟩, hsome⟩, h0⟩, hle⟩, hm⟩, hn⟩, rfl⟩ := h1
       obtain ⟨hsz, hvu⟩ := hz_of hz
       obtain ⟨s1, s2, s3, s4, s5⟩ := hsh hvu
       obtain ⟨l1, l2⟩ := lo_ok q1 rlo
       rw [hL] at l1 l2
       cases hi with
       | none => simp at hsome
       | some ho =>
       obtain ⟨k1, e1⟩ := isIntV_rep (by simpa [isIntO] using q2) (rhi ho rfl)
       obtain ⟨k2, e2⟩ := isIntV_rep (by simpa [isIntO] using q3) (rmx mo rfl)
       simp only [Option.map_some, highOf] at *
       generalize intOf (aeval T ho) = hh at *
       generalize intOf (aeval T mo) = mm at *
       subst hm
       simp only [Bool.and_eq_true, beq_iff_eq, and_true] at heq
       have hb := bounds_run3 (P := P) (len := len) (cap := cap) l1 l2 ⟨k1, e1⟩ ⟨k2, e2⟩ h0 hle (by omega) (by omega) w
       have had := s5 (by omega) (.inl (by omega))
       subst had
       refine Sound.pure fs (c := .slice (some ⟨E.φ k, (off + l.toNat) * sz, none⟩) (hh - l).toNat (hh.toNat - l.toNat)) ?_ (.val _ _ (.own _ _ _ _ _ _ _ sz u ha hle' (fun _ => ⟨by omega, fun _ => by omega, fun hc => by simp at hc, by omega, fun _ _ => rfl⟩)))
       simp only [execOp, Instr.sliceAt, Sem.run_bind, run_underlying hu, Result.andThen_ok, ex, Instr.slice, Option.map_some, hb, run_sizeT hsz, Sem.run_pure]
       rw [if_neg (by omega), addr_add, show hh.toNat - l.toNat = (hh - l).toNat by omega, Nat.add_mul]
   · rename_i hmx
     simp only [sJ, Prod.mk.injEq, Bool.and_eq_true, decide_eq_true_eq, Bool.or_eq_true, beq_iff_eq, Bool.not_eq_true'] at h1
     obtain ⟨⟨⟨⟨⟨⟨⟨⟨q1, q2⟩, q3⟩, hz⟩, hcl⟩, h0⟩, hle⟩, hn⟩, rfl⟩ := h1
     have e0 : mx = none := by cases mx with | none => rfl | some _ => simp at hmx
     subst e0
     obtain ⟨hsz, hvu⟩ := hz_of hz
     obtain ⟨s1, s2, s3, s4, s5⟩ := hsh hvu
     obtain ⟨l1, l2⟩ := lo_ok q1 rlo
     obtain ⟨g1, g2⟩ := hi_ok (n := len) q2 rhi
     rw [hL] at l1 l2
     generalize highOf (hi.map (aeval T)) len = hh at *
     have hb := bounds_run (P := P) (isSl := true) (len := len) (cap := cap) l1 l2 g1 g2 h0 hle hn s1 w
     refine Sound.pure fs (c := .slice (if cap = l.toNat then ad else ad.map (·.add (l.toNat * sz))) (hh - l).toNat (cap - l.toNat)) ?_ (.val _ _ (.own _ _ _ _ _ _ _ sz u ha hle' (fun _ => ⟨by omega, fun hc => ?_, fun hc h00 => ?_, by omega, fun hcap hor => ?_⟩)))
     · simp only [execOp, Instr.sliceAt, Sem.run_bind, run_underlying hu, Result.andThen_ok, ex, Instr.slice, Option.map_none, hb, run_sizeT hsz, Sem.run_pure]
       rw [show hh.toNat - l.toNat = (hh - l).toNat by omega]
     · simp only [Bool.and_eq_true, beq_iff_eq] at hc
       have := s2 hc.1; omega
     · have hcf : clip = false := by
        cases clip with
        | false => rfl
        | true => simp at hc hcl; exact absurd hcl hc
       have := s3 hcf (by omega); omega
     · rcases hor with hne | ⟨h00, hc⟩
       · have had := s5 hcap (.inl (by omega))
         subst had
         rw [if_neg (by omega)]
         simp [addr_add, Nat.add_mul]
       · have hcf : clip = false := by
          cases clip with
          | false => rfl
          | true => simp at hc hcl; exact absurd hcl hc
         have had := s5 hcap (.inr ⟨by omega, hcf⟩)
         have hl0 : l.toNat = 0 := by omega
         have ho0 : off = 0 := by omega
         subst had
         rw [hl0, ho0]
         split <;> simp [addr_add]
 · -- an array
   rename_i n e k ver hu hs
   rw [hs] at hx
   split at h1
   case h_2 => simp at h1
   rename_i sz rows u hk hmx
   have e0 : mx = none := by cases mx with | none => rfl | some _ => simp at hmx
   subst e0
   simp only [sJ, Prod.mk.injEq, Bool.and_eq_true, decide_eq_true_eq, beq_iff_eq] at h1
   obtain ⟨⟨⟨⟨⟨⟨⟨⟨⟨q1, q2⟩, q3⟩, hsz⟩, hvu⟩, hnr⟩, h0⟩, hle⟩, hn⟩, rfl⟩ := h1
   obtain ⟨p, sz', u', ex, ha, hle', hp⟩ := rep_eptr (noTmp_of hx (by simp))
   have ha' := ha
   rw [arr_of_get hk] at ha
   simp only [sJ, Prod.mk.injEq] at ha
   obtain ⟨rfl, rfl⟩ := ha
   obtain ⟨hcap, rfl⟩ := hp hvu.symm
   obtain ⟨_, hrl, _, _⟩ := fs.sim.arr k sz rows u hk
   obtain ⟨l1, l2⟩ := lo_ok q1 rlo
   obtain ⟨g1, g2⟩ := hi_ok (n := n) q2 rhi
   rw [hL] at l1 l2
   generalize highOf (hi.map (aeval T)) n = hh at *
   subst hn
   have hb := bounds_run (P := P) (isSl := false) (len := n) (cap := n) l1 l2 g1 g2 h0 hle (Int.le_refl _) (Nat.le_refl _) w
   refine Sound.pure fs (c := .slice (some (if n = l.toNat then ⟨E.φ k, 0 * sz + 0, none⟩ else (⟨E.φ k, 0 * sz + 0, none⟩ : Addr).add (l.toNat * sz))) ((n : Int) - l).toNat (n - l.toNat)) ?_ (.val _ _ (.own _ _ _ _ _ _ _ sz u ha' hle' (fun _ => ⟨by omega, fun _ => by omega, fun hc => by simp at hc, by omega, fun _ hor => ?_⟩)))
   · simp only [execOp, Instr.sliceAt, Instr.sureAddr, Sem.run_bind, run_underlying hu, Result.andThen_ok, ex, Sem.run_pure, Option.map_none, hb, run_sizeT hsz.symm]
     rw [show (n : Int).toNat - l.toNat = ((n : Int) - l).toNat by omega]
   · rcases hor with hne | ⟨_, hc⟩
     · rw [if_neg (by omega), addr_add]
       simp
     · simp at hc
 · simp at h1
end Go.Mu
namespace Go.Mu
open Go
variable {P : Program} {fh : FH} {w w' : World} {a : Act} {E E' : Env} {H H' : Heap} {β : Nat → Option Nat} {T : Vs} {B : Boxes} {G : Tags}
 {dst : Option Nat} {type : TypeId} {pos : String} {after : Array Edge} {guard : Option (Nat × Bool)} {r : SR}
theorem step_index (fs : FS w a E H β T B G) {t : TypeId} {x i : Operand} (hv : okTmps G (mkO dst (.index t x i) type pos after guard)) {s : Oc} {k : IntKind} {n : Int} (hu : P.underlying t = some .string) (hx : aeval T x = .str s) (hi : aeval T i = .int k n)
 (h0 : 0 ≤ n) (h1 : n < s.length) : Sound P w a E H β T G (mkO dst (.index t x i) type pos after guard) ⟨true, .int .u8 (s.getD n.toNat 0).toNat, B, H⟩ := by
 have rx := okTmps_rep fs hv (x := x) (by simp [Op.operands])
 have ri := okTmps_rep fs hv (x := i) (by simp [Op.operands])
 rw [hx] at rx; rw [hi] at ri
 obtain ⟨b, ex, hb⟩ := repT_str rx
 have ei := repT_int ri
 have hsz : b.size = s.length := by rw [size_eq, hb]
 refine Sound.pure fs (c := .int .u8 (s.getD n.toNat 0).toNat) ?_ (.int _ _)
 have hget : b[n.toNat]? = some (s.getD n.toNat 0) := by
  have hlt : n.toNat < b.size := by omega
  rw [getElem?_pos b n.toNat hlt]
  congr 1
  subst hb
  have hlt' : n.toNat < b.data.size := by rw [← Array.length_toList]; omega
  simp only [gQ]
  rw [List.getElem?_eq_getElem (by omega)]
  rfl
 simp only [execOp, Instr.index, ex, ei, asIntOf, Sem.run_bind, Sem.run_pure, Result.andThen_ok, run_underlying hu]
 rw [if_pos h0, hget]; rfl
theorem step_iface (fs : FS w a E H β T B G) {t : TypeId} {x : Operand} (hv : okTmps G (mkO dst (.makeInterface t x) type pos after guard)) {d : TypeDesc} (hu : P.underlying t = some d) (hd : ∀ ms, d ≠ .interface ms) (hn : noTmp (aeval T x) = true) :
 Sound P w a E H β T G (mkO dst (.makeInterface t x) type pos after guard) ⟨true, .iface t (aeval T x), B, H⟩ := by
 have rx := noTmp_rep hn (okTmps_rep fs hv (x := x) (by simp [Op.operands]))
 refine Sound.pure fs (c := .iface t (a.eval x)) ?_ (.val _ _ (.iface _ _ _ rx))
 simp only [execOp, Instr.makeInterface, Sem.run_bind, run_underlying hu, Result.andThen_ok]
 cases d <;> first | rfl | exact absurd rfl (hd _)
theorem step_func (fs : FS w a E H β T B G) {f : FuncId} {first caps : Array Operand} (hv : okTmps G (mkO dst (.makeFunc (.func f) first caps) type pos after guard)) (hf : first.size = 0) (hn : (caps.toList.map (aeval T)).all noTmp = true) :
 Sound P w a E H β T G (mkO dst (.makeFunc (.func f) first caps) type pos after guard) ⟨true, .func f (caps.toList.map (aeval T)), B, H⟩ := by
 have e0 : first = #[] := Array.eq_empty_of_size_eq_zero hf
 subst e0
 refine Sound.pure fs (c := .func (.func f) #[] (caps.toList.map a.eval).toArray) ?_ (.val _ _ (.func _ _ _ (by simp) (fun j hj => ?_)))
 · simp [execOp, Instr.makeFunc]
   apply Array.ext'; simp
 · simp only [List.length_map] at hj
   have hm : caps.toList[j] ∈ caps.toList := List.getElem_mem hj
   have := noTmp_rep (List.all_eq_true.1 hn _ (List.mem_map.2 ⟨_, hm, rfl⟩)) (okTmps_rep fs hv (x := caps.toList[j]) (by simp [Op.operands]))
   simpa [gQ, List.getElem?_eq_getElem hj, hj] using this
theorem zeroV_run {t : TypeId} {z : AVal} (h : zeroV P t = some z) (w : World) : ∃ c, (zeroValue t).run P w = .ok c w ∧ ∀ imm, RepP w imm z c := by
 unfold zeroV at h
 split at h
 · rename_i i hi
   split at h
   · rename_i v hz
     simp only [sJ] at h
     subst h
     exact ⟨v, by simp [zeroValue, typeInfo, hi, hz], fun imm => ofConst_rep v⟩
   · simp at h
 · simp at h
theorem step_assert (fs : FS w a E H β T B G) {x : Operand} {xt t : TypeId} {ok : Bool} (hv : okTmps G (mkO dst (.typeAssert x xt t ok) type pos after guard)) (h : val1 B H (assertA P (aeval T x) t ok) = some r) :
 Sound P w a E H β T G (mkO dst (.typeAssert x xt t ok) type pos after guard) r := by
 obtain ⟨v, h1, rfl⟩ := val1_some h
 have rx := okTmps_rep fs hv (x := x) (by simp [Op.operands])
 have two : ∀ {u : AVal} {c : Value} {b : Bool}, Rep w E H u c → RepT w E H β (.tuple [u, .bool b]) (.tuple #[c, .bool b]) := fun {u c b} hr =>
  .val _ _ (.tuple _ [c, .bool b] rfl (fun j hj => by
   match j, hj with
   | 0, _ => exact hr
   | 1, _ => exact .pure _ _ (.bool b)))
 unfold assertA at h1
 split at h1
 · simp at h1
 · simp at h1
 · rename_i d hd hu
   have hd' : ∀ ms, d ≠ .interface ms := fun ms e => hd ms e
   split at h1
   · rename_i hx
     rw [hx] at rx
     have ex := rep_nilIface (noTmp_of rx (by simp))
     split at h1
     · rename_i hok
       subst hok
       simp only [Option.map_eq_some_iff] at h1
       obtain ⟨z, hz, rfl⟩ := h1
       obtain ⟨c, hc, hr⟩ := zeroV_run hz w
       refine Sound.pure fs (c := .tuple #[c, .bool false]) ?_ (two (.pure _ _ (hr _)))
       simp only [execOp, Instr.typeAssert, ex, Sem.run_bind, run_underlying hu, Result.andThen_ok]
       cases d <;> first | (simp [hc]; done) | exact absurd rfl (hd' _)
     · simp at h1
   · rename_i u y hx
     rw [hx] at rx
     obtain ⟨cy, ex, ry⟩ := rep_iface (noTmp_of rx (by simp))
     split at h1
     · rename_i hut
       subst hut
       simp only [sJ] at h1
       subst h1
       cases ok with
       | true =>
        refine Sound.pure fs (c := .tuple #[cy, .bool true]) ?_ (two ry)
        simp only [execOp, Instr.typeAssert, ex, Sem.run_bind, run_underlying hu, Result.andThen_ok]
        cases d <;> first | (simp; done) | exact absurd rfl (hd' _)
       | false =>
        refine Sound.pure fs (c := cy) ?_ (.val _ _ ry)
        simp only [execOp, Instr.typeAssert, ex, Sem.run_bind, run_underlying hu, Result.andThen_ok]
        cases d <;> first | (simp; done) | exact absurd rfl (hd' _)
     · rename_i hut
       split at h1
       · rename_i hok
         subst hok
         simp only [Option.map_eq_some_iff] at h1
         obtain ⟨z, hz, rfl⟩ := h1
         obtain ⟨c, hc, hr⟩ := zeroV_run hz w
         refine Sound.pure fs (c := .tuple #[c, .bool false]) ?_ (two (.pure _ _ (hr _)))
         simp only [execOp, Instr.typeAssert, ex, Sem.run_bind, run_underlying hu, Result.andThen_ok]
         cases d <;> first | (simp [hc, hut]; done) | exact absurd rfl (hd' _)
       · simp at h1
   · simp at h1
theorem step_extract (fs : FS w a E H β T B G) {x : Operand} {i : Nat} (hv : okTmps G (mkO dst (.extract x i) type pos after guard)) {vs : Vs} {v : AVal} (hx : aeval T x = .tuple vs) (hi : vs[i]? = some v) :
 Sound P w a E H β T G (mkO dst (.extract x i) type pos after guard) ⟨true, v, B, H⟩ := by
 have rx := okTmps_rep fs hv (x := x) (by simp [Op.operands])
 rw [hx] at rx
 obtain ⟨cs, ex, hl, hr⟩ := rep_tuple (noTmp_of rx (by simp))
 have hlt : i < vs.length := by
  rcases Nat.lt_or_ge i vs.length with g | g
  · exact g
  · rw [List.getElem?_eq_none g] at hi; cases hi
 have := hr i hlt
 rw [gQ, hi] at this
 refine Sound.pure fs (c := cs.getD i undef) ?_ (.val _ _ this)
 simp only [execOp, Instr.extract, ex]
 simp [gQ, List.getElem?_eq_getElem (show i < cs.length by omega)]
theorem step_len (fs : FS w a E H β T B G) {c : Call} {t : TypeId} {x : Operand} (hv : okTmps G (mkO dst (.call c) type pos after guard)) (hc : c.callee = .builtin .len) (ht : c.argTypes[0]? = some t) (hx : c.args[0]? = some x)
 (h : val1 B H (lenA P H t (aeval T x)) = some r) : Sound P w a E H β T G (mkO dst (.call c) type pos after guard) r := by
 obtain ⟨v, h1, rfl⟩ := val1_some h
 have hm : x ∈ c.args := Array.mem_of_getElem? hx
 have rx := okTmps_rep fs hv (x := x) (by simp [Op.operands, Call.operands, hc, hm])
 have run : ∀ {n : Nat}, (Builtin.len_ c.argTypes type (c.args.map a.eval)).run P w = .ok (goInt n) w → (execOp a.eval (mkO dst (.call c) type pos after guard)).run P w = .ok (.value (.int .i64 n)) w := by
  intro n hn
  simp only [execOp, resolve, hc, Sem.run_bind, Sem.run_pure, Result.andThen_ok, invoke, builtin, hn]; rfl
 unfold lenA at h1
 split at h1
 · rename_i m hs
   split at h1
   · rename_i kk es kt et hm' hu
     simp only [sJ] at h1; subst h1
     rw [hs] at rx
     obtain ⟨ex, _⟩ := rep_map (noTmp_of rx (by simp))
     obtain ⟨ms, cl, hb, hq⟩ := fs.sim.map m kk es hm'
     have hsz : ms.size = es.length := by simpa using congrArg List.length hq
     exact Sound.pure fs (run (by simp [Builtin.len_, ht, hx, ex, run_underlying hu, MapKept.run_getObj_map hb, hsz])) (.int _ _)
   · simp at h1
 · rename_i s hs
   split at h1
   · rename_i hu
     simp only [sJ] at h1; subst h1
     rw [hs] at rx
     obtain ⟨b, ex, hb⟩ := repT_str rx
     have hsz : b.size = s.length := by rw [size_eq, hb]
     exact Sound.pure fs (run (by simp [Builtin.len_, ht, hx, ex, run_underlying hu, hsz])) (.int _ _)
   · simp at h1
 · rename_i full n row hs
   split at h1
   · rename_i e hu
     simp only [sJ] at h1; subst h1
     rw [hs] at rx
     obtain ⟨ad, cap, ex, _⟩ := rep_list (noTmp_of rx (by simp))
     exact Sound.pure fs (run (by simp [Builtin.len_, ht, hx, ex, run_underlying hu])) (.int _ _)
   · simp at h1
 · rename_i k off len ver clip hs
   split at h1
   · rename_i e hu
     simp only [sJ] at h1; subst h1
     rw [hs] at rx
     obtain ⟨ad, cap, sz, u, ex, _⟩ := rep_own (noTmp_of rx (by simp))
     exact Sound.pure fs (run (by simp [Builtin.len_, ht, hx, ex, run_underlying hu])) (.int _ _)
   · simp at h1
 · rename_i hs
   split at h1
   · rename_i e hu
     simp only [sJ] at h1; subst h1
     rw [hs] at rx
     have ex := rep_nilX (noTmp_of rx (by simp))
     exact Sound.pure fs (run (n := 0) (by simp [Builtin.len_, ht, hx, ex, run_underlying hu])) (.int _ _)
   · simp at h1
 · simp at h1
theorem minmax_args {c : Call} {x y : Operand} (h : c.args.toList = [x, y]) : c.args = #[x, y] := by
 apply Array.ext'; simp [h]
theorem step_min (fs : FS w a E H β T B G) {c : Call} {x y : Operand} (hv : okTmps G (mkO dst (.call c) type pos after guard)) (hc : c.callee = .builtin .min) (ha : c.args.toList = [x, y]) (h : val1 B H (minA (aeval T x) (aeval T y)) = some r) :
 Sound P w a E H β T G (mkO dst (.call c) type pos after guard) r := by
 obtain ⟨v, h1, rfl⟩ := val1_some h
 have ha' := minmax_args ha
 have rx := okTmps_rep fs hv (x := x) (by simp [Op.operands, Call.operands, hc, ha'])
 have ry := okTmps_rep fs hv (x := y) (by simp [Op.operands, Call.operands, hc, ha'])
 unfold minA at h1
 split at h1
 · rename_i k p k' q hp hq
   rw [hp] at rx; rw [hq] at ry
   have ex := repT_int rx
   have ey := repT_int ry
   simp only [sJ] at h1; subst h1
   refine Sound.pure fs ?_ (.int _ _)
   simp [execOp, resolve, hc, invoke, builtin, ha', Builtin.min_, Builtin.min2, ex, ey]
 · simp at h1
theorem step_max (fs : FS w a E H β T B G) {c : Call} {x y : Operand} (hv : okTmps G (mkO dst (.call c) type pos after guard)) (hc : c.callee = .builtin .max) (ha : c.args.toList = [x, y]) (h : val1 B H (maxA (aeval T x) (aeval T y)) = some r) :
 Sound P w a E H β T G (mkO dst (.call c) type pos after guard) r := by
 obtain ⟨v, h1, rfl⟩ := val1_some h
 have ha' := minmax_args ha
 have rx := okTmps_rep fs hv (x := x) (by simp [Op.operands, Call.operands, hc, ha'])
 have ry := okTmps_rep fs hv (x := y) (by simp [Op.operands, Call.operands, hc, ha'])
 unfold maxA at h1
 split at h1
 · rename_i k p k' q hp hq
   rw [hp] at rx; rw [hq] at ry
   have ex := repT_int rx
   have ey := repT_int ry
   simp only [sJ] at h1; subst h1
   refine Sound.pure fs ?_ (.int _ _)
   simp [execOp, resolve, hc, invoke, builtin, ha', Builtin.max_, Builtin.max2, ex, ey]
 · simp at h1
theorem pushed_alloc (w : World) (ds : Array Value) (ty : TypeId) : Pushed w (w.alloc (.cells ds ty)) ds ty (0, 0) := ⟨rfl, rfl, rfl, rfl⟩
theorem thawed0 (n : Nat) : thawed (0, 0) n := fun o _ h => by omega
theorem new_var (fs : FS w a E H β T B G) {op : Op} {d : Nat} {z : Vs} {ds : Array Value} {ty : TypeId} (hz : ds.size = z.length) (hr : ∀ (j : Nat) (v : AVal), z[j]? = some v → ∃ c, ds[j]? = some c ∧ c.oneCell' = true ∧ Rep w E H v c)
 (hrun : (execOp a.eval (mkO (some d) op type pos after guard)).run P w = .ok (.value (.pointer (some ⟨w.heap.size, 0, none⟩))) (w.alloc (.cells ds ty))) :
 Sound P w a E H β T G (mkO (some d) op type pos after guard) ⟨true, .ptr (.hp H.length) 0, B, H ++ .var z :: noteOf fh d ty z⟩ ∧
 (d < B.length → T.any (pointsTo d) = false → Sound P w a E H β T G (mkO (some d) op type pos after guard) ⟨true, .ptr (.tmp d) 0, bset B d z, H⟩) := by
 constructor
 · obtain ⟨ev, fs'⟩ := fresh_obj fs (pushed_alloc w ds ty) (thawed0 _) (obj := .var z) (c := 0) (fun cs e => by cases e; exact ⟨hz, hr⟩) (fun sz rows u e => by cases e)
   unfold noteOf
   split
   · rename_i gl _
     obtain ⟨ev2, fs2⟩ := fresh_note fs' (t := ty) (n := z.length) (fun _ => ⟨ds, (0, 0), by simpa [pushEnv] using (pushed_alloc w ds ty).new, fun _ => hz⟩)
     have ev3 := ev.trans ev2 (fun x hx => .inl hx)
     rw [List.append_assoc] at ev3 fs2
     obtain ⟨E4, ev4, fs4⟩ := fresh_ghosts gl fs2
     have ev5 := ev3.trans ev4 (fun x hx => .inl hx)
     have eq : (H ++ ([.var z] ++ [.note ty z.length])) ++ ghostsOf gl = H ++ .var z :: .note ty z.length :: ghostsOf gl := by simp
     rw [eq] at ev5 fs4
     refine ⟨_, _, _, β, ⟨.inl hrun, ev5, fs4, .val _ _ ?_, fun _ _ h => .inl h⟩⟩
     have h0 := Rep.ptrH (w := w.alloc (.cells ds ty)) (E := pushEnv E H.length w.heap.size 0) (H := H ++ ([.var z] ++ [.note ty z.length])) H.length 0 (by simp [isVar])
     have h1 := h0.mono ev4.sees
     simpa [pushEnv] using h1
   · refine ⟨_, _, _, β, ⟨.inl hrun, ev, fs', .val _ _ ?_, fun _ _ h => .inl h⟩⟩
     have := Rep.ptrH (w := w.alloc (.cells ds ty)) (E := pushEnv E H.length w.heap.size 0) (H := H ++ [.var z]) H.length 0 (by simp [isVar])
     simpa [pushEnv] using this
 · intro hd hT
   obtain ⟨ev, fs'⟩ := fresh_box fs (pushed_alloc w ds ty) hd hT hz hr
   refine ⟨_, _, _, _, ⟨.inl hrun, ev, fs', .box _ _ _ (by simp), fun t b hb => ?_⟩⟩
   by_cases e : t = d
   · subst e; rw [upd_same] at hb; simp only [sJ] at hb; exact .inr (by omega)
   · rw [upd_other _ _ e] at hb; exact .inl hb
theorem zeroTX_run {ex : Bool} {t : TypeId} {z : Vs} (h : zeroTX ex P t = some z) (w : World) : ∃ c, (zeroValue t).run P w = .ok c w ∧ c.cells.size = z.length ∧ ∀ (j : Nat) (v : AVal), z[j]? = some v → ∃ d, c.cells[j]? = some d ∧ d.oneCell' = true ∧ ∀ imm, RepP w imm v d := by
 unfold zeroTX at h
 split at h
 · rename_i i hi
   split at h
   · rename_i v hz
     split at h
     · rename_i hall
       simp only [sJ] at h
       subst h
       refine ⟨v, by simp [zeroValue, typeInfo, hi, hz], by simp, fun j u hu => ?_⟩
       simp only [List.getElem?_map, Option.map_eq_some_iff, Array.getElem?_toList] at hu
       obtain ⟨d, hd, rfl⟩ := hu
       exact ⟨d, hd, List.all_eq_true.1 hall d (Array.mem_toList_iff.2 (Array.mem_of_getElem? hd)), fun imm => exCell_rep ex (ofCell_rep d)⟩
     · simp at h
   · simp at h
 · simp at h
theorem zeroT_X {t : TypeId} : zeroT P t = zeroTX false P t := by
 unfold zeroT zeroTX exCell
 simp
theorem zeroT_run {t : TypeId} {z : Vs} (h : zeroT P t = some z) (w : World) : ∃ c, (zeroValue t).run P w = .ok c w ∧ c.cells.size = z.length ∧ ∀ (j : Nat) (v : AVal), z[j]? = some v → ∃ d, c.cells[j]? = some d ∧ d.oneCell' = true ∧ ∀ imm, RepP w imm v d :=
 zeroTX_run (zeroT_X ▸ h) w
theorem step_alloc (fs : FS w a E H β T B G) {ex : Bool} {t : TypeId} {d : Nat} {z : Vs} (h : zeroTX ex P t = some z) :
 Sound P w a E H β T G (mkO (some d) (.alloc t) type pos after guard) ⟨true, .ptr (.hp H.length) 0, B, H ++ .var z :: noteOf fh d t z⟩ ∧
 (d < B.length → T.any (pointsTo d) = false → Sound P w a E H β T G (mkO (some d) (.alloc t) type pos after guard) ⟨true, .ptr (.tmp d) 0, bset B d z, H⟩) := by
 obtain ⟨c, hc, hl, hr⟩ := zeroTX_run h w
 refine new_var (ty := t) fs hl (fun j v hv => let ⟨d, h1, h2, h3⟩ := hr j v hv; ⟨d, h1, h2, .pure _ _ (h3 _)⟩) ?_
 simp [execOp, Instr.alloc, hc, newVar, newRow]
theorem step_box (fs : FS w a E H β T B G) {t : TypeId} {x : Operand} {d : Nat} {z : Vs} (hv : okTmps G (mkO (some d) (.box t x) type pos after guard)) (h : cellsOf? (aeval T x) = some z) (hn : noTmp (aeval T x) = true) :
 Sound P w a E H β T G (mkO (some d) (.box t x) type pos after guard) ⟨true, .ptr (.hp H.length) 0, B, H ++ .var z :: noteOf fh d t z⟩ ∧
 (d < B.length → T.any (pointsTo d) = false → Sound P w a E H β T G (mkO (some d) (.box t x) type pos after guard) ⟨true, .ptr (.tmp d) 0, bset B d z, H⟩) := by
 obtain ⟨hl, h1, hr⟩ := cellsOf_rep h (noTmp_rep hn (okTmps_rep fs hv (x := x) (by simp [Op.operands])))
 refine new_var (ty := t) (ds := (a.eval x).cells) fs (by simpa using hl) (fun j v hv => ?_) ?_
 · have hj : j < z.length := by
    rcases Nat.lt_or_ge j z.length with g | g
    · exact g
    · rw [List.getElem?_eq_none g] at hv; cases hv
   have := hr j hj
   rw [gQ, hv, gQ, List.getElem?_eq_getElem (by omega)] at this
   exact ⟨(a.eval x).cells.toList[j]'(by omega), by rw [← Array.getElem?_toList, List.getElem?_eq_getElem (by omega)], h1 _ (List.getElem_mem _), this⟩
 · simp [execOp, Instr.box, newVar, newRow]
end Go.Mu
namespace Go.Mu
open Go
variable {P : Program} {fh : FH} {w w' : World} {a : Act} {E E' : Env} {H H' : Heap} {β : Nat → Option Nat} {T : Vs} {B : Boxes} {G : Tags}
 {dst : Option Nat} {type : TypeId} {pos : String} {after : Array Edge} {guard : Option (Nat × Bool)} {r : SR}
def CellsRep (w : World) (E : Env) (H : Heap) (zs : Vs) (ds : Array Value) : Prop :=
 ds.size = zs.length ∧ ∀ (j : Nat) (v : AVal), zs[j]? = some v → ∃ c, ds[j]? = some c ∧ c.oneCell' = true ∧ Rep w E H v c
theorem foldl_zipIdx (off : Nat) : ∀ (vs : List Value) (i : Nat) (ds : Array Value), (vs.zipIdx i).foldl (fun cs x => cs.setIfInBounds (off + x.2) x.1) ds = setArr ds (off + i) vs
 | [], _, _ => rfl
 | v :: vs, i, ds => by
  simp only [List.zipIdx_cons, List.foldl_cons, setArr]
  rw [foldl_zipIdx off vs (i + 1)]; rfl
theorem fill_step (place : Nat → Option (Nat × Nat)) (ds : Array Value) (i : Nat) (v : Value) (rest : List (Nat × Value)) (off size : Nat) (h : place i = some (off, size)) (h1 : v.cells.size = size) (h2 : off + v.cells.size ≤ ds.size) :
 Instr.fill place ds ((i, v) :: rest) = Instr.fill place (setArr ds off v.cells.toList) rest := by
 have := foldl_zipIdx off v.cells.toList 0 ds
 simp only [Nat.add_zero] at this
 simp only [Instr.fill, h]
 have e : (v.cells.size ≠ size || decide (off + v.cells.size > ds.size)) = false := by simp; omega
 rw [if_neg (by simpa using e)]
 congr 1
 rw [← this, ← Array.foldl_toList, Array.toList_zipIdx]
theorem CellsRep.set {zs : Vs} {ds : Array Value} (h : CellsRep w E H zs ds) {off : Nat} {cs : Vs} {vs : List Value} (hl : vs.length = cs.length) (hle : off + cs.length ≤ zs.length) (h1 : ∀ x ∈ vs, x.oneCell' = true)
 (hr : ∀ j, j < cs.length → Rep w E H (cs.getD j .undef) (vs.getD j undef)) : CellsRep w E H (setAt zs off cs) (setArr ds off vs) := by
 refine ⟨by rw [setArr_size, setAt_length]; exact h.1, fun j v hv => ?_⟩
 rw [setAt_get cs zs off j hle] at hv
 rw [setArr_get vs ds off j (by rw [h.1]; omega), hl]
 split at hv
 · rename_i hj
   rw [if_pos hj]
   have hlt : j - off < vs.length := by omega
   have := hr (j - off) (by omega)
   rw [gQ, hv, gQ, List.getElem?_eq_getElem hlt] at this
   exact ⟨vs[j - off], List.getElem?_eq_getElem hlt, h1 _ (List.getElem_mem hlt), this⟩
 · rename_i hj
   rw [if_neg hj]
   exact h.2 j v hv
theorem fillA_run {place : Nat → Option (Nat × Nat)} : ∀ (ps : List (Nat × Operand)) (zs : Vs) (ds : Array Value) (out : Vs), fillA place zs (ps.map fun x => (x.1, aeval T x.2)) = some out → CellsRep w E H zs ds →
 (∀ x ∈ ps, Rep w E H (aeval T x.2) (a.eval x.2)) → ∃ ds', Instr.fill place ds (ps.map fun x => (x.1, a.eval x.2)) = some ds' ∧ CellsRep w E H out ds'
 | [], zs, ds, out, h, hc, _ => by
  simp only [List.map_nil, fillA, sJ] at h
  subst h
  exact ⟨ds, rfl, hc⟩
 | (i, x) :: ps, zs, ds, out, h, hc, hr => by
  simp only [List.map_cons, fillA] at h
  split at h
  · rename_i off size cs hp hcs
    split at h
    · rename_i hcond
      obtain ⟨hsz, hle⟩ := hcond
      obtain ⟨hl, h1, hrep⟩ := cellsOf_rep hcs (hr (i, x) (by simp))
      have hl' : (a.eval x).cells.size = cs.length := by simpa using hl
      have := fillA_run ps _ _ out h (hc.set hl hle h1 hrep) (fun y hy => hr y (by simp [hy]))
      obtain ⟨ds', e, hd⟩ := this
      refine ⟨ds', ?_, hd⟩
      rw [List.map_cons, fill_step place ds i (a.eval x) _ off size hp (by omega) (by rw [hc.1]; omega)]
      exact e
    · simp at h
  · simp at h
theorem run_places : ∀ (fields : List Field), fields.all (fun f => (sizeT P f.type).isSome) = true → ∃ l : List (Nat × Nat), (fields.mapM (fun f => (do pure (f.offset, ← sizeOf f.type) : Sem (Nat × Nat)))).run P w = .ok l w ∧
 ∀ i : Nat, l[i]? = placeOf P fields i
 | [], _ => ⟨[], by simp, fun i => by simp [placeOf]⟩
 | f :: fs, h => by
  simp only [List.all_cons, Bool.and_eq_true] at h
  obtain ⟨n, hn⟩ := Option.isSome_iff_exists.1 h.1
  obtain ⟨l, hl, hi⟩ := run_places fs h.2
  refine ⟨(f.offset, n) :: l, ?_, fun i => ?_⟩
  · rw [List.mapM_cons]
    simp only [Sem.run_bind, run_sizeT hn, Result.andThen_ok, Sem.run_pure, hl]
  · cases i with
    | zero => simp [placeOf, hn]
    | succ i => simpa [placeOf] using hi i
theorem step_build (fs : FS w a E H β T B G) {t : TypeId} {ps : Array (Nat × Operand)} (hv : okTmps G (mkO dst (.build t ps) type pos after guard)) {v : AVal} {ex : Bool} (h : buildA ex P t (ps.toList.map fun x => (x.1, aeval T x.2)) = some v)
 (hn : ps.toList.all (fun x => noTmp (aeval T x.2)) = true) : Sound P w a E H β T G (mkO dst (.build t ps) type pos after guard) ⟨true, v, B, H⟩ := by
 unfold buildA at h
 split at h
 · rename_i fields z hu hz
   split at h
   · simp at h
   · rename_i hall
     split at h
     · rename_i out hout
       simp only [sJ] at h
       subst h
       obtain ⟨c, hc, hl, hr⟩ := zeroTX_run hz w
       have hm : ∀ x ∈ ps.toList, x.2 ∈ (mkO dst (.build t ps) type pos after guard).op.operands.toList := fun x hx => by
        simp only [Op.operands]
        exact List.mem_map.2 ⟨x, hx, rfl⟩
       obtain ⟨ds', hf, hd⟩ := fillA_run (w := w) (E := E) (H := H) (a := a) ps.toList z c.cells out hout ⟨hl, fun j u hu => let ⟨d, g1, g2, g3⟩ := hr j u hu; ⟨d, g1, g2, .pure _ _ (g3 _)⟩⟩
        (fun x hx => noTmp_rep (List.all_eq_true.1 hn x hx) (okTmps_rep fs hv (hm x hx)))
       obtain ⟨l, hpl, hi⟩ := run_places (P := P) (w := w) fields.toList (by cases e : fields.toList.all (fun f => (sizeT P f.type).isSome) <;> simp_all)
       refine Sound.pure fs (c := .agg ds'.toList.toArray) ?_ (.val _ _ (.agg out ds'.toList (by simp [hd.1]) (fun j hj => ?_) (fun j hj => ?_)))
       · have hpl' : (fields.mapM (fun f => (do pure (f.offset, ← sizeOf f.type) : Sem (Nat × Nat)))).run P w = .ok l.toArray w := by
          rw [← Array.toArray_toList (xs := fields), List.mapM_toArray]
          simp only [Sem.run_map, hpl, Result.andThen_ok]
         have hplace : (fun (i : Nat) => l.toArray[i]?) = placeOf P fields.toList := by
          funext i
          rw [← hi i]; simp
         simp only [execOp, Instr.build, Sem.run_bind, hc, Result.andThen_ok, run_underlying hu, hpl']
         rw [hplace]
         have : (ps.map fun (i, x) => (i, a.eval x)).toList = ps.toList.map fun x => (x.1, a.eval x.2) := by simp
         rw [this]
         simp only [hf]
         simp
       · obtain ⟨d, g1, g2, g3⟩ := hd.2 j (out.getD j .undef) (by rw [gQ, List.getElem?_eq_getElem hj]; rfl)
         rw [gQ, Array.getElem?_toList, g1]; exact g2
       · obtain ⟨d, g1, g2, g3⟩ := hd.2 j (out.getD j .undef) (by rw [gQ, List.getElem?_eq_getElem hj]; rfl)
         rw [List.getD_eq_getElem?_getD (l := ds'.toList), Array.getElem?_toList, g1]; exact g3
     · simp at h
 · simp at h
theorem fill_rows (sz : Nat) : ∀ (ps : List (Nat × Operand)) (i : Nat) (ds : Array Value) (rows : List Vs), rowsA sz i (ps.map fun x => (x.1, aeval T x.2)) = some rows → (i + rows.length) * sz ≤ ds.size →
 (∀ x ∈ ps, Rep w E H (aeval T x.2) (a.eval x.2)) → ∃ ds', Instr.fill (fun i => some (i * sz, sz)) ds (ps.map fun x => (x.1, a.eval x.2)) = some ds' ∧ ds'.size = ds.size ∧ (∀ j, j < i * sz → ds'[j]? = ds[j]?) ∧
  ∀ (m : Nat) (row : Vs), rows[m]? = some row → row.length = sz ∧ ∀ j, j < sz → ∃ c, ds'[(i + m) * sz + j]? = some c ∧ c.oneCell' = true ∧ Rep w E H (row.getD j .undef) c
 | [], i, ds, rows, h, _, _ => by
  simp only [List.map_nil, rowsA, sJ] at h
  subst h
  exact ⟨ds, rfl, rfl, fun _ _ => rfl, fun m row hm => by simp at hm⟩
 | (k, x) :: ps, i, ds, rows, h, hle, hr => by
  simp only [List.map_cons, rowsA] at h
  split at h
  · rename_i cs rs hcs hrs
    split at h
    · rename_i hcond
      obtain ⟨rfl, hsz⟩ := hcond
      simp only [sJ] at h
      subst h
      obtain ⟨hl, h1, hrep⟩ := cellsOf_rep hcs (hr (i, x) (by simp))
      have hl' : (a.eval x).cells.size = cs.length := by simpa using hl
      have hll : (a.eval x).cells.toList.length = sz := hl.trans hsz
      simp only [List.length_cons] at hle
      have hle1 : i * sz + sz ≤ ds.size := by
       have : (i + 1) * sz ≤ (i + (rs.length + 1)) * sz := Nat.mul_le_mul_right _ (by omega)
       rw [Nat.add_mul, Nat.one_mul] at this; omega
      have ih := fill_rows sz ps (i + 1) (setArr ds (i * sz) (a.eval x).cells.toList) rs hrs (by rw [setArr_size]; rw [show i + 1 + rs.length = i + (rs.length + 1) by omega]; exact hle) (fun y hy => hr y (by simp [hy]))
      obtain ⟨ds', e1, e2, e3, e4⟩ := ih
      refine ⟨ds', ?_, by rw [e2, setArr_size], fun j hj => ?_, fun m row hm => ?_⟩
      · rw [List.map_cons, fill_step _ ds i (a.eval x) _ (i * sz) sz rfl (by omega) (by omega)]
        exact e1
      · rw [e3 j (by rw [Nat.add_mul]; omega), setArr_get _ ds _ j (by omega), if_neg (by omega)]
      · cases m with
        | zero =>
         simp only [List.getElem?_cons_zero, sJ] at hm
         subst hm
         refine ⟨hsz, fun j hj => ?_⟩
         have hlt : j < (a.eval x).cells.toList.length := by omega
         refine ⟨(a.eval x).cells.toList[j], ?_, h1 _ (List.getElem_mem hlt), ?_⟩
         · rw [Nat.add_zero, e3 _ (by rw [Nat.add_mul]; omega), setArr_get _ ds _ _ (by omega), if_pos (by omega)]
           rw [show i * sz + j - i * sz = j by omega, List.getElem?_eq_getElem hlt]
         · have := hrep j (by omega)
           rwa [List.getD_eq_getElem?_getD (l := (a.eval x).cells.toList), List.getElem?_eq_getElem hlt] at this
        | succ m =>
         simp only [List.getElem?_cons_succ] at hm
         have := e4 m row hm
         rw [show i + 1 + m = i + (m + 1) by omega] at this
         exact this
    · simp at h
  · simp at h
theorem rows_cellAt {sz : Nat} {rows : List Vs} {ds : Array Value} (hsz : 0 < sz) (h : ∀ (m : Nat) (row : Vs), rows[m]? = some row → row.length = sz ∧ ∀ j, j < sz → ∃ c, ds[m * sz + j]? = some c ∧ c.oneCell' = true ∧ Rep w E H (row.getD j .undef) c)
 (j : Nat) (v : AVal) (hv : cellAt sz rows j = some v) : ∃ c, ds[j]? = some c ∧ c.oneCell' = true ∧ Rep w E H v c := by
 unfold cellAt at hv
 rw [Option.bind_eq_some_iff] at hv
 obtain ⟨row, h1, h2⟩ := hv
 obtain ⟨g1, g2⟩ := h _ _ h1
 obtain ⟨c, k1, k2, k3⟩ := g2 (j % sz) (Nat.mod_lt _ hsz)
 rw [gQ, h2] at k3
 refine ⟨c, ?_, k2, k3⟩
 rw [← k1]; congr 1
 rw [Nat.mul_comm]; exact (Nat.div_add_mod j sz).symm
theorem list_of_cells {n sz : Nat} {rows : List Vs} {b : Nat} {ds : Array Value} {ty : TypeId} {fr : Nat × Nat} (himm : E.imm b) (hb : w.heap[b]? = some (.cells ds ty fr)) (hn : rows.length = n) {cap : Nat} (hcap : n ≤ cap) {full : Bool} (hfull : full = true → cap = n)
 (h : ∀ (m : Nat) (row : Vs), rows[m]? = some row → row.length = sz ∧ ∀ j, j < sz → ∃ c, ds[m * sz + j]? = some c ∧ c.oneCell' = true ∧ RepP w E.imm (row.getD j .undef) c) :
 RepP w E.imm (.list full n (fun i => rows.getD i [])) (.slice (some ⟨b, 0, none⟩) n cap) := by
 have hg : ∀ i, i < n → rows[i]? = some (rows.getD i []) := fun i hi => by rw [gQ, List.getElem?_eq_getElem (by omega)]; rfl
 refine .list full n _ b 0 cap sz (fun i j => ds.getD (i * sz + j) undef) hcap hfull himm (fun i hi => (h i _ (hg i hi)).1) (fun i j hi hj => ?_) (fun i j hi hj => ?_)
 · obtain ⟨c, k1, k2, k3⟩ := (h i _ (hg i hi)).2 j hj
   rw [cell?_block hb, Nat.zero_add, k1]
   simp [k1, k2]
 · obtain ⟨c, k1, k2, k3⟩ := (h i _ (hg i hi)).2 j hj
   simpa [k1] using k3
theorem step_buildSlice (fs : FS w a E H β T B G) {t e : TypeId} {n sz : Nat} {ps : Array (Nat × Operand)} (hv : okTmps G (mkO dst (.buildSlice t n ps) type pos after guard)) (he : elemT P t = some e) (hs : sizeT P e = some sz) {rows : List Vs}
 (h : rowsA sz 0 (ps.toList.map fun x => (x.1, aeval T x.2)) = some rows) (hn : rows.length = n) (hsz : sz ≠ 0) (hz : zeroOk P e sz = true) (hbig : n * sz ≤ 16777216) (hno : ps.toList.all (fun x => noTmp (aeval T x.2)) = true) :
 Sound P w a E H β T G (mkO dst (.buildSlice t n ps) type pos after guard) ⟨true, .own H.length 0 n 0 false, B, H ++ [.arr sz rows 0]⟩ ∧
 (rows.all (fun r => r.all isPure) = true → Sound P w a E H β T G (mkO dst (.buildSlice t n ps) type pos after guard) ⟨true, .list true n (fun i => rows.getD i []), B, H⟩) := by
 have hu := elemT_some he
 unfold zeroOk at hz
 split at hz
 case h_2 => simp at hz
 rename_i z hzz
 simp only [beq_iff_eq] at hz
 obtain ⟨c, hc, hl, hr⟩ := zeroT_run hzz w
 have hm : ∀ x ∈ ps.toList, x.2 ∈ (mkO dst (.buildSlice t n ps) type pos after guard).op.operands.toList := fun x hx => by
  simp only [Op.operands]
  exact List.mem_map.2 ⟨x, hx, rfl⟩
 have hrep : ∀ x ∈ ps.toList, Rep w E H (aeval T x.2) (a.eval x.2) := fun x hx => noTmp_rep (List.all_eq_true.1 hno x hx) (okTmps_rep fs hv (hm x hx))
 obtain ⟨ds, hf, hds, _, hrows⟩ := fill_rows (w := w) (E := E) (H := H) (a := a) sz ps.toList 0 (if n * sz = 0 then (Array.range (n * sz)).map (fun x => (#[] : Array Value)[x % (#[] : Array Value).size]!) else (Array.range (n * sz)).map (fun x => c.cells[x % c.cells.size]!)) rows h
  (by rw [Nat.zero_add, hn]; split <;> simp) hrep
 have hdsz : ds.size = n * sz := by rw [hds]; split <;> simp
 have hrun : (execOp a.eval (mkO dst (.buildSlice t n ps) type pos after guard)).run P w = .ok (.value (.slice (some ⟨w.heap.size, 0, none⟩) n n)) (w.alloc (.cells ds e)) := by
  have hps : (ps.map fun (i, x) => (i, a.eval x)).toList = ps.toList.map fun x => (x.1, a.eval x.2) := by simp
  simp only [execOp, Instr.buildSlice, Sem.run_bind, run_underlying hu, Result.andThen_ok, run_sizeT hs]
  rw [if_neg (by omega)]
  by_cases h0 : n * sz = 0
  · rw [if_pos h0] at hf
    simp only [h0, if_true, Sem.run_pure, Result.andThen_ok, Sem.run_bind]
    rw [h0] at hf
    rw [hps]
    simp only [hf]
    simp [newRow]
  · rw [if_neg h0] at hf
    simp only [h0, if_false, Sem.run_bind, hc, Result.andThen_ok, Sem.run_pure]
    rw [hps]
    simp only [hf]
    simp [newRow]
 simp only [Nat.zero_add] at hrows
 have hps := pushed_alloc w ds e
 constructor
 · obtain ⟨ev, fs'⟩ := fresh_obj fs hps (thawed0 _) (obj := .arr sz rows 0) (c := n) (fun cs e => by cases e) (fun sz' rows' u e => by
    cases e
    exact ⟨by omega, by omega, fun r hr => let ⟨i, hi⟩ := List.mem_iff_getElem?.1 hr; (hrows i r hi).1, by omega, rows_cellAt (by omega) hrows⟩)
   refine ⟨_, _, _, β, ⟨.inl hrun, ev, fs', .val _ _ (.own _ _ _ _ _ _ _ sz 0 (by simp [arrInfo]) (Nat.le_refl _) (fun _ => ?_)), fun _ _ h => .inl h⟩⟩
   refine ⟨Nat.le_refl _, fun h => by simp at h, fun _ _ => by simp [pushEnv], by simp [pushEnv], fun _ _ => by simp [pushEnv]⟩
 · intro hpure
   obtain ⟨ev, fs'⟩ := fresh_imm fs hps
   refine ⟨_, _, _, β, ⟨.inl hrun, ev, fs', .val _ _ (.pure _ _ (list_of_cells (sz := sz) (Or.inr rfl) hps.new hn (Nat.le_refl _) (fun _ => rfl) (fun m row hm => ?_))), fun _ _ h => .inl h⟩⟩
   obtain ⟨g1, g2⟩ := hrows m row hm
   refine ⟨g1, fun j hj => ?_⟩
   obtain ⟨c, k1, k2, k3⟩ := g2 j hj
   refine ⟨c, k1, k2, ?_⟩
   have hp : isPure (row.getD j .undef) = true := by
    have := List.all_eq_true.1 (List.all_eq_true.1 hpure row (List.mem_of_getElem? hm)) (row.getD j .undef)
    exact this (by rw [gQ, List.getElem?_eq_getElem (by omega)]; exact List.getElem_mem _)
   exact (isPure_rep hp k3).mono ev.sees.imm
theorem step_makeSlice (fs : FS w a E H β T B G) {t : TypeId} {l c : Operand} (hv : okTmps G (mkO dst (.makeSlice t l c) type pos after guard)) {ok : Bool} {v : AVal} {Hn : Heap} (h : makeA P H t (aeval T l) (aeval T c) = some (ok, v, Hn)) (hok : ok = true) :
 Sound P w a E H β T G (mkO dst (.makeSlice t l c) type pos after guard) ⟨true, v, B, Hn⟩ := by
 unfold makeA at h
 split at h
 · simp at h
 rename_i e he
 have hu := elemT_some he
 split at h
 case h_2 => simp at h
 rename_i sz by_ z kl nl kc nc hs hb hz hl hc
 split at h
 · simp at h
 rename_i hcond
 simp only [not_or, Decidable.not_not] at hcond
 obtain ⟨hsz, hzl⟩ := hcond
 simp only [sJ, Prod.mk.injEq] at h
 obtain ⟨rfl, rfl, rfl⟩ := h
 simp only [Bool.and_eq_true, decide_eq_true_eq] at hok
 obtain ⟨⟨⟨h0, hlc⟩, hby⟩, h63⟩ := hok
 have el : a.eval l = .int kl nl := by
  have := okTmps_rep fs hv (x := l) (by simp [Op.operands])
  rw [hl] at this; exact repT_int this
 have ec : a.eval c = .int kc nc := by
  have := okTmps_rep fs hv (x := c) (by simp [Op.operands])
  rw [hc] at this; exact repT_int this
 unfold sizeT at hs
 unfold bytesT at hb
 unfold zeroT at hz
 rw [Option.map_eq_some_iff] at hs hb
 obtain ⟨i, hi, rfl⟩ := hs
 obtain ⟨i', hi', rfl⟩ := hb
 rw [hi] at hi' hz
 cases hi'
 simp only at hz
 split at hz
 case h_2 => simp at hz
 rename_i zv hzv
 split at hz
 case isFalse => simp at hz
 rename_i hall
 simp only [sJ] at hz
 subst hz
 simp only [List.length_map, Array.length_toList] at hzl
 have hrun : (execOp a.eval (mkO dst (.makeSlice t l c) type pos after guard)).run P w = .ok (.value (.slice (some ⟨w.heap.size, 0, none⟩) nl.toNat nc.toNat)) (w.alloc (.cells (madeCells zv.cells (nc.toNat * i.size)) e)) := by
  have := run_make (P := P) w t e i zv hu hi hzv kl kc nl nc h0 hlc hby h63
  simp only [execOp, el, ec, Sem.run_bind, Sem.run_map, this, Result.andThen_ok, Sem.run_pure]
 have hps := pushed_alloc w (madeCells zv.cells (nc.toNat * i.size)) e
 have hrows : ∀ (m : Nat) (row : Vs), (List.replicate nl.toNat (zv.cells.toList.map ofCell))[m]? = some row → row.length = i.size ∧ ∀ j, j < i.size → ∃ d, (madeCells zv.cells (nc.toNat * i.size))[m * i.size + j]? = some d ∧ d.oneCell' = true ∧ Rep w E H (row.getD j .undef) d := by
  intro m row hm
  rw [List.getElem?_replicate] at hm
  split at hm
  case isFalse => simp at hm
  rename_i hml
  simp only [sJ] at hm
  subst hm
  refine ⟨by simpa using hzl, fun j hj => ?_⟩
  have hlt : m * i.size + j < nc.toNat * i.size := by
   have h1 : (m + 1) * i.size ≤ nc.toNat * i.size := Nat.mul_le_mul_right _ (by omega)
   rw [Nat.add_mul] at h1
   omega
  have hjz : j < zv.cells.size := by omega
  refine ⟨zv.cells[j], ?_, List.all_eq_true.1 hall _ (Array.mem_toList_iff.2 (Array.getElem_mem hjz)), ?_⟩
  · unfold madeCells
    rw [Array.getElem?_map, Array.getElem?_range, if_pos hlt]
    simp only [Option.map_some]
    have em : (m * i.size + j) % zv.cells.size = j := by rw [hzl, Nat.mul_comm, Nat.mul_add_mod, Nat.mod_eq_of_lt hj]
    have eg : zv.cells[(m * i.size + j) % zv.cells.size]! = zv.cells[j] := by
     rw [em]; simp [hjz]
    exact congrArg some eg
  · rw [gQ, List.getElem?_map]
    simp [hjz]
    exact .pure _ _ (ofCell_rep _)
 obtain ⟨ev, fs'⟩ := fresh_obj fs hps (thawed0 _) (obj := .arr i.size (List.replicate nl.toNat (zv.cells.toList.map ofCell)) 0) (c := nc.toNat) (fun cs e => by cases e) (fun sz' rows' u e => by
  cases e
  exact ⟨by omega, by simp; omega, fun r hr => let ⟨m, hm⟩ := List.mem_iff_getElem?.1 hr; (hrows m r hm).1, by rw [size_madeCells]; exact Nat.le_refl _, rows_cellAt (by omega) hrows⟩)
 refine ⟨_, _, _, β, ⟨.inl hrun, ev, fs', .val _ _ (.own _ _ _ _ _ _ _ i.size 0 (by simp [arrInfo]) (Nat.le_refl _) (fun _ => ?_)), fun _ _ h => .inl h⟩⟩
 refine ⟨by omega, fun h => by simp at h, fun _ _ => by simp [pushEnv], by simp [pushEnv]; omega, fun _ _ => by simp [pushEnv]⟩
theorem step_arr (fs : FS w a E H β T B G) {ex : Bool} {t : TypeId} {d : Nat} {z : Vs} (h : zeroTX ex P t = some z) (hok : (arrA B H z).ok = true) :
 Sound P w a E H β T G (mkO (some d) (.alloc t) type pos after guard) (arrA B H z) := by
 obtain ⟨c, hc, hl, hr⟩ := zeroTX_run h w
 have hz : z ≠ [] := by intro e; subst e; simp [arrA] at hok
 have hz0 : z.length ≠ 0 := by simpa using hz
 have hrun : (execOp a.eval (mkO (some d) (.alloc t) type pos after guard)).run P w = .ok (.value (.pointer (some ⟨w.heap.size, 0, none⟩))) (w.alloc (.cells c.cells t)) := by
  simp [execOp, Instr.alloc, hc, newVar, newRow]
 have hps := pushed_alloc w c.cells t
 obtain ⟨ev, fs'⟩ := fresh_obj fs hps (thawed0 _) (obj := .arr 1 (z.map fun v => [v]) 0) (c := z.length) (fun cs e => by cases e) (fun sz' rows' u e => by
  cases e
  refine ⟨by omega, by simp, fun r hr => ?_, by omega, fun j v hv => ?_⟩
  · obtain ⟨v, _, rfl⟩ := List.mem_map.1 hr; rfl
  · have hj : z[j]? = some v := by
     unfold cellAt at hv
     rw [Nat.div_one, Nat.mod_one, List.getElem?_map] at hv
     cases e : z[j]? with
     | none => rw [e] at hv; simp at hv
     | some y => rw [e] at hv; simpa using hv
    obtain ⟨d, h1, h2, h3⟩ := hr j v hj
    exact ⟨d, h1, h2, .pure _ _ (h3 _)⟩)
 refine ⟨_, _, _, β, ⟨.inl hrun, ev, fs', .val _ _ (.eptr _ _ _ _ _ 1 0 (by simp [arrInfo, arrA]) (Nat.le_refl _) (fun _ => ⟨by simpa [pushEnv] using hz0, by simp [pushEnv]⟩)), fun _ _ h => .inl h⟩⟩
theorem call_copy {s x : Operand} {c : Call} (hc : c.callee = .builtin .copy) (ha : c.args.toList = [s, x]) {v : Value} (h : (Builtin.copy_ c.argTypes type #[a.eval s, a.eval x]).run P w = .ok v w') :
 (execOp a.eval (mkO dst (.call c) type pos after guard)).run P w = .ok (.value v) w' := by
 have ha' := minmax_args ha
 simp only [execOp, resolve, hc, ha', Sem.run_bind, Sem.run_pure, Result.andThen_ok, invoke, builtin, List.map_toArray, List.map_cons, List.map_nil, h]
theorem copy_one {ts : Array TypeId} {t e : TypeId} {n off cap b : Nat} {blk : Nat} {s : ByteArray} {c : UInt8} (ht : ts[0]? = some t) (hu : P.underlying t = some (.slice e)) (hs : sizeT P e = some b) (hsb : s.data.toList = [c]) (hn : 0 < n)
 (hcell : (w.cell? ⟨blk, off, none⟩).isSome = true) (hfr : w.frozen? ⟨blk, off, none⟩ = false) :
 (Builtin.copy_ ts type #[.slice (some ⟨blk, off, none⟩) n cap, .string s]).run P w = .ok (goInt 1) (w.setCells blk off [.int .u8 (c.toNat : Int)]) := by
 have hsz : s.size = 1 := by rw [size_eq, hsb]; rfl
 have hm : Nat.min s.size n = 1 := by rw [hsz]; exact Nat.min_eq_left hn
 have hx : ((s.extract 0 1).data.map fun b => Value.int .u8 (b.toNat : Int)).toList = [.int .u8 (c.toNat : Int)] := by
  rw [Array.toList_map, extract_list, hsb]; rfl
 have hst := run_storeCells_cells (P := P) blk off [.int .u8 (c.toNat : Int)] 0 w (fun j hj => by simp at hj; subst hj; simpa using hcell) (fun j hj => by simp at hj; subst hj; simpa using hfr) (by simp [Value.oneCell'])
 simp only [Nat.add_zero] at hst
 rw [Array.toList_map] at hx
 have hx' : (s.data.toList.map fun b => Value.int .u8 (b.toNat : Int)).take 1 = [.int .u8 (c.toNat : Int)] := by rw [hsb]; rfl
 simp [Builtin.copy_, ht, run_underlying hu, Builtin.lenOf, Builtin.firstCells, run_sizeT hs, hm, hx', hst]
theorem step_copy (fs : FS w a E H β T B G) {c : Call} {t : TypeId} {x y : Operand} (hv : okTmps G (mkO dst (.call c) type pos after guard)) (hc : c.callee = .builtin .copy) (ht : c.argTypes[0]? = some t) (ha : c.args.toList = [x, y])
 (h : copyA P t B H (aeval T x) (aeval T y) = some r) (hok : r.ok = true) : Sound P w a E H β T G (mkO dst (.call c) type pos after guard) r := by
 have ha' := minmax_args ha
 have rx := okTmps_rep fs hv (x := x) (by simp [Op.operands, Call.operands, hc, ha'])
 have ry := okTmps_rep fs hv (x := y) (by simp [Op.operands, Call.operands, hc, ha'])
 unfold copyA at h
 split at h
 case h_2 => simp at h
 rename_i e he
 have hu := elemT_some he
 split at h
 case h_2 => simp at h
 rename_i b k off len ver clip ch hs hx hy
 split at h
 case h_2 => simp at h
 rename_i r' hst
 simp only [sJ] at h; subst h
 simp only [Bool.and_eq_true, decide_eq_true_eq] at hok
 obtain ⟨hok', hlen⟩ := hok
 rw [hx] at rx
 rw [hy] at ry
 obtain ⟨s, ey, hsb⟩ := repT_str ry
 obtain ⟨ad, cap, sz, u, ex, ai, hle, hsh⟩ := rep_own (noTmp_of rx (by simp))
 have hver : ver = u ∧ E.cap k ≠ 0 ∧ ad = some ⟨E.φ k, off * sz, none⟩ := by
  unfold storeA at hst
  simp only at hst
  split at hst
  · rename_i sz' rows u' hk
    simp only [sJ] at hst; subst hst
    simp only [Bool.and_eq_true, beq_iff_eq, decide_eq_true_eq] at hok'
    rw [arr_of_get hk] at ai
    simp only [sJ, Prod.mk.injEq] at ai
    obtain ⟨rfl, rfl⟩ := ai
    have hvu := hok'.1.1.symm
    obtain ⟨s1, s2, s3, s4, s5⟩ := hsh hvu
    exact ⟨hvu, by omega, s5 (by omega) (.inl (by omega))⟩
  · simp at hst
 obtain ⟨hvu, hcap, rfl⟩ := hver
 have rp : RepT w E H β (.eptr k ver off 0) (.pointer (some ⟨E.φ k, off * sz, none⟩)) := .val _ _ (.eptr _ _ _ _ _ sz u ai hle (fun _ => ⟨hcap, rfl⟩))
 obtain ⟨blk, o, e1, hcell, ev, fs'⟩ := storeA_sound fs hst hok' rp (vs := [.int .u8 (ch.toNat : Int)]) rfl (by simp [Value.oneCell']) (fun j hj => by
  have : j = 0 := by simp [byteRow] at hj; exact hj
  subst this; exact .pure _ _ (.int _ _))
 simp only [Value.pointer.injEq, sJ, Addr.mk.injEq, and_true] at e1
 obtain ⟨rfl, rfl⟩ := e1
 obtain ⟨c1, c2⟩ := hcell 0 (by simp)
 simp only [Nat.add_zero] at c1 c2
 have hrun := copy_one (P := P) (type := type) (w := w) (n := len) (cap := cap) ht hu hs hsb hlen c1 c2
 rw [← ex, ← ey] at hrun
 refine ⟨_, _, E, β, ⟨.inl (call_copy hc ha hrun), ev, fs', .val _ _ (.pure _ _ (.int _ _)), fun _ _ h => .inl h⟩⟩
end Go.Mu
namespace Go.Mu
open Go
variable {P : Program} {fh : FH} {w w' : World} {a : Act} {E E' : Env} {H H' : Heap} {β : Nat → Option Nat} {T : Vs} {B : Boxes} {G : Tags}
theorem isVar_setArr {k sz u : Nat} {old new : List Vs} {u' : Nat} (hk : H[k]? = some (.arr sz old u)) (l : Nat) : isVar (H.set k (.arr sz new u')) l = isVar H l := by
 have hlt := get_lt hk
 by_cases e : l = k
 · subst e; simp [isVar, List.getElem?_set_self hlt, hk]
 · simp [isVar, List.getElem?_set_ne (Ne.symm e)]
theorem arrInfo_setArr {k sz u : Nat} {old new : List Vs} {u' : Nat} (hk : H[k]? = some (.arr sz old u)) (l : Nat) : arrInfo (H.set k (.arr sz new u')) l = if l = k then some (sz, u') else arrInfo H l := by
 have hlt := get_lt hk
 by_cases e : l = k
 · subst e; simp [arrInfo, List.getElem?_set_self hlt]
 · simp [arrInfo, List.getElem?_set_ne (Ne.symm e), e]
theorem live_setArr {k sz u : Nat} {old new : List Vs} {u' : Nat} (hk : H[k]? = some (.arr sz old u)) {E' : Env} (hc : ∀ l, l ≠ k → E'.cap l = E.cap l) {l : Nat} (hl : live E' (H.set k (.arr sz new u')) l) : l ≠ k → live E H l := by
 intro e
 simp only [live, isVar_setArr hk, arrInfo_setArr hk, if_neg e, hc l e] at hl
 exact hl
theorem bump_own (fs : FS w a E H β T B G) {k sz u : Nat} {rows rows' : List Vs} (hk : H[k]? = some (.arr sz rows u)) {off : Nat} {vs : List Value} (hcap : E.cap k ≠ 0)
 (hrl : rows'.length ≤ E.cap k) (hlen : ∀ r ∈ rows', r.length = sz) (hle : off + vs.length ≤ E.cap k * sz) (h1 : ∀ x ∈ vs, x.oneCell' = true)
 (hin : ∀ (j : Nat) (v : AVal), off ≤ j → j < off + vs.length → cellAt sz rows' j = some v → Rep w E H v (vs.getD (j - off) undef))
 (hout : ∀ (j : Nat) (v : AVal), ¬(off ≤ j ∧ j < off + vs.length) → cellAt sz rows' j = some v → cellAt sz rows j = some v) :
 Evo (Xβ β) w E H (w.setCells (E.φ k) off vs) E (H.set k (.arr sz rows' (u + 1))) ∧ FS (w.setCells (E.φ k) off vs) a E (H.set k (.arr sz rows' (u + 1))) β T B G := by
 have hlv : live E H k := .inr ⟨⟨sz, u, arr_of_get hk⟩, hcap⟩
 obtain ⟨ap1, ap2⟩ := fs.sim.apart k hlv
 obtain ⟨r1, r2, r3⟩ := setCells_rest (E.φ k) vs off w
 have hi := fun l => isVar_setArr (new := rows') (u' := u + 1) hk l
 have ha := fun l => arrInfo_setArr (new := rows') (u' := u + 1) hk l
 have hlive : ∀ l, live E (H.set k (.arr sz rows' (u + 1))) l → live E H l := fun l hl => by
  by_cases e : l = k
  · subst e; exact hlv
  · exact live_setArr hk (fun _ _ => rfl) hl e
 have hne : ∀ x, E.imm x → x ≠ E.φ k := fun x hx e => ap1 (e ▸ hx)
 have ev : Evo (Xβ β) w E H (w.setCells (E.φ k) off vs) E (H.set k (.arr sz rows' (u + 1))) := by
  refine ⟨Nat.le_of_eq (setCells_size _ vs off w).symm, fun x hx hn hk' => setCells_other _ x (fun e => hk' k hlv e.symm) vs off w, fun x hx => ⟨hx, setCells_other _ x (hne x hx) vs off w⟩, fun x hx => .inl hx,
   fun l hl => ⟨by rw [hi]; exact hl, rfl⟩, fun l sz' u' hl => ?_, fun l hl => .inr ⟨hlive l hl, rfl⟩, by simp, r1, r2, r3⟩
  by_cases e : l = k
  · subst e
    rw [arr_of_get hk] at hl
    simp only [sJ, Prod.mk.injEq] at hl
    obtain ⟨rfl, rfl⟩ := hl
    exact ⟨u + 1, by rw [ha, if_pos rfl], by omega, fun h => by omega⟩
  · exact ⟨u', by rw [ha, if_neg e]; exact hl, Nat.le_refl _, fun _ => ⟨rfl, fun _ => rfl⟩⟩
 have hs := ev.sees
 have kb := (fs.sim.arr k sz rows u hk).2.2.2 hcap
 have hother : ∀ l, live E H l → l ≠ k → (w.setCells (E.φ k) off vs).heap[E.φ l]? = w.heap[E.φ l]? := fun l hl e => setCells_other _ _ (fun e' => e (fs.sim.inj l k hl hlv e')) vs off w
 refine ⟨ev, fs.keep ⟨fun b hb => by rw [setCells_size]; exact fs.sim.immLt b hb, fun l cs hc => ?_, fun l sz' rw' u' hc => ?_, fun l hl => by rw [setCells_size]; exact fs.sim.apart l (hlive l hl), fun x y hx hy => fs.sim.inj x y (hlive x hx) (hlive y hy), fun j t n hj hl => (fs.sim.note j t n (get_set_note (fun t n e => by cases e) hj) (hlive _ hl)).setCells, fs.sim.glob.mono hs.imm, fun l kk es h => by
  by_cases e : l = k
  · subst e; rw [List.getElem?_set_self (get_lt hk)] at h; simp at h
  · rw [List.getElem?_set_ne (Ne.symm e)] at h
    exact (fs.sim.map l kk es h).same (hother l (.inl (map_isVar h)) e)⟩
  hs (Nat.le_of_eq (setCells_size _ vs off w).symm) (fun t b hb => (fs.box t b hb).1) (fun t b hb l hl => (fs.box t b hb).2.2.1 l (hlive l hl)) (fun t b hb => setCells_other _ _ (fun e => (fs.box t b hb).2.2.1 k hlv e.symm) vs off w)⟩
 · by_cases e : l = k
   · subst e; rw [List.getElem?_set_self (get_lt hk)] at hc; simp at hc
   · rw [List.getElem?_set_ne (Ne.symm e)] at hc
     exact (fs.sim.var l cs hc).mono hs (hother l (.inl (var_of_get hc)) e)
 · by_cases e : l = k
   · subst e
     rw [List.getElem?_set_self (get_lt hk)] at hc
     simp only [sJ, Obj.arr.injEq] at hc
     obtain ⟨rfl, rfl, rfl⟩ := hc
     exact ⟨(fs.sim.arr l sz rows u hk).1, hrl, hlen, fun _ => kb.write hle h1 hs hin hout⟩
   · rw [List.getElem?_set_ne (Ne.symm e)] at hc
     obtain ⟨g1, g2, g3, g4⟩ := fs.sim.arr l sz' rw' u' hc
     exact ⟨g1, g2, g3, fun hcap' => (g4 hcap').mono hs (hother l (.inr ⟨⟨sz', u', arr_of_get hc⟩, hcap'⟩) e)⟩
theorem put_own (fs : FS w a E H β T B G) {k sz u : Nat} {rows rows' : List Vs} (hk : H[k]? = some (.arr sz rows u)) {off : Nat} {vs : List Value} (hcap : E.cap k ≠ 0)
 (hrl : rows'.length = rows.length) (hlen : ∀ r ∈ rows', r.length = sz) (hle : off + vs.length ≤ E.cap k * sz) (h1 : ∀ x ∈ vs, x.oneCell' = true)
 (hin : ∀ (j : Nat) (v : AVal), off ≤ j → j < off + vs.length → cellAt sz rows' j = some v → Rep w E H v (vs.getD (j - off) undef))
 (hout : ∀ (j : Nat) (v : AVal), ¬(off ≤ j ∧ j < off + vs.length) → cellAt sz rows' j = some v → cellAt sz rows j = some v) :
 (∀ j, j < vs.length → (w.cell? ⟨E.φ k, off + j, none⟩).isSome = true ∧ w.frozen? ⟨E.φ k, off + j, none⟩ = false) ∧
 Evo (Xβ β) w E H (w.setCells (E.φ k) off vs) E (H.set k (.arr sz rows' u)) ∧ FS (w.setCells (E.φ k) off vs) a E (H.set k (.arr sz rows' u)) β T B G := by
 have hlv : live E H k := .inr ⟨⟨sz, u, arr_of_get hk⟩, hcap⟩
 obtain ⟨ap1, ap2⟩ := fs.sim.apart k hlv
 have hne : ∀ x, E.imm x → x ≠ E.φ k := fun x hx e => ap1 (e ▸ hx)
 obtain ⟨hi, ha⟩ := set_same_arr (new := rows') hk
 have ev := evo_write (w := w) (β := β) (k := 0) (obj := .var []) (off := off) (vs := vs) hne (.inr ⟨k, hlv, rfl⟩) hi ha (by simp)
 have hs := ev.sees
 obtain ⟨hsz, hrl0, hrows, hblk⟩ := fs.sim.arr k sz rows u hk
 have kb := hblk hcap
 refine ⟨fun j hj => kb.some (by omega), ev, ?_⟩
 have sim : Sim (w.setCells (E.φ k) off vs) E (H.set k (.arr sz rows' u)) := by
  refine fs.sim.set hi ha hs (Nat.le_of_eq (setCells_size _ vs _ w).symm) (fun l hl hll => setCells_other _ _ (fun e => hl (fs.sim.inj l k hll hlv e)) vs _ w) (fun cs' e => by cases e) ?_ (fun t n e => by cases e) (fun t n h => h.setCells)
  intro sz' rows'' u' e
  cases e
  exact ⟨hsz, by rw [hrl]; exact hrl0, hlen, fun _ => kb.write hle h1 hs hin hout⟩
 exact fs.keep sim hs (Nat.le_of_eq (setCells_size _ vs _ w).symm) (fun t b hb => (fs.box t b hb).1) (fun t b hb l hll => (fs.box t b hb).2.2.1 l ((live_congr hi ha l).1 hll))
  (fun t b hb => setCells_other _ _ (fun e => (fs.box t b hb).2.2.1 k hlv e.symm) vs _ w)
section
variable {dst : Option Nat} {type : TypeId} {pos : String} {after : Array Edge} {guard : Option (Nat × Bool)} {r : SR}
theorem call_clear {x : Operand} {c : Call} (hc : c.callee = .builtin .clear) (ha : c.args = #[x]) {v : Value} (h : (Builtin.clear_ c.argTypes type #[a.eval x]).run P w = .ok v w') :
 (execOp a.eval (mkO dst (.call c) type pos after guard)).run P w = .ok (.value v) w' := by
 simp only [execOp, resolve, hc, ha, Sem.run_bind, Sem.run_pure, Result.andThen_ok, invoke, builtin, List.map_toArray, List.map_cons, List.map_nil, h]
theorem clear_none {ts : Array TypeId} {t e : TypeId} {ad : Option Addr} {cap : Nat} (ht : ts[0]? = some t) (hu : P.underlying t = some (.slice e)) : (Builtin.clear_ ts type #[.slice ad 0 cap]).run P w = .ok (.tuple #[]) w := by
 cases ad <;> simp [Builtin.clear_, ht, run_underlying hu]
theorem clear_some {ts : Array TypeId} {t e : TypeId} {blk off n cap : Nat} {c : Value} (ht : ts[0]? = some t) (hu : P.underlying t = some (.slice e)) (hz : (zeroValue e).run P w = .ok c w) (hn : n ≠ 0)
 (hcell : ∀ j, j < (Builtin.zeroCells c.cells n).toList.length → (w.cell? ⟨blk, off + j, none⟩).isSome = true ∧ w.frozen? ⟨blk, off + j, none⟩ = false) (h1 : ∀ v ∈ (Builtin.zeroCells c.cells n).toList, v.oneCell' = true) :
 (Builtin.clear_ ts type #[.slice (some ⟨blk, off, none⟩) n cap]).run P w = .ok (.tuple #[]) (w.setCells blk off (Builtin.zeroCells c.cells n).toList) := by
 have hst := run_storeCells_cells (P := P) blk off (Builtin.zeroCells c.cells n).toList 0 w (fun j hj => by simpa using (hcell j hj).1) (fun j hj => by simpa using (hcell j hj).2) h1
 simp only [Nat.add_zero] at hst
 obtain ⟨m, rfl⟩ : ∃ m, n = m + 1 := ⟨n - 1, by omega⟩
 simp [Builtin.clear_, ht, run_underlying hu, hz, hst]
theorem zeroCells_getD (z : Array Value) (n j : Nat) (h : j < n * z.size) : (Builtin.zeroCells z n).toList.getD j undef = z.getD (j % z.size) undef := by
 have hz : 0 < z.size := by
  rcases Nat.eq_zero_or_pos z.size with e | e
  · rw [e] at h; omega
  · exact e
 have hm : j % z.size < z.size := Nat.mod_lt _ hz
 rw [gQ, Array.getElem?_toList]
 unfold Builtin.zeroCells
 rw [Array.getElem?_map, Array.getElem?_range]
 simp [h, hm, Array.getD]
theorem step_clear (fs : FS w a E H β T B G) {c : Call} {t : TypeId} {x : Operand} (hv : okTmps G (mkO dst (.call c) type pos after guard)) (hc : c.callee = .builtin .clear) (ht : c.argTypes[0]? = some t) (ha : c.args.toList = [x])
 (h : clearA P t B H (aeval T x) = some r) (hok : r.ok = true) : Sound P w a E H β T G (mkO dst (.call c) type pos after guard) r := by
 have ha' : c.args = #[x] := by apply Array.ext'; simp [ha]
 have rx := okTmps_rep fs hv (x := x) (by simp [Op.operands, Call.operands, hc, ha'])
 unfold clearA at h
 split at h
 case h_2 => simp at h
 rename_i e he
 have hu := elemT_some he
 split at h
 case h_2 => simp at h
 rename_i z k off len ver clip hz hx
 split at h
 case h_2 => simp at h
 rename_i sz rows u hk
 simp only [sJ] at h; subst h
 simp only [Bool.and_eq_true, beq_iff_eq, decide_eq_true_eq] at hok
 obtain ⟨⟨rfl, rfl⟩, hle⟩ := hok
 rw [hx] at rx
 obtain ⟨ad, cap, sz', u', ex, ai, hle', hsh⟩ := rep_own (noTmp_of rx (by simp))
 rw [arr_of_get hk] at ai
 simp only [sJ, Prod.mk.injEq] at ai
 obtain ⟨rfl, rfl⟩ := ai
 obtain ⟨s1, s2, s3, s4, s5⟩ := hsh rfl
 rcases Nat.eq_zero_or_pos len with h0 | h0
 · subst h0
   have hrun := clear_none (P := P) (type := type) (w := w) (ad := ad) (cap := cap) ht hu
   rw [← ex] at hrun
   have e1 : rows.take off ++ List.replicate 0 z ++ rows.drop (off + 0) = rows := by simp
   have e2 : H.set k (.arr z.length rows u) = H := by
    apply List.ext_getElem?
    intro i
    by_cases hi : i = k
    · subst hi; rw [List.getElem?_set_self (get_lt hk), hk]
    · rw [List.getElem?_set_ne (Ne.symm hi)]
   rw [e1, e2]
   exact ⟨_, _, E, β, ⟨.inl (call_clear hc ha' hrun), Evo.refl, fs, .val _ _ (.pure _ _ (.undef _)), fun _ _ h => .inl h⟩⟩
 · have hcap : E.cap k ≠ 0 := by omega
   obtain rfl := s5 hcap (.inl (by omega))
   obtain ⟨c0, hz0, hzl, hzc⟩ := zeroT_run hz w
   have hzl' : c0.cells.size = z.length := hzl
   have hvl : (Builtin.zeroCells c0.cells len).toList.length = len * z.length := by rw [Array.length_toList, size_zeroCells, hzl]
   have hrows := (fs.sim.arr k z.length rows u hk).2.2.1
   have hz1 : 0 < z.length ∨ z.length = 0 := by omega
   have h1 : ∀ v ∈ (Builtin.zeroCells c0.cells len).toList, v.oneCell' = true := fun v hv => by
    obtain ⟨j, hj, rfl⟩ := List.mem_iff_getElem.1 hv
    have hj' : j < len * c0.cells.size := by rw [hvl] at hj; rw [hzl]; exact hj
    have hm : j % c0.cells.size < c0.cells.size := by
     refine Nat.mod_lt _ ?_
     rcases Nat.eq_zero_or_pos c0.cells.size with e | e
     · rw [e] at hj'; omega
     · exact e
    have g := zeroCells_getD c0.cells len j hj'
    rw [gQ, List.getElem?_eq_getElem hj] at g
    obtain ⟨d, g1, g2, _⟩ := hzc (j % c0.cells.size) (z[j % c0.cells.size]'(by omega)) (List.getElem?_eq_getElem _)
    rw [Array.getD_eq_getD_getElem?, g1] at g
    simp only [Option.getD_some] at g
    rw [g]; exact g2
   have hbound : off * z.length + (Builtin.zeroCells c0.cells len).toList.length ≤ E.cap k * z.length := by
    rw [hvl, ← Nat.add_mul]
    exact Nat.mul_le_mul_right _ (by omega)
   have hl3 : (rows.take off ++ List.replicate len z ++ rows.drop (off + len)).length = rows.length := by
    simp only [List.length_append, List.length_take, List.length_replicate, List.length_drop]; omega
   have hget : ∀ i, (rows.take off ++ List.replicate len z ++ rows.drop (off + len))[i]? = if off ≤ i ∧ i < off + len then some z else rows[i]? := fun i => by
    have ht : (rows.take off).length = off := by rw [List.length_take]; omega
    by_cases h1 : i < off
    · rw [if_neg (by omega), List.append_assoc, List.getElem?_append_left (by omega), List.getElem?_take]
      rw [if_pos h1]
    · by_cases h2 : i < off + len
      · rw [if_pos ⟨by omega, h2⟩, List.getElem?_append_left (by simp only [List.length_append, List.length_replicate]; omega), List.getElem?_append_right (by omega), ht, List.getElem?_replicate, if_pos (by omega)]
      · rw [if_neg (by omega), List.getElem?_append_right (by simp only [List.length_append, List.length_replicate]; omega)]
        simp only [List.length_append, List.length_replicate, ht, List.getElem?_drop]
        congr 1; omega
   have hdm : ∀ j : Nat, 0 < z.length → (off ≤ j / z.length ∧ j / z.length < off + len ↔ off * z.length ≤ j ∧ j < off * z.length + len * z.length) := fun j hp => by
    rw [Nat.le_div_iff_mul_le hp, Nat.div_lt_iff_lt_mul hp, Nat.add_mul]
   obtain ⟨p1, p2, p3⟩ := put_own (rows' := rows.take off ++ List.replicate len z ++ rows.drop (off + len)) fs hk (off := off * z.length) (vs := (Builtin.zeroCells c0.cells len).toList) hcap hl3
    (fun r hr => by
     obtain ⟨i, hi⟩ := List.mem_iff_getElem?.1 hr
     rw [hget] at hi
     split at hi
     · cases hi; rfl
     · exact hrows r (List.mem_of_getElem? hi))
    hbound h1
    (fun j v g1 g2 hv => by
     rw [hvl] at g2
     have hp : 0 < z.length := by
      rcases hz1 with e | e
      · exact e
      · rw [e] at g2; omega
     unfold cellAt at hv
     rw [hget, if_pos ((hdm j hp).2 ⟨g1, g2⟩)] at hv
     have hv : z[j % z.length]? = some v := hv
     obtain ⟨d, q1, q2, q3⟩ := hzc _ v hv
     have hm : (j - off * z.length) % z.length = j % z.length := by
      conv => rhs; rw [show j = (j - off * z.length) + off * z.length by omega]
      rw [Nat.add_mul_mod_self_right]
     have g := zeroCells_getD c0.cells len (j - off * z.length) (by rw [hzl]; omega)
     rw [g, hzl, hm, Array.getD_eq_getD_getElem?, q1]
     exact .pure _ _ (q3 _))
    (fun j v hj hv => by
     unfold cellAt at hv ⊢
     rw [hget] at hv
     split at hv
     · rename_i hh
       rcases hz1 with e | e
       · rw [hvl] at hj
         exact absurd ((hdm j e).1 hh) hj
       · have : z = [] := List.eq_nil_of_length_eq_zero e
         subst this
         simp at hv
     · exact hv)
   have hrun := clear_some (P := P) (type := type) (w := w) (cap := cap) ht hu hz0 (by omega) p1 h1
   rw [← ex] at hrun
   exact ⟨_, _, E, β, ⟨.inl (call_clear hc ha' hrun), p2, p3, .val _ _ (.pure _ _ (.undef _)), fun _ _ h => .inl h⟩⟩
end
theorem move_own (fs : FS w a E H β T B G) {k sz u : Nat} {rows rows' : List Vs} (hk : H[k]? = some (.arr sz rows u)) {ds ty fr} (hp : Pushed w w' ds ty fr) (hth : thawed fr ds.size) {c : Nat}
 (hrl : rows'.length ≤ c) (hlen : ∀ r ∈ rows', r.length = sz) (hle : c * sz ≤ ds.size) (hcell : ∀ (j : Nat) (v : AVal), cellAt sz rows' j = some v → ∃ c, ds[j]? = some c ∧ c.oneCell' = true ∧ Rep w E H v c)
 (hnt : noteOk H k ty = true) :
 Evo (Xβ β) w E H w' (pushEnv E k w.heap.size c) (H.set k (.arr sz rows' (u + 1))) ∧ FS w' a (pushEnv E k w.heap.size c) (H.set k (.arr sz rows' (u + 1))) β T B G := by
 have hi := fun l => isVar_setArr (new := rows') (u' := u + 1) hk l
 have ha := fun l => arrInfo_setArr (new := rows') (u' := u + 1) hk l
 have φe : ∀ l, l ≠ k → (pushEnv E k w.heap.size c).φ l = E.φ l := fun l hl => by simp only [pushEnv]; rw [upd_other _ _ hl]
 have ce : ∀ l, l ≠ k → (pushEnv E k w.heap.size c).cap l = E.cap l := fun l hl => by simp only [pushEnv]; rw [upd_other _ _ hl]
 have φk : (pushEnv E k w.heap.size c).φ k = w.heap.size := by simp [pushEnv]
 have ck : (pushEnv E k w.heap.size c).cap k = c := by simp [pushEnv]
 have hlive : ∀ l, live (pushEnv E k w.heap.size c) (H.set k (.arr sz rows' (u + 1))) l → l ≠ k → live E H l := fun l hl e => live_setArr hk ce hl e
 have hnv : isVar H k = false := by simp [isVar, hk]
 have ev : Evo (Xβ β) w E H w' (pushEnv E k w.heap.size c) (H.set k (.arr sz rows' (u + 1))) := by
  refine ⟨by rw [hp.size]; omega, fun b hb _ _ => hp.old hb, fun b hb => ⟨hb, hp.old (fs.sim.immLt b hb)⟩, fun b hb => .inl hb, fun l hl => ⟨by rw [hi]; exact hl, φe l (fun e => by rw [e, hnv] at hl; cases hl)⟩, fun l sz' u' hl => ?_,
   fun l hl => ?_, by simp, hp.tape, hp.os, hp.output⟩
  · by_cases e : l = k
    · subst e
      rw [arr_of_get hk] at hl
      simp only [sJ, Prod.mk.injEq] at hl
      obtain ⟨rfl, rfl⟩ := hl
      exact ⟨u + 1, by rw [ha, if_pos rfl], by omega, fun h => by omega⟩
    · exact ⟨u', by rw [ha, if_neg e]; exact hl, Nat.le_refl _, fun _ => ⟨ce l e, fun _ => φe l e⟩⟩
  · by_cases e : l = k
    · subst e; exact .inl (by rw [φk]; exact Nat.le_refl _)
    · exact .inr ⟨hlive l hl e, φe l e⟩
 have hs := ev.sees
 refine ⟨ev, fs.keep ⟨fun b hb => by rw [hp.size]; have := fs.sim.immLt b hb; omega, fun l cs hc => ?_, fun l sz' rw' u' hc => ?_, fun l hl => ?_, fun x y hx hy he => ?_, fun j t n hj hl => ?_, fs.sim.glob.mono hs.imm, fun l kk es h => by
  by_cases e : l = k
  · subst e; rw [List.getElem?_set_self (get_lt hk)] at h; simp at h
  · rw [List.getElem?_set_ne (Ne.symm e)] at h
    rw [φe l e]
    exact (fs.sim.map l kk es h).same (hp.old (fs.sim.apart l (.inl (map_isVar h))).2)⟩
  hs (by rw [hp.size]; omega) (fun t b hb => (fs.box t b hb).1) (fun t b hb l hl => ?_) (fun t b hb => hp.old (fs.box t b hb).2.1)⟩
 · by_cases e : l = k
   · subst e; rw [List.getElem?_set_self (get_lt hk)] at hc; simp at hc
   · rw [List.getElem?_set_ne (Ne.symm e)] at hc
     rw [φe l e]
     exact (fs.sim.var l cs hc).mono hs (hp.old (fs.sim.apart l (.inl (var_of_get hc))).2)
 · by_cases e : l = k
   · subst e
     rw [List.getElem?_set_self (get_lt hk)] at hc
     simp only [sJ, Obj.arr.injEq] at hc
     obtain ⟨rfl, rfl, rfl⟩ := hc
     rw [φk, ck]
     refine ⟨(fs.sim.arr l sz rows u hk).1, hrl, hlen, fun _ => ⟨ds, ty, fr, hp.new, hle, fun o ho => hth o (by omega), fun j v hv => ?_⟩⟩
     obtain ⟨c, g1, g2, g3⟩ := hcell j v hv
     exact ⟨c, g1, g2, g3.mono hs⟩
   · rw [List.getElem?_set_ne (Ne.symm e)] at hc
     rw [φe l e, ce l e]
     obtain ⟨g1, g2, g3, g4⟩ := fs.sim.arr l sz' rw' u' hc
     exact ⟨g1, g2, g3, fun hcap' => (g4 hcap').mono hs (hp.old (fs.sim.apart l (.inr ⟨⟨sz', u', arr_of_get hc⟩, hcap'⟩)).2)⟩
 · by_cases e : l = k
   · subst e; rw [φk, hp.size]
     exact ⟨fun h => Nat.lt_irrefl _ (fs.sim.immLt _ h), by omega⟩
   · rw [φe l e, hp.size]
     have := fs.sim.apart l (hlive l hl e)
     exact ⟨this.1, by omega⟩
 rotate_left 1
 · have hj' := get_set_note (fun t n e => by cases e) hj
   by_cases e : j - 1 = k
   · rw [e, φk]
     have hj0 : j = k + 1 := by
      rcases Nat.eq_zero_or_pos j with h0 | h0
      · subst h0
        obtain rfl : 0 = k := e
        rw [hk] at hj'; cases hj'
      · omega
     subst hj0
     unfold noteOk at hnt
     rw [hj'] at hnt
     simp only [Bool.and_eq_true, beq_iff_eq] at hnt
     obtain ⟨rfl, rfl⟩ := hnt
     exact ⟨ds, fr, hp.new, fun h => absurd rfl h⟩
   · rw [φe _ e]
     have h1 := hlive _ hl e
     exact (fs.sim.note j t n hj' h1).same (hp.old (fs.sim.apart _ h1).2)
 rotate_left 1
 · by_cases e1 : x = k <;> by_cases e2 : y = k
   · rw [e1, e2]
   · subst e1; rw [φk, φe y e2] at he
     have := (fs.sim.apart y (hlive y hy e2)).2; omega
   · subst e2; rw [φk, φe x e1] at he
     have := (fs.sim.apart x (hlive x hx e1)).2; omega
   · rw [φe x e1, φe y e2] at he
     exact fs.sim.inj x y (hlive x hx e1) (hlive y hy e2) he
 · by_cases e : l = k
   · subst e; rw [φk]; have := (fs.box t b hb).2.1; omega
   · rw [φe l e]; exact (fs.box t b hb).2.2.1 l (hlive l hl e)
theorem bump_virtual (fs : FS w a E H β T B G) {k sz u : Nat} (hk : H[k]? = some (.arr sz [] u)) (hcap : E.cap k = 0) :
 Evo (Xβ β) w E H w E (H.set k (.arr sz [] (u + 1))) ∧ FS w a E (H.set k (.arr sz [] (u + 1))) β T B G := by
 have hi := fun l => isVar_setArr (new := []) (u' := u + 1) hk l
 have ha := fun l => arrInfo_setArr (new := []) (u' := u + 1) hk l
 have hlive : ∀ l, live E (H.set k (.arr sz [] (u + 1))) l → live E H l := fun l hl => by
  by_cases e : l = k
  · subst e
    rcases hl with hl | ⟨_, hl⟩
    · rw [hi] at hl; exact .inl hl
    · exact absurd hcap hl
  · exact live_setArr hk (fun _ _ => rfl) hl e
 have ev : Evo (Xβ β) w E H w E (H.set k (.arr sz [] (u + 1))) := by
  refine ⟨Nat.le_refl _, fun _ _ _ _ => rfl, fun b hb => ⟨hb, rfl⟩, fun b hb => .inl hb, fun l hl => ⟨by rw [hi]; exact hl, rfl⟩, fun l sz' u' hl => ?_, fun l hl => .inr ⟨hlive l hl, rfl⟩, by simp, rfl, rfl, rfl⟩
  by_cases e : l = k
  · subst e
    rw [arr_of_get hk] at hl
    simp only [sJ, Prod.mk.injEq] at hl
    obtain ⟨rfl, rfl⟩ := hl
    exact ⟨u + 1, by rw [ha, if_pos rfl], by omega, fun h => by omega⟩
  · exact ⟨u', by rw [ha, if_neg e]; exact hl, Nat.le_refl _, fun _ => ⟨rfl, fun _ => rfl⟩⟩
 have hs := ev.sees
 refine ⟨ev, fs.keep ⟨fs.sim.immLt, fun l cs hc => ?_, fun l sz' rw' u' hc => ?_, fun l hl => fs.sim.apart l (hlive l hl), fun x y hx hy => fs.sim.inj x y (hlive x hx) (hlive y hy), fun j t n hj hl => fs.sim.note j t n (get_set_note (fun t n e => by cases e) hj) (hlive _ hl), fs.sim.glob.mono hs.imm, fun l kk es h => by
  by_cases e : l = k
  · subst e; rw [List.getElem?_set_self (get_lt hk)] at h; simp at h
  · rw [List.getElem?_set_ne (Ne.symm e)] at h
    exact (fs.sim.map l kk es h).same rfl⟩
  hs (Nat.le_refl _) (fun t b hb => (fs.box t b hb).1) (fun t b hb l hl => (fs.box t b hb).2.2.1 l (hlive l hl)) (fun t b hb => rfl)⟩
 · by_cases e : l = k
   · subst e; rw [List.getElem?_set_self (get_lt hk)] at hc; simp at hc
   · rw [List.getElem?_set_ne (Ne.symm e)] at hc
     exact (fs.sim.var l cs hc).mono hs rfl
 · by_cases e : l = k
   · subst e
     rw [List.getElem?_set_self (get_lt hk)] at hc
     simp only [sJ, Obj.arr.injEq] at hc
     obtain ⟨rfl, rfl, rfl⟩ := hc
     exact ⟨(fs.sim.arr l sz [] u hk).1, Nat.zero_le _, fun r hr => by simp at hr, fun h => absurd hcap h⟩
   · rw [List.getElem?_set_ne (Ne.symm e)] at hc
     obtain ⟨g1, g2, g3, g4⟩ := fs.sim.arr l sz' rw' u' hc
     exact ⟨g1, g2, g3, fun hcap' => (g4 hcap').mono hs rfl⟩
end Go.Mu
namespace Go.Mu
open Go
variable {P : Program} {fh : FH} {w w' : World} {a : Act} {E E' : Env} {H H' : Heap} {β : Nat → Option Nat} {T : Vs} {B : Boxes} {G : Tags}
 {dst : Option Nat} {type : TypeId} {pos : String} {after : Array Edge} {guard : Option (Nat × Bool)} {r : SR}
structure RowsRep (w : World) (E : Env) (H : Heap) (sz : Nat) (rows : List Vs) (cs : List Value) : Prop where
 len : cs.length = rows.length * sz
 rlen : ∀ r ∈ rows, r.length = sz
 one : ∀ u ∈ cs, u.oneCell' = true
 cell : ∀ (m : Nat) (row : Vs), rows[m]? = some row → ∀ j, j < sz → ∃ c, cs[m * sz + j]? = some c ∧ Rep w E H (row.getD j .undef) c
theorem mul_lt {m n j sz : Nat} (h : m < n) (hj : j < sz) : m * sz + j < n * sz := by
 have : (m + 1) * sz ≤ n * sz := Nat.mul_le_mul_right _ h
 rw [Nat.add_mul, Nat.one_mul] at this; omega
theorem RowsRep.nil {sz : Nat} : RowsRep w E H sz [] [] := ⟨by simp, fun r hr => by simp at hr, fun u hu => by simp at hu, fun m row hm => by simp at hm⟩
theorem RowsRep.append {sz : Nat} {r1 r2 : List Vs} {c1 c2 : List Value} (h1 : RowsRep w E H sz r1 c1) (h2 : RowsRep w E H sz r2 c2) : RowsRep w E H sz (r1 ++ r2) (c1 ++ c2) := by
 refine ⟨by simp [h1.len, h2.len, Nat.add_mul], fun r hr => ?_, fun u hu => ?_, fun m row hm j hj => ?_⟩
 · rcases List.mem_append.1 hr with h | h
   · exact h1.rlen r h
   · exact h2.rlen r h
 · rcases List.mem_append.1 hu with h | h
   · exact h1.one u h
   · exact h2.one u h
 · rcases Nat.lt_or_ge m r1.length with g | g
   · rw [List.getElem?_append_left g] at hm
     obtain ⟨c, k1, k2⟩ := h1.cell m row hm j hj
     refine ⟨c, ?_, k2⟩
     rw [List.getElem?_append_left (by rw [h1.len]; exact mul_lt g hj)]; exact k1
   · rw [List.getElem?_append_right g] at hm
     obtain ⟨c, k1, k2⟩ := h2.cell (m - r1.length) row hm j hj
     refine ⟨c, ?_, k2⟩
     have e : m * sz = r1.length * sz + (m - r1.length) * sz := by rw [← Nat.add_mul]; congr 1; omega
     rw [List.getElem?_append_right (by rw [h1.len]; omega), h1.len, ← k1]
     congr 1; omega
theorem RowsRep.cellAt {sz : Nat} {rows : List Vs} {cs : List Value} (hsz : 0 < sz) (h : RowsRep w E H sz rows cs) (j : Nat) (v : AVal) (hv : cellAt sz rows j = some v) : ∃ c, cs[j]? = some c ∧ c.oneCell' = true ∧ Rep w E H v c := by
 have := rows_cellAt (w := w) (E := E) (H := H) (sz := sz) (rows := rows) (ds := cs.toArray) hsz (fun m row hm => ⟨h.rlen row (List.mem_of_getElem? hm), fun j hj => by
  obtain ⟨c, k1, k2⟩ := h.cell m row hm j hj
  exact ⟨c, by simpa using k1, h.one c (List.mem_of_getElem? k1), k2⟩⟩) j v hv
 simpa using this
theorem getD_some {α : Type} {l : List α} {j : Nat} (d : α) (h : j < l.length) : l[j]? = some (l.getD j d) := by
 rw [gQ, List.getElem?_eq_getElem h]; rfl
theorem slice_rows (fs : FS w a E H β T B G) {sz : Nat} {x : AVal} {c : Value} {ys : List Vs} (hx : (∃ full n row, x = .list full n row) ∨ (∃ k off len ver clip, x = .own k off len ver clip)) (h : rowsOf sz H x = some (true, ys)) (hr : RepT w E H β x c) :
 ∃ ao cap cs, c = .slice ao ys.length cap ∧ RowsRep w E H sz ys cs ∧ (ys = [] ∨ ∃ ad, ao = some ad ∧ ∀ j u, cs[j]? = some u → w.cell? (ad.add j) = some u) := by
 rcases hx with ⟨full, n, row, rfl⟩ | ⟨k, off, len, ver, clip, rfl⟩
 · simp only [rowsOf, sJ, Prod.mk.injEq] at h
   obtain ⟨h1, rfl⟩ := h
   obtain ⟨ao, cap, rfl, hle, _, hc⟩ := rep_list (noTmp_of hr (by simp))
   by_cases hn : n = 0
   · subst hn
     exact ⟨ao, cap, [], by simp, RowsRep.nil, .inl (by simp)⟩
   · obtain ⟨blk, o, sz', cs, rfl, himm, hl, hcell, hrep⟩ := hc hn
     have hz : sz' = sz := by
      rw [← hl 0 (by omega)]
      simp only [Bool.or_eq_true, decide_eq_true_eq, beq_iff_eq] at h1
      rcases h1 with h1 | h1
      · exact h1
      · exact absurd h1 hn
     subst hz
     have key : ∀ q, q < n * sz' → 0 < sz' ∧ q / sz' < n ∧ q % sz' < sz' := fun q hq => by
      have h0 : 0 < sz' := by
       rcases Nat.eq_zero_or_pos sz' with e | e
       · rw [e] at hq; simp at hq
       · exact e
      exact ⟨h0, Nat.div_lt_of_lt_mul (by rw [Nat.mul_comm]; exact hq), Nat.mod_lt _ h0⟩
     refine ⟨_, cap, (List.range (n * sz')).map fun q => cs (q / sz') (q % sz'), by simp, ⟨by simp, ?_, ?_, ?_⟩, .inr ⟨⟨blk, o, none⟩, rfl, ?_⟩⟩
     · intro r hr
       simp only [List.mem_map, List.mem_range] at hr
       obtain ⟨i, hi, rfl⟩ := hr
       exact hl i hi
     · intro u hu
       simp only [List.mem_map, List.mem_range] at hu
       obtain ⟨q, hq, rfl⟩ := hu
       obtain ⟨h0, g1, g2⟩ := key q hq
       exact (hcell _ _ g1 g2).2
     · intro m r hm j hj
       have hmn : m < n := by
        rcases Nat.lt_or_ge m n with g | g
        · exact g
        · rw [List.getElem?_eq_none (by simpa using g)] at hm; simp at hm
       have h0 : 0 < sz' := by omega
       simp only [List.getElem?_map, List.getElem?_range hmn, Option.map_some, sJ] at hm
       subst hm
       refine ⟨cs m j, ?_, .pure _ _ (hrep m j hmn hj)⟩
       rw [List.getElem?_map, List.getElem?_range (mul_lt hmn hj), Option.map_some]
       rw [show (m * sz' + j) / sz' = m by rw [Nat.mul_comm, Nat.mul_add_div h0, Nat.div_eq_of_lt hj, Nat.add_zero], show (m * sz' + j) % sz' = j by rw [Nat.mul_comm, Nat.mul_add_mod, Nat.mod_eq_of_lt hj]]
     · intro q u hu
       have hq : q < n * sz' := by
        rcases Nat.lt_or_ge q (n * sz') with g | g
        · exact g
        · rw [List.getElem?_eq_none (by simpa using g)] at hu; simp at hu
       simp only [List.getElem?_map, List.getElem?_range hq, Option.map_some, sJ] at hu
       obtain ⟨h0, g1, g2⟩ := key q hq
       rw [addr_add, ← hu, ← (hcell _ _ g1 g2).1]
       congr 2
       rw [Nat.add_assoc, Nat.mul_comm, Nat.div_add_mod]
 · simp only [rowsOf] at h
   split at h
   · rename_i sz' rows v hk
     simp only [sJ, Prod.mk.injEq, Bool.and_eq_true, beq_iff_eq, decide_eq_true_eq] at h
     obtain ⟨⟨⟨rfl, rfl⟩, hle⟩, rfl⟩ := h
     obtain ⟨ao, cap, sz2, u, rfl, g1, g2, g3⟩ := rep_own (noTmp_of hr (by simp))
     rw [arr_of_get hk] at g1
     simp only [sJ, Prod.mk.injEq] at g1
     obtain ⟨rfl, rfl⟩ := g1
     obtain ⟨s1, s2, s3, s4, s5⟩ := g3 rfl
     obtain ⟨k1, k2, k3, k4⟩ := fs.sim.arr k sz' rows v hk
     have hlen : ((rows.drop off).take len).length = len := by simp; omega
     by_cases h0 : len = 0
     · subst h0
       exact ⟨ao, cap, [], by simp, by simpa using RowsRep.nil, .inl (by simp)⟩
     · have hcap : E.cap k ≠ 0 := by omega
       obtain ⟨ds, ty, fr, b1, b2, b3, b4⟩ := k4 hcap
       have hcm : (off + len) * sz' ≤ E.cap k * sz' := Nat.mul_le_mul_right _ s4
       rw [Nat.add_mul] at hcm
       have cellq : ∀ m j, m < len → j < sz' → ∃ r c, rows[off + m]? = some r ∧ r.length = sz' ∧ ds[off * sz' + (m * sz' + j)]? = some c ∧ c.oneCell' = true ∧ Rep w E H (r.getD j .undef) c := fun m j hm hj => by
        have hlt : off + m < rows.length := by omega
        have hrl := k3 _ (List.getElem_mem hlt)
        obtain ⟨c, c1, c2, c3⟩ := b4 ((off + m) * sz' + j) (rows[off + m].getD j .undef) (by
         show cellAt sz' rows ((off + m) * sz' + j) = _
         unfold Mu.cellAt
         rw [show ((off + m) * sz' + j) / sz' = off + m by rw [Nat.mul_comm, Nat.mul_add_div k1, Nat.div_eq_of_lt hj, Nat.add_zero], show ((off + m) * sz' + j) % sz' = j by rw [Nat.mul_comm, Nat.mul_add_mod, Nat.mod_eq_of_lt hj],
          List.getElem?_eq_getElem hlt]
         exact getD_some _ (by omega))
        exact ⟨_, c, List.getElem?_eq_getElem hlt, hrl, by rw [← c1]; congr 1; rw [Nat.add_mul]; omega, c2, c3⟩
       refine ⟨_, cap, (List.range (len * sz')).map fun q => ds.getD (off * sz' + q) undef, by rw [hlen], ⟨by rw [hlen]; simp, ?_, ?_, ?_⟩, .inr ⟨_, s5 hcap (.inl h0), ?_⟩⟩
       · intro r hr
         exact k3 r (List.mem_of_mem_drop (List.mem_of_mem_take hr))
       · intro u hu
         simp only [List.mem_map, List.mem_range] at hu
         obtain ⟨q, hq, rfl⟩ := hu
         obtain ⟨r, c, e1, e2, e3, e4, e5⟩ := cellq (q / sz') (q % sz') (Nat.div_lt_of_lt_mul (by rw [Nat.mul_comm]; exact hq)) (Nat.mod_lt _ k1)
         rw [show q / sz' * sz' + q % sz' = q by rw [Nat.mul_comm, Nat.div_add_mod]] at e3
         simp [e3, e4]
       · intro m r hm j hj
         have hml : m < len := by
          have := (List.getElem?_eq_some_iff.1 hm).1
          omega
         rw [List.getElem?_take_of_lt hml, List.getElem?_drop] at hm
         obtain ⟨r', c, e1, e2, e3, e4, e5⟩ := cellq m j hml hj
         rw [hm] at e1
         cases Option.some.inj e1
         refine ⟨c, ?_, e5⟩
         rw [List.getElem?_map, List.getElem?_range (mul_lt hml hj), Option.map_some]
         simp [e3]
       · intro q u hu
         have hq : q < len * sz' := by
          rcases Nat.lt_or_ge q (len * sz') with g | g
          · exact g
          · rw [List.getElem?_eq_none (by simpa using g)] at hu; simp at hu
         simp only [List.getElem?_map, List.getElem?_range hq, Option.map_some, sJ] at hu
         rw [addr_add, cell?_block b1, ← hu]
         have : off * sz' + q < ds.size := by omega
         simp [this]
   · simp at h
theorem rows_src (fs : FS w a E H β T B G) {sz : Nat} {tx : TypeId} {x : AVal} {c : Value} {ys : List Vs} (hs : srcOk (P.underlying tx) x = true) (h : rowsOf sz H x = some (true, ys)) (hr : RepT w E H β x c) :
 ∃ news, Src P sz tx c ys.length news w ∧ RowsRep w E H sz ys news := by
 have hsl : ∀ e, P.underlying tx = some (.slice e) → ((∃ full n row, x = .list full n row) ∨ (∃ k off len ver clip, x = .own k off len ver clip)) → ∃ news, Src P sz tx c ys.length news w ∧ RowsRep w E H sz ys news := by
  intro e he hx
  obtain ⟨ao, cap, cs, rfl, hrr, hcell⟩ := slice_rows fs hx h hr
  refine ⟨cs, ?_, hrr⟩
  cases ao with
  | some ad =>
   rcases hcell with rfl | ⟨ad', e', hc⟩
   · have : cs = [] := List.eq_nil_of_length_eq_zero (by rw [hrr.len]; simp)
     subst this
     exact Src.ofSlice w he ad 0 cap [] (by simp) (fun j u hj => by simp at hj) hrr.one
   · cases Option.some.inj e'
     exact Src.ofSlice w he ad _ cap cs hrr.len hc hrr.one
  | none =>
   rcases hcell with rfl | ⟨ad', e', hc⟩
   · have : cs = [] := List.eq_nil_of_length_eq_zero (by rw [hrr.len]; simp)
     subst this
     exact Src.ofNil w he cap
   · cases e'
 unfold srcOk at hs
 split at hs
 · rename_i s hu
   obtain ⟨b, rfl, hb⟩ := repT_str hr
   simp only [rowsOf, sJ, Prod.mk.injEq, beq_iff_eq] at h
   obtain ⟨rfl, rfl⟩ := h
   have e : (s.map byteRow).length = b.size := by rw [List.length_map, size_eq, hb]
   refine ⟨byteCells b, e ▸ Src.ofString w hu b, ⟨by rw [byteCells_length, Nat.mul_one, e], fun r hr => ?_, fun u hu => ?_, fun m row hm j hj => ?_⟩⟩
   · obtain ⟨_, _, rfl⟩ := List.mem_map.1 hr; rfl
   · obtain ⟨_, _, rfl⟩ := List.mem_map.1 hu; rfl
   · have hj0 : j = 0 := by omega
     subst hj0
     rw [List.getElem?_map, Option.map_eq_some_iff] at hm
     obtain ⟨y, hy, rfl⟩ := hm
     refine ⟨.int .u8 y.toNat, ?_, .pure _ _ (.int _ _)⟩
     simp only [byteCells, Nat.mul_one, Nat.add_zero, List.getElem?_map, hb, hy, Option.map_some]
 · exact hsl _ (by assumption) (.inl ⟨_, _, _, rfl⟩)
 · exact hsl _ (by assumption) (.inr ⟨_, _, _, _, _, rfl⟩)
 · rename_i e hu
   simp only [rowsOf, sJ, Prod.mk.injEq, true_and] at h
   subst h
   have := noTmp_of hr (by simp)
   cases this with
   | pure _ _ h =>
    cases h with
    | nonS ad cap => exact ⟨[], Src.ofSlice w hu ad 0 cap [] (by simp) (fun j u hj => by simp at hj) (fun u hu => by simp at hu), ⟨by simp, fun r hr => by simp at hr, fun u hu => by simp at hu, fun m row hm => by simp at hm⟩⟩
 · simp at hs
theorem grow_run {t tx ty e : TypeId} {sz by_ : Nat} (he : elemT P t = some e) (hs : sizeT P e = some sz) (hb : bytesT P e = some by_) (hz : zeroOk P e sz = true) (hb0 : by_ ≠ 0) {base : Option Addr} {len cap : Nat} {olds : List Value}
 (hold : (Builtin.firstCells sz len (.slice base len cap)).run P w.drew = .ok olds.toArray w.drew) (ho : olds.length = len * sz) {x : Value} {n : Nat} {news : List Value} (hsrc : Src P sz tx x n news w) (hg : cap < len + n)
 (hbig : (2 * (len + n) + 1000) * by_ ≤ 281474976710656) :
 ∃ c w' ds, (Builtin.append_ #[t, tx] ty #[.slice base len cap, x]).run P w = .ok (.slice (some ⟨w.heap.size, 0, none⟩) (len + n) c) w' ∧ Pushed w w' ds e (0, 0) ∧ len + n ≤ c ∧ ds.size = c * sz ∧
  ∀ j, j < (len + n) * sz → ds[j]? = (olds ++ news)[j]? := by
 have hu := elemT_some he
 unfold sizeT at hs
 unfold bytesT at hb
 obtain ⟨i, hi, rfl⟩ := Option.map_eq_some_iff.1 hs
 rw [hi] at hb
 simp only [Option.map_some, sJ] at hb
 subst hb
 unfold zeroOk at hz
 split at hz
 case h_2 => simp at hz
 rename_i z0 hzz
 simp only [beq_iff_eq] at hz
 unfold zeroT at hzz
 rw [hi] at hzz
 simp only at hzz
 split at hzz
 case h_2 => simp at hzz
 rename_i z hzi
 split at hzz
 case isFalse => simp at hzz
 rename_i hone
 simp only [sJ] at hzz
 have hzs : z.cells.size = i.size := by rw [← hz, ← hzz]; simp
 have h1 : 1 ≤ i.bytes := by omega
 have hneed : 2 * (len + n) + 1000 ≤ 281474976710656 := Nat.le_trans (Nat.le_mul_of_pos_right _ h1) hbig
 have hfit : Builtin.nextslicecap (len + n) cap * i.bytes ≤ 281474976710656 := Nat.le_trans (Nat.mul_le_mul_right _ (Nat.le_trans (nextslicecap_le hg) (by omega))) hbig
 have hrun := run_append_grow_src (P := P) w t tx ty e i z hu hi hzi base len cap olds hold x n news hsrc hg (by omega) hfit
 have hge := grownCap_ge w (len + n) cap e
 have hnl := hsrc.newsLen
 have hsize : (olds ++ news).length = (len + n) * i.size := by rw [List.length_append, ho, hnl, Nat.add_mul]
 refine ⟨_, _, _, hrun, ⟨rfl, rfl, rfl, rfl⟩, hge, ?_, fun j hj => ?_⟩
 · rw [Array.size_append, List.size_toArray, hsize]
   have : (Builtin.zeroCells z.cells (grownCap w (len + n) cap e - (len + n))).size = (grownCap w (len + n) cap e - (len + n)) * i.size := by simp [Builtin.zeroCells, hzs]
   rw [this, ← Nat.add_mul]
   congr 1; omega
 · rw [Array.getElem?_append_left (by rw [List.size_toArray, hsize]; exact hj)]
   simp
theorem firstCells_rows {sz : Nat} {ys : List Vs} {ao : Option Addr} {cap : Nat} {cs : List Value} (hrr : RowsRep w E H sz ys cs) (hc : ys = [] ∨ ∃ ad, ao = some ad ∧ ∀ j u, cs[j]? = some u → w.cell? (ad.add j) = some u) :
 (Builtin.firstCells sz ys.length (.slice ao ys.length cap)).run P w.drew = .ok cs.toArray w.drew := by
 have hl := hrr.len
 cases ao with
 | some ad =>
  rcases hc with rfl | ⟨ad', e', hc⟩
  · have : cs = [] := List.eq_nil_of_length_eq_zero (by rw [hl]; simp)
    subst this
    exact run_firstCells_some w.drew sz 0 ad 0 cap [] (by simp) (fun j u hj => by simp at hj)
  · cases Option.some.inj e'
    exact run_firstCells_some w.drew sz _ ad _ cap cs hl (by simpa using hc)
 | none =>
  rcases hc with rfl | ⟨ad', e', hc⟩
  · have : cs = [] := List.eq_nil_of_length_eq_zero (by rw [hl]; simp)
    subst this
    exact run_firstCells_none w.drew sz 0 0 cap
  · cases e'
theorem two_args {α : Type} {xs : Array α} {x y : α} (h : xs.size = 2) (h0 : xs[0]? = some x) (h1 : xs[1]? = some y) : xs = #[x, y] := by
 obtain ⟨l⟩ := xs
 match l, h with
 | [p, q], _ =>
  simp at h0 h1
  subst h0 h1
  rfl
theorem call_append {s x : Operand} {c : Call} (hc : c.callee = .builtin .append) (ha : c.args = #[s, x]) {t u : TypeId} (ht : c.argTypes = #[t, u]) {v : Value} (h : (Builtin.append_ #[t, u] type #[a.eval s, a.eval x]).run P w = .ok v w') :
 (execOp a.eval (mkO dst (.call c) type pos after guard)).run P w = .ok (.value v) w' := by
 simp only [execOp, resolve, hc, ha, ht, Sem.run_bind, Sem.run_pure, Result.andThen_ok, invoke, builtin, List.map_toArray, List.map_cons, List.map_nil, h]
theorem own_shape0 {k b c n sz : Nat} (hn : n ≤ c) : OwnShape (pushEnv E k b c) k 0 n false sz (some ⟨b, 0, none⟩) c :=
 ⟨hn, fun h => by simp at h, fun _ _ => by simp [pushEnv], by simpa [pushEnv] using hn, fun _ _ => by simp [pushEnv]⟩
theorem step_append (fs : FS w a E H β T B G) {c : Call} {t u : TypeId} {s x : Operand} (hv : okTmps G (mkO dst (.call c) type pos after guard)) (hc : c.callee = .builtin .append) (ht : c.argTypes[0]? = some t) (hs : c.args[0]? = some s)
 (hx : c.args[1]? = some x) (hu : c.argTypes[1]? = some u) (h2 : c.args.size = 2 ∧ c.argTypes.size = 2 ∧ srcOk (P.underlying u) (aeval T x) = true) {nl : Bool} (h : appendA P nl t B H (aeval T s) (aeval T x) = some r) (hok : r.ok = true) :
 Sound P w a E H β T G (mkO dst (.call c) type pos after guard) r := by
 have ha := two_args h2.1 hs hx
 have hat := two_args h2.2.1 ht hu
 have rs := okTmps_rep fs hv (x := s) (by simp [Op.operands, Call.operands, hc, ha])
 have rx := okTmps_rep fs hv (x := x) (by simp [Op.operands, Call.operands, hc, ha])
 have hsrc := h2.2.2
 generalize aeval T s = sv at *
 generalize aeval T x = xv at *
 unfold appendA at h
 split at h
 case h_1 => simp at h
 rename_i e he
 split at h
 case h_2 => simp at h
 rename_i sz by_ hsz hby
 split at h
 case h_2 => simp at h
 rename_i ok1 ys hys
 split at h
 · simp at h
 rename_i hcond
 have hz0 : 0 < sz := by omega
 have hb0 : by_ ≠ 0 := fun e => hcond (.inr (.inl e))
 have hzo : zeroOk P e sz = true := by
  cases e : zeroOk P _ sz with
  | true => rfl
  | false => exact absurd (.inr (.inr e)) hcond
 have hu' := elemT_some he
 have fit : ok1 = true → ∃ news, Src P sz u (a.eval x) ys.length news w ∧ RowsRep w E H sz ys news := fun e => rows_src fs hsrc (e ▸ hys) rx
 split at h
 · -- nil
   split at h
   case isFalse => simp at h
   simp only [sJ] at h
   subst h
   simp only [Bool.and_eq_true, List.isEmpty_iff] at hok
   obtain ⟨o1, rfl⟩ := hok
   obtain ⟨news, src, hnews⟩ := fit o1
   have hne : news = [] := List.eq_nil_of_length_eq_zero (by rw [hnews.len]; simp)
   subst hne
   have e2 := rep_nilX (noTmp_of rs (by simp))
   obtain ⟨i, hi, rfl⟩ := info_size hsz
   have run := run_append_nothing (P := P) w t u type e i hu' hi none 0 0 (Nat.le_refl _) (a.eval x) src
   refine Sound.pure fs (call_append hc ha hat (by rw [e2]; exact run)) ?_
   rw [e2] at rs; exact rs
 · -- a list
   rename_i n row
   split at h
   · simp only [sJ] at h
     subst h
     simp only [Bool.and_eq_true, beq_iff_eq, List.isEmpty_iff] at hok
     obtain ⟨⟨o1, rfl⟩, rfl⟩ := hok
     obtain ⟨news, src, hnews⟩ := fit o1
     have hne : news = [] := List.eq_nil_of_length_eq_zero (by rw [hnews.len]; simp)
     subst hne
     obtain ⟨ao, cap, e2, hle, hfull, _⟩ := rep_list (noTmp_of rs (by simp))
     have hcap := hfull rfl
     subst hcap
     obtain ⟨i, hi, rfl⟩ := info_size hsz
     have run := run_append_nothing (P := P) w t u type e i hu' hi ao 0 0 (Nat.le_refl _) (a.eval x) src
     refine Sound.pure fs (call_append hc ha hat (by rw [e2]; exact run)) ?_
     rw [e2] at rs; exact rs
   simp only [sJ] at h
   subst h
   simp only [Bool.and_eq_true, Bool.or_eq_true, decide_eq_true_eq, beq_iff_eq] at hok
   obtain ⟨⟨⟨o1, o2⟩, o3⟩, o4⟩ := hok
   obtain ⟨news, src, hnews⟩ := fit o1
   have hbase : rowsOf sz H (.list true n row) = some (true, (List.range n).map row) := by
    simp only [rowsOf, sJ, Prod.mk.injEq, and_true]
    simpa using o2
   obtain ⟨ao, cap, olds, e1, hrr, hcell⟩ := slice_rows fs (.inl ⟨_, _, _, rfl⟩) hbase rs
   obtain ⟨_, cap', e2, hle, hfull, _⟩ := rep_list (noTmp_of rs (by simp))
   rw [e1] at e2
   simp only [List.length_map, List.length_range, Value.slice.injEq] at e1 e2
   obtain ⟨-, -, rfl⟩ := e2
   have hcap := hfull rfl
   rcases Nat.eq_zero_or_pos ys.length with hy | hy
   · have hn : n = 0 := by omega
     subst hn
     subst hcap
     have hye : ys = [] := List.eq_nil_of_length_eq_zero hy
     subst hye
     have hne : news = [] := List.eq_nil_of_length_eq_zero (by rw [hnews.len]; simp)
     subst hne
     obtain ⟨i, hi, rfl⟩ := info_size hsz
     have run := run_append_nothing (P := P) w t u type e i hu' hi ao 0 0 (Nat.le_refl _) (a.eval x) src
     obtain ⟨ev, fs'⟩ := fresh_virtual fs hz0
     simp only [List.range_zero, List.map_nil, List.nil_append, List.length_nil, Nat.add_zero]
     refine ⟨_, _, _, β, ⟨.inl (call_append hc ha hat (by rw [e1]; exact run)), ev, fs', .val _ _ (.own _ _ _ _ _ _ _ i.size 0 (by simp [arrInfo]) (Nat.le_refl _) (fun _ => ?_)), fun _ _ h => .inl h⟩⟩
     exact ⟨Nat.le_refl _, fun h => by simp at h, fun _ _ => by simp [pushEnv], by simp, fun h => by simp [pushEnv] at h⟩
   · have hrl := hrr.len
     have hfc := firstCells_rows (P := P) (cap := cap) hrr hcell
     simp only [List.length_map, List.length_range] at hrl hfc
     obtain ⟨cc, w1, ds, run, hp, hge, hds, hcells⟩ := grow_run (P := P) (w := w) (tx := u) (ty := type) he hsz hby hzo hb0 hfc hrl src (by omega) o4
     have hall := hrr.append hnews
     obtain ⟨ev, fs'⟩ := fresh_obj fs hp (thawed0 _) (obj := .arr sz ((List.range n).map row ++ ys) 0) (c := cc) (fun cs e => by cases e) (fun sz' rows' u e => by
      cases e
      refine ⟨hz0, by simpa using hge, hall.rlen, by omega, fun j v hv => ?_⟩
      obtain ⟨c, k1, k2, k3⟩ := hall.cellAt hz0 j v hv
      have : j < (n + ys.length) * sz := by
       have := (List.getElem?_eq_some_iff.1 k1).1
       rw [hall.len] at this; simpa using this
      exact ⟨c, by rw [hcells j this]; exact k1, k2, k3⟩)
     exact ⟨_, _, _, β, ⟨.inl (call_append hc ha hat (by rw [e1]; exact run)), ev, fs', .val _ _ (.own _ _ _ _ _ _ _ sz 0 (by simp [arrInfo]) (Nat.le_refl _) (fun _ => own_shape0 hge)), fun _ _ h => .inl h⟩⟩
 · -- an array of one's own
   rename_i k off len ver clip
   split at h
   case h_2 => simp at h
   rename_i sz' rows v hk
   split at h
   case isFalse => simp at h
   rename_i hoz
   obtain ⟨rfl, rfl⟩ := hoz
   obtain ⟨k1, k2, k3, k4⟩ := fs.sim.arr k sz' rows v hk
   split at h
   · rename_i hclip
     subst hclip
     simp only [sJ] at h
     subst h
     simp only [Bool.and_eq_true, decide_eq_true_eq, beq_iff_eq] at hok
     obtain ⟨⟨⟨⟨o1, rfl⟩, o2⟩, o3⟩, o4⟩ := hok
     obtain ⟨news, src, hnews⟩ := fit o1
     have hbase : rowsOf sz' H (.own k 0 len v true) = some (true, rows.take len) := by
      simp [rowsOf, hk, o2]
     obtain ⟨ao, cap, olds, e1, hrr, hcell⟩ := slice_rows fs (.inr ⟨_, _, _, _, _, rfl⟩) hbase rs
     obtain ⟨_, cap', sz2, u', e2, g1, g2, g3⟩ := rep_own (noTmp_of rs (by simp))
     rw [e1] at e2
     have hll : (rows.take len).length = len := by simp; omega
     rw [hll] at e1 e2
     simp only [Value.slice.injEq] at e2
     obtain ⟨-, -, rfl⟩ := e2
     rw [arr_of_get hk] at g1
     simp only [sJ, Prod.mk.injEq] at g1
     obtain ⟨rfl, rfl⟩ := g1
     have hcap := (g3 rfl).2.1 rfl
     have hrl := hrr.len
     have hfc := firstCells_rows (P := P) (cap := cap) hrr hcell
     rw [hll] at hrl hfc
     obtain ⟨cc, w1, ds, run, hp, hge, hds, hcells⟩ := grow_run (P := P) (w := w) (tx := u) (ty := type) he hsz hby hzo hb0 hfc hrl src (by omega) o4
     have hall := hrr.append hnews
     obtain ⟨ev, fs'⟩ := fresh_obj fs hp (thawed0 _) (obj := .arr sz' (rows.take len ++ ys) 0) (c := cc) (fun cs e => by cases e) (fun sz' rows' u e => by
      cases e
      refine ⟨hz0, by rw [List.length_append, hll]; exact hge, hall.rlen, by omega, fun j v hv => ?_⟩
      obtain ⟨c, k1, k2, k3⟩ := hall.cellAt hz0 j v hv
      have : j < (len + ys.length) * sz' := by
       have := (List.getElem?_eq_some_iff.1 k1).1
       rw [hall.len, List.length_append, hll] at this; exact this
      exact ⟨c, by rw [hcells j this]; exact k1, k2, k3⟩)
     exact ⟨_, _, _, β, ⟨.inl (call_append hc ha hat (by rw [e1]; exact run)), ev, fs', .val _ _ (.own _ _ _ _ _ _ _ sz' 0 (by simp [arrInfo]) (Nat.le_refl _) (fun _ => own_shape0 hge)), fun _ _ h => .inl h⟩⟩
   · rename_i hclip
     have hclip : clip = false := by cases clip <;> simp_all
     subst hclip
     simp only [sJ] at h
     subst h
     simp only [Bool.and_eq_true, decide_eq_true_eq, beq_iff_eq] at hok
     obtain ⟨⟨⟨⟨o1, rfl⟩, rfl⟩, o4⟩, o5⟩ := hok
     obtain ⟨news, src, hnews⟩ := fit o1
     have hbase : rowsOf sz' H (.own k 0 rows.length v false) = some (true, rows) := by
      simp [rowsOf, hk]
     obtain ⟨ao, cap, olds, e1, hrr, hcell⟩ := slice_rows fs (.inr ⟨_, _, _, _, _, rfl⟩) hbase rs
     obtain ⟨_, cap', sz2, u', e2, g1, g2, g3⟩ := rep_own (noTmp_of rs (by simp))
     rw [e1] at e2
     simp only [Value.slice.injEq] at e2
     obtain ⟨rfl, -, rfl⟩ := e2
     rw [arr_of_get hk] at g1
     simp only [sJ, Prod.mk.injEq] at g1
     obtain ⟨rfl, rfl⟩ := g1
     obtain ⟨s1, s2, s3, s4, s5⟩ := g3 rfl
     have hcap := s3 rfl rfl
     have hrl := hrr.len
     have hall := hrr.append hnews
     have hallcell : ∀ (j : Nat) (v : AVal), cellAt sz' (rows ++ ys) j = some v → j < (rows.length + ys.length) * sz' ∧ ∃ c, (olds ++ news)[j]? = some c ∧ c.oneCell' = true ∧ Rep w E H v c := fun j v hv => by
      obtain ⟨c, k1, k2, k3⟩ := hall.cellAt hz0 j v hv
      refine ⟨?_, c, k1, k2, k3⟩
      have := (List.getElem?_eq_some_iff.1 k1).1
      rw [hall.len] at this; simpa using this
     rcases Nat.lt_or_ge cap (rows.length + ys.length) with hg | hg
     · have hfc := firstCells_rows (P := P) (cap := cap) hrr hcell
       obtain ⟨cc, w1, ds, run, hp, hge, hds, hcells⟩ := grow_run (P := P) (w := w) (tx := u) (ty := type) he hsz hby hzo hb0 hfc hrl src hg o4
       obtain ⟨ev, fs'⟩ := move_own fs hk (rows' := rows ++ ys) hp (thawed0 _) (c := cc) (by simpa using hge) hall.rlen (by omega) (fun j v hv => by
        obtain ⟨q, c, c1, c2, c3⟩ := hallcell j v hv
        exact ⟨c, by rw [hcells j q]; exact c1, c2, c3⟩) o5
       exact ⟨_, _, _, β, ⟨.inl (call_append hc ha hat (by rw [e1]; exact run)), ev, fs', .val _ _ (.own _ _ _ _ _ _ _ sz' (v + 1) (by rw [arrInfo_setArr hk, if_pos rfl]) (Nat.le_refl _) (fun _ => own_shape0 hge)), fun _ _ h => .inl h⟩⟩
     · by_cases h0 : E.cap k = 0
       · have hr0 : rows = [] := List.eq_nil_of_length_eq_zero (by omega)
         have hy0 : ys = [] := List.eq_nil_of_length_eq_zero (by omega)
         subst hr0 hy0
         have hne : news = [] := List.eq_nil_of_length_eq_zero (by rw [hnews.len]; simp)
         subst hne
         obtain ⟨i, hi, rfl⟩ := info_size hsz
         have run := run_append_nothing (P := P) w t u type e i hu' hi ao 0 cap (by omega) (a.eval x) src
         obtain ⟨ev, fs'⟩ := bump_virtual fs hk h0
         simp only [List.nil_append, List.length_nil, Nat.add_zero]
         refine ⟨_, _, _, β, ⟨.inl (call_append hc ha hat (by rw [e1]; exact run)), ev, fs', .val _ _ (.own _ _ _ _ _ _ _ i.size (v + 1) (by rw [arrInfo_setArr hk, if_pos rfl]) (Nat.le_refl _) (fun _ => ?_)), fun _ _ h => .inl h⟩⟩
         exact ⟨by omega, fun h => by simp at h, fun _ _ => hcap, by omega, fun h => absurd h0 h⟩
       · have hao := s5 h0 (.inr ⟨rfl, rfl⟩)
         simp only [Nat.zero_mul] at hao
         subst hao
         have kb := k4 h0
         have hle2 : (rows.length + ys.length) * sz' ≤ E.cap k * sz' := Nat.mul_le_mul_right _ (by omega)
         rw [Nat.add_mul] at hle2
         have hnl := hnews.len
         obtain ⟨i, hi, rfl⟩ := info_size hsz
         have run := run_append_room_src (P := P) w t u type e i hu' hi (E.φ k) 0 rows.length cap (a.eval x) ys.length news src hg
          (fun j hj => (kb.some (j := 0 + rows.length * i.size + j) (by omega)).1) (fun j hj => (kb.some (j := 0 + rows.length * i.size + j) (by omega)).2)
         simp only [Nat.zero_add] at run
         obtain ⟨ev, fs'⟩ := bump_own fs hk (rows' := rows ++ ys) (off := rows.length * i.size) (vs := news) h0 (by simp; omega) hall.rlen (by omega) hnews.one
          (fun j v h1 h2 hv => by
           obtain ⟨q, c, c1, c2, c3⟩ := hallcell j v hv
           rw [List.getElem?_append_right (by omega), hrl] at c1
           rw [gQ, c1]; exact c3)
          (fun j v hn hv => by
           obtain ⟨q, _⟩ := hallcell j v hv
           rw [Nat.add_mul] at q
           have hj : j < rows.length * i.size := by omega
           unfold Mu.cellAt at hv ⊢
           rwa [List.getElem?_append_left (Nat.div_lt_of_lt_mul (by rw [Nat.mul_comm]; exact hj))] at hv)
         refine ⟨_, _, _, β, ⟨.inl (call_append hc ha hat (by rw [e1]; exact run)), ev, fs', .val _ _ (.own _ _ _ _ _ _ _ i.size (v + 1) (by rw [arrInfo_setArr hk, if_pos rfl]) (Nat.le_refl _) (fun _ => ?_)), fun _ _ h => .inl h⟩⟩
         exact ⟨hg, fun h => by simp at h, fun _ _ => hcap, by omega, fun _ _ => by simp⟩
 · simp at h
end Go.Mu
namespace Go.Mu
open Go
variable {P : Program} {fh : FH} {w w' : World} {a : Act} {E E' : Env} {H H' : Heap} {β : Nat → Option Nat} {T : Vs} {B : Boxes} {G : Tags}
 {dst : Option Nat} {type : TypeId} {pos : String} {after : Array Edge} {guard : Option (Nat × Bool)} {r : SR}
theorem conv_exec {s d : TypeId} {x : Operand} {v : Value} (h : (convert s d (a.eval x)).run P w = .ok v w') : (execOp a.eval (mkO dst (.convert s d x) type pos after guard)).run P w = .ok (.value v) w' := by
 simp [execOp, h]
theorem bytesRow_get {b : ByteArray} {cap : Nat} {j : Nat} (h : j < b.size) : (bytesRow b cap)[j]? = some (.int .u8 ((b.data.toList.getD j 0).toNat : Int)) := by
 have hl : j < b.data.size := h
 unfold bytesRow
 rw [Array.getElem?_append_left (by simpa using hl)]
 simp only [Array.getElem?_map, Array.getElem?_eq_getElem hl, Option.map_some, gQ, Array.getElem?_toList]
 rfl
theorem bytesRow_size {b : ByteArray} {cap : Nat} (h : b.size ≤ cap) : (bytesRow b cap).size = cap := by
 have : b.data.size = b.size := rfl
 simp [bytesRow]; omega
theorem byte_back (rows : List Vs) (cs : List Value) (hrr : RowsRep w E H 1 rows cs) (h : rows.all isByteRow = true) : cs = (rows.map fun r => intOf (r.getD 0 .undef)).map (Value.int .u8) := by
 apply List.ext_getElem?
 intro j
 rcases Nat.lt_or_ge j rows.length with g | g
 · have hb := List.all_eq_true.1 h _ (List.getElem_mem g)
   obtain ⟨c, k1, k2⟩ := hrr.cell j _ (List.getElem?_eq_getElem g) 0 (by omega)
   rw [Nat.mul_one, Nat.add_zero] at k1
   rw [k1]
   simp only [List.map_map, List.getElem?_map, List.getElem?_eq_getElem g, Option.map_some, Function.comp]
   generalize rows[j] = r at *
   unfold isByteRow at hb
   split at hb
   · rename_i v
     unfold isInt at hb
     split at hb
     · simp only [decide_eq_true_eq] at hb
       subst hb
       simp only [List.getD_cons_zero] at k2 ⊢
       rw [rep_int k2]; rfl
     · simp at hb
   · simp at hb
 · rw [List.getElem?_eq_none (by rw [hrr.len]; omega), List.getElem?_eq_none (by simpa using g)]
theorem rows_kind {sz : Nat} {xv : AVal} {ok : Bool} {rows : List Vs} (h : rowsOf sz H xv = some (ok, rows)) (hns : ∀ s, xv = .str s → False) (hns2 : xv = .nonS → False) : (∃ full n row, xv = .list full n row) ∨ (∃ k off len ver clip, xv = .own k off len ver clip) := by
 unfold rowsOf at h
 split at h
 · exact .inl ⟨_, _, _, rfl⟩
 · exact .inr ⟨_, _, _, _, _, rfl⟩
 · exact absurd rfl (hns _)
 · exact (hns2 rfl).elim
 · simp at h
theorem step_convert (fs : FS w a E H β T B G) {s d : TypeId} {x : Operand} {o : Bool} (hv : okTmps G (mkO dst (.convert s d x) type pos after guard)) (h : convA P o B H s d (aeval T x) = some r) (hok : r.ok = true) :
 Sound P w a E H β T G (mkO dst (.convert s d x) type pos after guard) r := by
 have rx := okTmps_rep fs hv (x := x) (by simp [Op.operands])
 generalize aeval T x = xv at *
 unfold convA at h
 split at h
 · rename_i te i off hs hd
   simp only [sJ] at h
   subst h
   unfold toUnsafe at hok
   split at hok
   · rename_i nt n j hnote hj
     simp only [Bool.and_eq_true, decide_eq_true_eq, bne_iff_ne, ne_eq] at hok
     obtain ⟨e, hvar⟩ := rep_ptrH (noTmp_of rx (by simp))
     obtain ⟨cs, fr, hb, hsz⟩ := fs.sim.note (i + 1) nt n hnote (.inl hvar)
     have hsh : w.shape? (E.φ i) = some (nt, n) := by
      simp only [Nat.add_sub_cancel] at hb
      simp only [World.shape?, hb]
      rw [hsz (by omega)]
     refine Sound.pure fs (c := .pointer (some ⟨E.φ i, off, none⟩)) (conv_exec ?_) (.val _ _ (.ptrH _ _ hvar))
     rw [e]
     exact Lib.run_to_unsafe (w := w) ⟨E.φ i, off, none⟩ hs hd hj hok.2 hsh hok.1
   · simp at hok
 · rename_i u i off hs hd
   simp only [sJ] at h
   subst h
   unfold ofUnsafe at hok
   split at hok
   · rename_i nt n j hnote hj
     simp only [Bool.and_eq_true, bne_iff_ne, ne_eq] at hok
     obtain ⟨e, hvar⟩ := rep_ptrH (noTmp_of rx (by simp))
     obtain ⟨cs, fr, hb, hsz⟩ := fs.sim.note (i + 1) nt n hnote (.inl hvar)
     have hsh : w.shape? (E.φ i) = some (nt, n) := by
      simp only [Nat.add_sub_cancel] at hb
      simp only [World.shape?, hb]
      rw [hsz hok.1]
     refine Sound.pure fs (c := .pointer (some ⟨E.φ i, off, none⟩)) (conv_exec ?_) (.val _ _ (.ptrH _ _ hvar))
     rw [e]
     exact Lib.run_from_unsafe (w := w) ⟨E.φ i, off, none⟩ hs hd hj hsh hok.2
   · simp at hok
 · rename_i q k k' n hs hd
   simp only [sJ] at h
   subst h
   have e := repT_int rx
   refine Sound.pure fs (c := .int k (k.wrap n)) (conv_exec ?_) (.int _ _)
   rw [e]
   simp [convert, run_underlying hs, run_underlying hd, Conv.intToInt]
 · rename_i q y hs hd
   simp only [sJ] at h
   subst h
   obtain ⟨b, e, hb⟩ := repT_str rx
   refine Sound.pure fs (c := .string b) (conv_exec ?_) (.str' hb)
   rw [e]
   simp [convert, run_underlying hs, run_underlying hd]
 · rename_i e y hs hd
   split at h
   case h_2 => simp at h
   rename_i he
   obtain ⟨b, ex, hb⟩ := repT_str rx
   have hlen : y.length = b.size := by rw [size_eq, hb]
   have hge := grownCap_ge w b.size 0 e
   have run := run_bytes_of_string (P := P) w s d e b hs hd he
   have hbs := bytesRow_size hge
   have hp : Pushed w (w.drew.alloc (.cells (bytesRow b (grownCap w b.size 0 e)) e ((bytesRow b (grownCap w b.size 0 e)).size, (bytesRow b (grownCap w b.size 0 e)).size + 1))) (bytesRow b (grownCap w b.size 0 e)) e _ := ⟨rfl, rfl, rfl, rfl⟩
   have hth : thawed ((bytesRow b (grownCap w b.size 0 e)).size, (bytesRow b (grownCap w b.size 0 e)).size + 1) (bytesRow b (grownCap w b.size 0 e)).size := fun o ho hh => by simp only at hh; omega
   split at h
   · simp only [sJ] at h
     subst h
     obtain ⟨ev, fs'⟩ := fresh_obj fs hp hth (obj := .arr 1 (y.map byteRow) 0) (c := grownCap w b.size 0 e) (fun cs e => by cases e) (fun sz' rows' u e => by
      cases e
      refine ⟨by omega, by rw [List.length_map, hlen]; exact hge, fun r hr => by obtain ⟨_, _, rfl⟩ := List.mem_map.1 hr; rfl, by omega, fun j v hv => ?_⟩
      unfold cellAt at hv
      rw [Option.bind_eq_some_iff] at hv
      obtain ⟨row, h1, h2⟩ := hv
      simp only [Nat.div_one, Nat.mod_one] at h1 h2
      rw [List.getElem?_map, Option.map_eq_some_iff] at h1
      obtain ⟨c, hc, rfl⟩ := h1
      simp only [byteRow, List.getElem?_cons_zero, sJ] at h2
      subst h2
      have hj : j < b.size := by rw [← hlen]; exact (List.getElem?_eq_some_iff.1 hc).1
      refine ⟨_, bytesRow_get hj, rfl, ?_⟩
      rw [hb, gQ, hc]
      exact .pure _ _ (.int _ _))
     exact ⟨_, _, _, β, ⟨.inl (conv_exec (by rw [ex]; exact run)), ev, fs', .val _ _ (by rw [hlen]; exact .own _ _ _ _ _ _ _ 1 0 (by simp [arrInfo]) (Nat.le_refl _) (fun _ => own_shape0 hge)), fun _ _ h => .inl h⟩⟩
   · simp only [sJ] at h
     subst h
     obtain ⟨ev, fs'⟩ := fresh_imm fs hp
     refine ⟨_, _, _, β, ⟨.inl (conv_exec (by rw [ex]; exact run)), ev, fs', .val _ _ (.pure _ _ ?_), fun _ _ h => .inl h⟩⟩
     rw [hlen]
     refine .list false b.size _ _ 0 _ 1 (fun i j => .int .u8 ((y.getD i 0).toNat : Int)) hge (fun h => by simp at h) (Or.inr rfl) (fun i hi => rfl) (fun i j hi hj => ?_) (fun i j hi hj => ?_)
     · rw [cell?_block hp.new, show 0 + i * 1 + j = i by omega, bytesRow_get hi, hb]
       exact ⟨rfl, rfl⟩
     · have : j = 0 := by omega
       subst this
       exact .int _ _
 · rename_i e hs hd _
   split at h
   case h_2 => simp at h
   rename_i he
   split at h
   · simp at h
   · simp at h
   rename_i hns hns2
   split at h
   case h_2 => simp at h
   rename_i ok rows hrows
   simp only [sJ] at h
   subst h
   simp only [Bool.and_eq_true] at hok
   obtain ⟨rfl, hall⟩ := hok
   have hx := rows_kind hrows hns hns2
   obtain ⟨ao, cap, cs, ex, hrr, hcell⟩ := slice_rows fs hx hrows rx
   have hcs := byte_back rows cs hrr hall
   have hstr : ∀ b : ByteArray, b.data.toList = rows.map byteOf → (convert s d (.slice ao rows.length cap)).run P w = .ok (.string b) w → Sound P w a E H β T G (mkO dst (.convert s d x) type pos after guard) ⟨true && rows.all isByteRow, .str (rows.map byteOf), B, H⟩ := fun b hb hrun =>
    Sound.pure fs (c := .string b) (conv_exec (by rw [ex]; exact hrun)) (.str' hb)
   rw [hall] at hstr
   refine (hall ▸ hstr ⟨(rows.map byteOf).toArray⟩ rfl ?_)
   rw [run_convert_bytes_string w s d e ao _ cap hs he hd]
   have hpush : ∀ (l : List Vs) (r : ByteArray), (l.map fun r => intOf (r.getD 0 .undef)).foldl (fun r n => r.push (UInt8.ofNat n.toNat)) r = ⟨r.data ++ (l.map byteOf).toArray⟩ := by
    intro l
    induction l with
    | nil => intro r; simp
    | cons x l ih => intro r; simp only [List.map_cons, List.foldl_cons]; rw [ih]; simp [ByteArray.push, byteOf]
   have hload : ∀ ad, ao = some ad → (∀ j u, cs[j]? = some u → w.cell? (ad.add j) = some u) → (Conv.bytesToString (.slice ao rows.length cap)).run P w = .ok (.string ⟨(rows.map byteOf).toArray⟩) w := by
    intro ad hao hc
    subst hao
    have hl := run_loadCells_list (P := P) w ad cs hc
    rw [hrr.len, Nat.mul_one] at hl
    rw [hcs] at hl
    rw [run_bytesToString w ad rows.length cap _ hl, hpush]
    have he0 : ByteArray.empty.data = #[] := rfl
    rw [he0]; simp
   rcases hcell with rfl | ⟨ad, rfl, hc⟩
   · cases ao with
     | none => simp [Conv.bytesToString]; rfl
     | some ad => exact hload ad rfl (fun j u hj => by
      have : cs = [] := List.eq_nil_of_length_eq_zero (by rw [hrr.len]; simp)
      rw [this] at hj; simp at hj)
   · exact hload ad rfl hc
 · simp at h
end Go.Mu
namespace Go.Mu
open Go
variable {P : Program} {fh : FH} {w w' : World} {a : Act} {E E' : Env} {H H' : Heap} {β : Nat → Option Nat} {T : Vs} {B : Boxes} {G : Tags}
 {dst : Option Nat} {type : TypeId} {pos : String} {after : Array Edge} {guard : Option (Nat × Bool)} {r : SR}
abbrev putBlk (w : World) (b : Nat) (o : Go.Obj) : World := { w with heap := w.heap.setIfInBounds b o }
theorem putBlk_other {b x : Nat} (h : x ≠ b) (o : Go.Obj) : (putBlk w b o).heap[x]? = w.heap[x]? := by
 simp [putBlk, Array.getElem?_setIfInBounds, Ne.symm h]
theorem set_same_map {k : Nat} {kk : IntKind} {old new : List (Int × AVal)} (hk : H[k]? = some (.map kk old)) : (∀ l, isVar (H.set k (.map kk new)) l = isVar H l) ∧ ∀ l, arrInfo (H.set k (.map kk new)) l = arrInfo H l := by
 have hlt : k < H.length := get_lt hk
 constructor <;> intro l <;> by_cases e : l = k
 · subst e; simp [isVar, List.getElem?_set_self hlt, hk]
 · simp [isVar, List.getElem?_set_ne (Ne.symm e)]
 · subst e; simp [arrInfo, List.getElem?_set_self hlt, hk]
 · simp [arrInfo, List.getElem?_set_ne (Ne.symm e)]
abbrev mPr (e : MapEntry) : Value × Value := (e.key, e.val)
abbrev aPr (kk : IntKind) (e : Int × AVal) : Value × Value := (.int kk e.1, scOf e.2)
theorem put_map (fs : FS w a E H β T B G) {k : Nat} {kk : IntKind} {es es' : List (Int × AVal)} {ms : Array MapEntry} {cl : Nat} (hk : H[k]? = some (.map kk es))
 (hq : ms.toList.map mPr = es'.map (aPr kk)) :
 Evo (Xβ β) w E H (putBlk w (E.φ k) (.map ms cl)) E (H.set k (.map kk es')) ∧ FS (putBlk w (E.φ k) (.map ms cl)) a E (H.set k (.map kk es')) β T B G := by
 have hlv : live E H k := .inl (map_isVar hk)
 obtain ⟨ap1, ap2⟩ := fs.sim.apart k hlv
 obtain ⟨hi, ha⟩ := set_same_map (new := es') hk
 have hsz : (putBlk w (E.φ k) (.map ms cl)).heap.size = w.heap.size := by simp [putBlk]
 have ev : Evo (Xβ β) w E H (putBlk w (E.φ k) (.map ms cl)) E (H.set k (.map kk es')) :=
  ⟨by rw [hsz]; exact Nat.le_refl _, fun x hx hn hk' => putBlk_other (fun e => hk' k hlv e.symm) _, fun x hx => ⟨hx, putBlk_other (fun e => by subst e; exact ap1 hx) _⟩, fun x hx => .inl hx,
   fun l hl => ⟨by rw [hi]; exact hl, rfl⟩, fun l sz u hl => ⟨u, by rw [ha]; exact hl, Nat.le_refl _, fun _ => ⟨rfl, fun _ => rfl⟩⟩, fun l hl => .inr ⟨(live_congr hi ha l).1 hl, rfl⟩, by simp, rfl, rfl, rfl⟩
 have hs := ev.sees
 have sim : Sim (putBlk w (E.φ k) (.map ms cl)) E (H.set k (.map kk es')) := by
  refine fs.sim.set hi ha hs (by rw [hsz]; exact Nat.le_refl _) (fun l hl hll => putBlk_other (fun e => hl (fs.sim.inj l k hll hlv e)) _) (fun cs e => by cases e) (fun sz rows u e => by cases e) (fun t n e => by cases e) (fun t n h => ?_) (fun kk' es'' e => ?_)
  · obtain ⟨ms0, cl0, h0, _⟩ := fs.sim.map k kk es hk
    obtain ⟨cs, fr, h1, _⟩ := h
    rw [h0] at h1; cases h1
  · cases e
    exact ⟨ms, cl, by simp [putBlk, Array.getElem?_setIfInBounds, ap2], hq⟩
 exact ⟨ev, fs.keep sim hs (by rw [hsz]; exact Nat.le_refl _) (fun t b hb => (fs.box t b hb).1) (fun t b hb l hll => (fs.box t b hb).2.2.1 l ((live_congr hi ha l).1 hll))
  (fun t b hb => putBlk_other (fun e => (fs.box t b hb).2.2.1 k hlv e.symm) _)⟩
theorem find_cases (kk kk' : IntKind) (n : Int) : ∀ (es : List (Int × AVal)) (ml : List MapEntry) (i : Nat), ml.map mPr = es.map (aPr kk) →
 (mpFind n es = none ∧ Instr.findNow (.int kk') (.int kk n) ml i = some none ∧ (∀ (v : AVal) (b : Nat), (ml ++ [(⟨.int kk n, scOf v, b⟩ : MapEntry)]).map mPr = (mpPut n v es).map (aPr kk)) ∧ mpDel n es = es) ∨
 (∃ j v, mpFind n es = some v ∧ Instr.findNow (.int kk') (.int kk n) ml i = some (some (i + j, scOf v)) ∧ ((ml[j]?).map (·.key)) = some (.int kk n) ∧
  (∀ u, (ml.modify j (fun e => { e with key := .int kk n, val := scOf u })).map mPr = (mpPut n u es).map (aPr kk)) ∧ (ml.eraseIdx j).map mPr = (mpDel n es).map (aPr kk))
 | [], ml, i, h => by
  have : ml = [] := by simpa using h
  subst this
  exact .inl ⟨rfl, rfl, fun _ _ => rfl, rfl⟩
 | (m, v) :: es, ml, i, h => by
  cases ml with
  | nil => simp at h
  | cons e ml =>
   simp only [List.map_cons, List.cons.injEq, Prod.mk.injEq] at h
   obtain ⟨⟨h1, h2⟩, h3⟩ := h
   cases hb : n == m with
   | true =>
    refine .inr ⟨0, v, by simp [mpFind, hb], by simp [Instr.findNow, Instr.sameNow, h1, h2, hb], ?_, fun u => ?_, ?_⟩
    · rw [← (eq_of_beq hb)] at h1; simp [h1]
    · simp [mpPut, hb, h3]
    · simp [mpDel, hb, h3]
   | false =>
    rcases find_cases kk kk' n es ml (i + 1) h3 with ⟨g1, g2, g3, g4⟩ | ⟨j, u, g1, g2, g3, g4, g5⟩
    · refine .inl ⟨by simp [mpFind, hb, g1], by simp [Instr.findNow, Instr.sameNow, h1, hb, g2], fun x b => ?_, by simp [mpDel, hb, g4]⟩
      have := g3 x b
      simp only [List.cons_append, List.map_cons, mpPut, hb, cond_false, this]
      simp [h1, h2]
    · refine .inr ⟨j + 1, u, by simp [mpFind, hb, g1], ?_, by simpa using g3, fun x => ?_, ?_⟩
      · simp [Instr.findNow, Instr.sameNow, h1, hb, g2]; omega
      · have := g4 x
        simp only [List.modify_succ_cons, List.map_cons, mpPut, hb, cond_false, this]
        simp [h1, h2]
      · simp only [List.eraseIdx_cons_succ, List.map_cons, mpDel, hb, cond_false, g5]
        simp [h1, h2]
theorem mapT_some {t : TypeId} {k : IntKind} {e : TypeId} (h : mapT P t = some (k, e)) : ∃ kt, P.underlying t = some (.map kt e) ∧ P.underlying kt = some (.int k) := by
 unfold mapT at h
 split at h
 · rename_i kt e' hu
   split at h
   · rename_i k' hk
     simp only [sJ, Prod.mk.injEq] at h
     obtain ⟨rfl, rfl⟩ := h
     exact ⟨kt, hu, hk⟩
   · simp at h
 · simp at h
theorem checkKey_int {kt : TypeId} {k : IntKind} (hk : P.underlying kt = some (.int k)) (b : Bool) (n : Int) : (Instr.checkKey b 10000 kt (.int k n)).run P w = .ok () w := by
 have : ∀ m, (Instr.checkKey b (m + 1) kt (.int k n)).run P w = .ok () w := fun m => by
  rw [Instr.checkKey]; simp [run_underlying hk]
 exact this 9999
theorem keyStays {k : IntKind} {n : Int} : (Instr.keyThatStays (.int k n) (.int k n)).run P w = .ok (.int k n) w := by
 have : Instr.sameBits 10000 (.int k n) (.int k n) = true := by rw [Instr.sameBits]; simp
 simp [Instr.keyThatStays, this]
theorem isSc_rep {v : AVal} (h : isSc v = true) : Rep w E H v (scOf v) := by
 cases v <;> simp [isSc] at h
 · exact .pure _ _ (.bool _)
 · exact .pure _ _ (.int _ _)
theorem step_makeMap (fs : FS w a E H β T B G) {t : TypeId} {x : Option Operand} (hv : okTmps G (mkO dst (.makeMap t x) type pos after guard))
 (h : newMapA P B H t (x.map (aeval T)) = some r) (hok : r.ok = true) : Sound P w a E H β T G (mkO dst (.makeMap t x) type pos after guard) r := by
 unfold newMapA at h
 split at h
 case h_2 => simp at h
 rename_i k e hm
 obtain ⟨kt, hu, hk⟩ := mapT_some hm
 simp only [sJ] at h; subst h
 simp only at hok
 obtain ⟨ev, fs'⟩ := fresh_map fs (w' := w.alloc (.map #[] 0)) (cl := 0) ⟨rfl, rfl, rfl, rfl⟩ k
 have hrun : (execOp a.eval (mkO dst (.makeMap t x) type pos after guard)).run P w = .ok (.value (.map (some w.heap.size))) (w.alloc (.map #[] 0)) := by
  cases x with
  | none => simp [execOp, Instr.makeMap]
  | some y =>
   have ry := okTmps_rep fs hv (x := y) (by simp [Op.operands])
   simp only [Option.map_some] at hok
   unfold hintOk at hok
   split at hok
   · rename_i hx; simp at hx
   · rename_i k' n' hx
     simp only [sJ] at hx
     rw [hx] at ry
     have e1 : (asInt (.int k' n')).run P w = .ok n' w := rfl
     simp [execOp, Instr.makeMap, repT_int ry, run_underlying hu, e1]
   · simp at hok
 refine ⟨_, _, _, β, ⟨.inl hrun, ev, fs', .val _ _ ?_, fun _ _ h => .inl h⟩⟩
 have h0 := Rep.mapH (w := w.alloc (.map #[] 0)) (E := pushEnv E H.length w.heap.size 0) (H := H ++ [.map k []]) H.length (by simp [isVar])
 simpa [pushEnv] using h0
theorem step_lookup (fs : FS w a E H β T B G) {t : TypeId} {x i : Operand} {ok : Bool} (hv : okTmps G (mkO dst (.lookup t x i ok) type pos after guard))
 (h : val B H (lookA P H t (aeval T x) (aeval T i) ok) = some r) (hok : r.ok = true) : Sound P w a E H β T G (mkO dst (.lookup t x i ok) type pos after guard) r := by
 obtain ⟨ok', v, h1, rfl⟩ := val_some h
 simp only at hok; subst hok
 have rx := okTmps_rep fs hv (x := x) (by simp [Op.operands])
 have ri := okTmps_rep fs hv (x := i) (by simp [Op.operands])
 unfold lookA at h1
 split at h1
 case h_2 => simp at h1
 rename_i k e m k' n hm hx hi
 obtain ⟨kt, hu, hk⟩ := mapT_some hm
 split at h1
 case h_2 => simp at h1
 rename_i kk es z hmk hz
 simp only [sJ, Prod.mk.injEq, Bool.and_eq_true, decide_eq_true_eq] at h1
 obtain ⟨⟨⟨rfl, rfl⟩, hsc⟩, rfl⟩ := h1
 rw [hx] at rx; rw [hi] at ri
 obtain ⟨ex, _⟩ := rep_map (noTmp_of rx (by simp))
 have ei := repT_int ri
 obtain ⟨ms, cl, hb, hq⟩ := fs.sim.map m kk es hmk
 obtain ⟨zc, hzr, hzrep⟩ := zeroV_run hz w
 have hchk := checkKey_int (P := P) (w := w) hk ms.isEmpty n
 rcases find_cases kk kk n es ms.toList 0 hq with ⟨g1, g2, g3, g4⟩ | ⟨j, u, g1, g2, g3, g4, g5⟩
 · refine Sound.pure fs (c := if ok then .tuple #[zc, .bool false] else zc) ?_ ?_
   · simp [execOp, Instr.lookup, ex, ei, run_underlying hu, MapKept.run_getObj_map hb, hchk, Instr.findKey, run_underlying hk, g2, hzr, Result.andThen]
   · simp only [g1, Option.getD_none, Option.isSome_none]
     cases ok with
     | true => exact .val _ _ (.pure _ _ (.tuple [z, .bool false] [zc, .bool false] rfl (fun j hj => by
      rcases j with _ | _ | j
      · exact hzrep _
      · exact .bool _
      · simp at hj; omega)))
     | false => exact .val _ _ (.pure _ _ (hzrep _))
 · simp only [g1, Option.getD_some] at hsc
   refine Sound.pure fs (c := if ok then .tuple #[scOf u, .bool true] else scOf u) ?_ ?_
   · simp [execOp, Instr.lookup, ex, ei, run_underlying hu, MapKept.run_getObj_map hb, hchk, Instr.findKey, run_underlying hk, g2, Result.andThen]
   · simp only [g1, Option.getD_some, Option.isSome_some]
     cases ok with
     | true => exact .val _ _ (.tuple [u, .bool true] [scOf u, .bool true] rfl (fun j hj => by
      rcases j with _ | _ | j
      · exact isSc_rep hsc
      · exact .pure _ _ (.bool _)
      · simp at hj; omega))
     | false => exact .val _ _ (isSc_rep hsc)
theorem step_put (fs : FS w a E H β T B G) {t : TypeId} {x i y : Operand} (hv : okTmps G (mkO dst (.mapUpdate t x i y) type pos after guard))
 (h : putA P B H t (aeval T x) (aeval T i) (aeval T y) = some r) (hok : r.ok = true) : Sound P w a E H β T G (mkO dst (.mapUpdate t x i y) type pos after guard) r := by
 have rx := okTmps_rep fs hv (x := x) (by simp [Op.operands])
 have ri := okTmps_rep fs hv (x := i) (by simp [Op.operands])
 have ry := okTmps_rep fs hv (x := y) (by simp [Op.operands])
 unfold putA at h
 split at h
 case h_2 => simp at h
 rename_i k e m k' n hm hx hi
 obtain ⟨kt, hu, hk⟩ := mapT_some hm
 split at h
 case h_2 => simp at h
 rename_i kk es hmk
 simp only [sJ] at h; subst h
 simp only [Bool.and_eq_true, decide_eq_true_eq] at hok
 obtain ⟨⟨rfl, rfl⟩, hsc⟩ := hok
 rw [hx] at rx; rw [hi] at ri
 obtain ⟨ex, _⟩ := rep_map (noTmp_of rx (by simp))
 have ei := repT_int ri
 have ey : a.eval y = scOf (aeval T y) := by
  generalize aeval T y = v at ry hsc
  cases v <;> simp [isSc] at hsc
  · exact repT_bool ry
  · exact repT_int ry
 obtain ⟨ms, cl, hb, hq⟩ := fs.sim.map m kk es hmk
 have hchk := checkKey_int (P := P) (w := w) hk false n
 rcases find_cases kk kk n es ms.toList 0 hq with ⟨g1, g2, g3, g4⟩ | ⟨j, u, g1, g2, g3, g4, g5⟩
 · obtain ⟨ev, fs'⟩ := put_map fs (cl := cl + 1) (es' := mpPut n (aeval T y) es) (ms := ms.push ⟨.int kk n, scOf (aeval T y), cl⟩) hmk (by simpa using g3 (aeval T y) cl)
   refine ⟨_, _, E, β, ⟨.inr ⟨?_, rfl⟩, ev, fs', .undef _, fun _ _ h => .inl h⟩⟩
   simp [execOp, Instr.mapUpdate, ex, ei, ey, run_underlying hu, MapKept.run_getObj_map hb, hchk, Instr.findKey, run_underlying hk, g2, MapKept.run_setObj_map _ hb, Result.andThen]
 · have hkey : ((ms[j]?).map (·.key)).getD (.int kk n) = .int kk n := by
    have : (ms[j]?).map (·.key) = some (.int kk n) := by simpa using g3
    rw [this]; rfl
   obtain ⟨ev, fs'⟩ := put_map fs (cl := cl) (es' := mpPut n (aeval T y) es) (ms := ms.modify j (fun e => { e with key := .int kk n, val := scOf (aeval T y) })) hmk (by simpa using g4 (aeval T y))
   refine ⟨_, _, E, β, ⟨.inr ⟨?_, rfl⟩, ev, fs', .undef _, fun _ _ h => .inl h⟩⟩
   simp only [Nat.zero_add] at g2
   simp [execOp, Instr.mapUpdate, ex, ei, ey, run_underlying hu, MapKept.run_getObj_map hb, hchk, Instr.findKey, run_underlying hk, g2, hkey, keyStays, MapKept.run_setObj_map _ hb, Result.andThen]
theorem call_delete {x i : Operand} {c : Call} (hc : c.callee = .builtin .delete) (ha : c.args = #[x, i]) {v : Value} (h : (Builtin.delete_ c.argTypes type #[a.eval x, a.eval i]).run P w = .ok v w') :
 (execOp a.eval (mkO dst (.call c) type pos after guard)).run P w = .ok (.value v) w' := by
 simp only [execOp, resolve, hc, ha, Sem.run_bind, Sem.run_pure, Result.andThen_ok, invoke, builtin, List.map_toArray, List.map_cons, List.map_nil, h]
theorem step_delete (fs : FS w a E H β T B G) {c : Call} {t : TypeId} {x i : Operand} (hv : okTmps G (mkO dst (.call c) type pos after guard)) (hc : c.callee = .builtin .delete) (ht : c.argTypes[0]? = some t) (ha : c.args.toList = [x, i])
 (h : delA P B H t (aeval T x) (aeval T i) = some r) (hok : r.ok = true) : Sound P w a E H β T G (mkO dst (.call c) type pos after guard) r := by
 have ha' := minmax_args ha
 have rx := okTmps_rep fs hv (x := x) (by simp [Op.operands, Call.operands, hc, ha'])
 have ri := okTmps_rep fs hv (x := i) (by simp [Op.operands, Call.operands, hc, ha'])
 unfold delA at h
 split at h
 case h_2 => simp at h
 rename_i k e m k' n hm hx hi
 obtain ⟨kt, hu, hk⟩ := mapT_some hm
 split at h
 case h_2 => simp at h
 rename_i kk es hmk
 simp only [sJ] at h; subst h
 simp only [Bool.and_eq_true, decide_eq_true_eq] at hok
 obtain ⟨rfl, rfl⟩ := hok
 rw [hx] at rx; rw [hi] at ri
 obtain ⟨ex, _⟩ := rep_map (noTmp_of rx (by simp))
 have ei := repT_int ri
 obtain ⟨ms, cl, hb, hq⟩ := fs.sim.map m kk es hmk
 have hchk := checkKey_int (P := P) (w := w) hk ms.isEmpty n
 rcases find_cases kk kk n es ms.toList 0 hq with ⟨g1, g2, g3, g4⟩ | ⟨j, u, g1, g2, g3, g4, g5⟩
 · obtain ⟨ev, fs'⟩ := put_map fs (cl := cl) (es' := mpDel n es) (ms := ms) hmk (by rw [g4]; exact hq)
   refine ⟨.tuple #[], _, E, β, ⟨.inl (call_delete hc ha' ?_), ev, fs', .undef _, fun _ _ h => .inl h⟩⟩
   simp [Builtin.delete_, ht, ex, ei, run_underlying hu, MapKept.run_getObj_map hb, hchk, Instr.findKey, run_underlying hk, g2, MapKept.run_setObj_map _ hb, Result.andThen]
 · obtain ⟨ev, fs'⟩ := put_map fs (cl := cl) (es' := mpDel n es) (ms := ms.eraseIdxIfInBounds j) hmk (by simpa using g5)
   refine ⟨.tuple #[], _, E, β, ⟨.inl (call_delete hc ha' ?_), ev, fs', .undef _, fun _ _ h => .inl h⟩⟩
   simp only [Nat.zero_add] at g2
   simp [Builtin.delete_, ht, ex, ei, run_underlying hu, MapKept.run_getObj_map hb, hchk, Instr.findKey, run_underlying hk, g2, MapKept.run_setObj_map _ hb, Result.andThen]
end Go.Mu
namespace Go.Mu
open Go
variable {P : Program} {fh : FH} {w w' : World} {a : Act} {E E' : Env} {H H' : Heap} {β : Nat → Option Nat} {T : Vs} {B : Boxes} {G : Tags}
 {r : SR}
def okOp (T : Vs) (G : Tags) (o : Oper) : Prop :=
 match o.op with
 | .pick c x y => (∀ t, c = .tmp t → valid G t = true) ∧ (aeval T c = .bool true → ∀ t, x = .tmp t → valid G t = true) ∧ (aeval T c = .bool false → ∀ t, y = .tmp t → valid G t = true)
 | _ => okTmps G o
theorem storeA_v {p : AVal} {cs : Vs} (h : storeA B H p cs = some r) : r.v = .undef := by
 unfold storeA at h
 split at h
 · simp only [sJ] at h; subst h; rfl
 · split at h
   · simp only [sJ] at h; subst h; rfl
   · simp at h
 · split at h
   · simp only [sJ] at h; subst h; rfl
   · simp at h
 · simp at h
theorem Sound.ok {o : Oper} {r r' : SR} (hv : r.v = r'.v) (hB : r.B = r'.B) (hH : r.H = r'.H) (h : Sound P w a E H β T G o r) : Sound P w a E H β T G o r' := by
 unfold Sound at *
 rw [← hv, ← hB, ← hH]; exact h
theorem find_count : ∀ fn : Func, fn.name = "internal/bytealg.CountString" → Extern.find fn = some Extern.BytealgCount.count := by
 intro fn h
 cases fn
 simp only at h
 subst h
 kernel_rfl
theorem find_index : ∀ fn : Func, fn.name = "internal/bytealg.IndexByteString" → Extern.find fn = some Extern.BytealgIndexByte.indexByte := by
 intro fn h
 cases fn
 simp only at h
 subst h
 kernel_rfl
theorem next_count : ∀ fn : Func, fn.name = "internal/bytealg.CountString" → fn.origin = "" → Extern.findNext fn = none := by
 intro fn h g
 cases fn
 simp only at h g
 subst h g
 kernel_rfl
theorem next_index : ∀ fn : Func, fn.name = "internal/bytealg.IndexByteString" → fn.origin = "" → Extern.findNext fn = none := by
 intro fn h g
 cases fn
 simp only at h g
 subst h g
 kernel_rfl
theorem find_esc : ∀ fn : Func, fn.name = "internal/abi.NoEscape" → Extern.find fn = some Extern.AbiNoEscape.same := by
 intro fn h
 cases fn
 simp only at h
 subst h
 kernel_rfl
theorem next_esc : ∀ fn : Func, fn.name = "internal/abi.NoEscape" → fn.origin = "" → Extern.findNext fn = none := by
 intro fn h g
 cases fn
 simp only at h g
 subst h g
 kernel_rfl
theorem extOf_some {f : Operand} {e : ExtK} (h : extOf P f = some e) : ∃ g fn, f = .func g ∧ P.funcs[g]? = some fn ∧ fn.body.isNone = true ∧ fn.origin = "" ∧ ((e = .count ∧ fn.name = "internal/bytealg.CountString") ∨ (e = .index ∧ fn.name = "internal/bytealg.IndexByteString") ∨ (e = .esc ∧ fn.name = "internal/abi.NoEscape")) := by
 unfold extOf at h
 split at h
 · rename_i g
   split at h
   · rename_i fn hf
     split at h
     · rename_i hc
       simp only [Bool.and_eq_true, beq_iff_eq] at hc
       split at h
       · rename_i hn
         simp only [sJ] at h
         exact ⟨g, fn, rfl, hf, hc.1, hc.2, .inl ⟨h.symm, by simpa using hn⟩⟩
       · split at h
         · rename_i hn
           simp only [sJ] at h
           exact ⟨g, fn, rfl, hf, hc.1, hc.2, .inr (.inl ⟨h.symm, by simpa using hn⟩)⟩
         · split at h
           · rename_i hn
             simp only [sJ] at h
             exact ⟨g, fn, rfl, hf, hc.1, hc.2, .inr (.inr ⟨h.symm, by simpa using hn⟩)⟩
           · simp at h
     · simp at h
   · simp at h
 · simp at h
theorem ext_args {T : Vs} {args : Array Operand} {x y : AVal} (h : args.toList.map (aeval T) = [x, y]) : ∃ p q, args = #[p, q] ∧ aeval T p = x ∧ aeval T q = y := by
 obtain ⟨l⟩ := args
 match l, h with
 | [p, q], h =>
  simp only [List.map_cons, List.map_nil, List.cons.injEq, and_true] at h
  exact ⟨p, q, rfl, h.1, h.2⟩
theorem ext_arg1 {T : Vs} {args : Array Operand} {x : AVal} (h : args.toList.map (aeval T) = [x]) : ∃ p, args = #[p] ∧ aeval T p = x := by
 obtain ⟨l⟩ := args
 match l, h with
 | [p], h =>
  simp only [List.map_cons, List.map_nil, List.cons.injEq, and_true] at h
  exact ⟨p, rfl, h⟩
theorem step_ext {dst : Option Nat} {type : TypeId} {pos : String} {after : Array Edge} {guard : Option (Nat × Bool)} (fs : FS w a E H β T B G) {c : Call} {f : Operand} {e : ExtK} (hv : okTmps G (mkO dst (.call c) type pos after guard)) (hc : c.callee = .value f) (he : extOf P f = some e)
 (h : val1 B H (extA e (c.args.toList.map (aeval T))) = some r) : Sound P w a E H β T G (mkO dst (.call c) type pos after guard) r := by
 obtain ⟨v, h1, rfl⟩ := val1_some h
 obtain ⟨g, fn, rfl, hf, hb, hor, hk⟩ := extOf_some he
 have key : ∀ (s : Oc) (n : Int) (z : Int) (entry : Array Value → Sem Value), c.args.toList.map (aeval T) = [.str s, .int .u8 n] → (fn.name == "runtime.NumGoroutine") = false → Extern.findNext fn = none → Extern.find fn = some entry →
  (∀ b : ByteArray, b.data.toList = s → (entry #[.string b, .int .u8 n]).run P w = .ok (.int .i64 z) w) → Sound P w a E H β T G (mkO dst (.call c) type pos after guard) ⟨true, .int .i64 z, B, H⟩ := by
  intro s n z entry ha hnm hnx hfi hrun
  obtain ⟨p, q, hargs, hp, hq⟩ := ext_args ha
  have rp := okTmps_rep fs hv (x := p) (by simp [Op.operands, Call.operands, hc, hargs])
  have rq := okTmps_rep fs hv (x := q) (by simp [Op.operands, Call.operands, hc, hargs])
  rw [hp] at rp
  rw [hq] at rq
  obtain ⟨b, eb, hbs⟩ := repT_str rp
  have en := repT_int rq
  have run : (execOp a.eval (mkO dst (.call c) type pos after guard)).run P w = .ok (.value (.int .i64 z)) w := by
   have e0 : a.eval (.func g) = .func (.func g) #[] #[] := rfl
   simp only [execOp, resolve, hc, e0, Deferred.ofValue, Sem.run_bind, Sem.run_pure, Result.andThen_ok, invoke, hargs]
   have e1 : (Array.map a.eval #[p, q]) = #[.string b, .int .u8 n] := by simp [eb, en]
   rw [e1]
   simp only [Array.append_empty, Array.empty_append, Array.append_assoc]
   rw [run_callFunc_extern hf hnm hb hnx hfi, hrun b hbs]
   rfl
  exact Sound.pure fs run (.int _ _)
 rcases hk with ⟨rfl, hname⟩ | ⟨rfl, hname⟩ | ⟨rfl, hname⟩
 rotate_left 2
 · unfold extA at h1
   split at h1
   · rename_i he2 _; cases he2
   · rename_i he2 _; cases he2
   · rename_i x hxs _
     split at h1
     · rename_i hnt
       simp only [sJ] at h1
       subst h1
       obtain ⟨p, hargs, hp⟩ := ext_arg1 ‹_›
       have rp := okTmps_rep fs hv (x := p) (by simp [Op.operands, Call.operands, hc, hargs])
       rw [hp] at rp
       have run : (execOp a.eval (mkO dst (.call c) type pos after guard)).run P w = .ok (.value (a.eval p)) w := by
        have e0 : a.eval (.func g) = .func (.func g) #[] #[] := rfl
        simp only [execOp, resolve, hc, e0, Deferred.ofValue, Sem.run_bind, Sem.run_pure, Result.andThen_ok, invoke, hargs]
        have e1 : (Array.map a.eval #[p]) = #[a.eval p] := by simp
        rw [e1]
        simp only [Array.append_empty, Array.empty_append, Array.append_assoc]
        rw [run_callFunc_extern hf (by rw [hname]; decide) hb (next_esc fn hname hor) (find_esc fn hname), Lib.run_noEscape]
        rfl
       exact Sound.pure fs run rp
     · simp at h1
   · simp at h1
 · unfold extA at h1
   split at h1
   · rename_i s k n hxs _
     split at h1
     · rename_i hk8
       simp only [sJ] at h1
       subst h1 hk8
       exact key s n _ _ ‹_› (by rw [hname]; decide) (next_count fn hname hor) (find_count fn hname) (fun b hb => by rw [Lib.run_countString, hb])
     · simp at h1
   · rename_i he2 _; cases he2
   · rename_i he2 _; cases he2
   · simp at h1
 · unfold extA at h1
   split at h1
   · rename_i he2 _; cases he2
   · rename_i s k n hxs _
     split at h1
     · rename_i hk8
       simp only [sJ] at h1
       subst h1 hk8
       exact key s n _ _ ‹_› (by rw [hname]; decide) (next_index fn hname hor) (find_index fn hname) (fun b hb => by rw [Lib.run_indexByteString, hb])
     · simp at h1
   · rename_i he2 _; cases he2
   · simp at h1
theorem step_sound (fs : FS w a E H β T B G) {o : Oper} (hv : okOp T G o) (h : stepOp P fh T B H o = some r) (hok : r.ok = true) : Sound P w a E H β T G o r := by
 obtain ⟨dst, op, type, pos, after, guard⟩ := o
 cases op <;> simp only [stepOp, okOp] at h hv <;> try contradiction
 case move x => simp only [sJ] at h; subst h; exact step_move fs hv
 case assign x => simp only [sJ] at h; subst h; exact step_assign fs hv
 case makeMap t x => exact step_makeMap fs hv h hok
 case lookup t x i ok => exact step_lookup fs hv h hok
 case mapUpdate t x i y => exact step_put fs hv h hok
 case pick c x y =>
  split at h
  · rename_i q hq
    simp only [sJ] at h; subst h
    rw [hq] at hv
    exact step_pick fs hq hv.1 (fun e => by subst e; exact hv.2.1 rfl) (fun e => by subst e; exact hv.2.2 rfl)
  · simp at h
 case alloc t =>
  split at h
  · rename_i d z hz
    split at h
    · simp only [sJ] at h; subst h; exact (step_alloc fs hz).1
    · split at h
      · simp only [sJ] at h; subst h
        exact (step_arr fs hz hok).ok rfl rfl rfl
      · split at h
        · rename_i hd
          simp only [sJ] at h; subst h
          exact ((step_alloc (fh := fh) fs hz).2 hd (by simpa using hok)).ok rfl rfl rfl
        · simp at h
  · simp at h
 case box t x =>
  split at h
  · rename_i d z hz
    split at h
    · simp only [sJ] at h; subst h; exact ((step_box fs hv hz (by simpa using hok)).1).ok rfl rfl rfl
    · split at h
      · rename_i hd
        simp only [sJ] at h; subst h
        simp only [Bool.and_eq_true, Bool.not_eq_true'] at hok
        exact ((step_box (fh := fh) fs hv hz hok.1).2 hd hok.2).ok rfl rfl rfl
      · simp at h
  · simp at h
 case build t ps =>
  split at h
  · rename_i v hb
    simp only [sJ] at h; subst h
    exact (step_build fs hv hb hok).ok rfl rfl rfl
  · simp at h
 case buildSlice t n ps =>
  split at h
  · rename_i e he
    split at h
    · rename_i sz hs
      split at h
      · rename_i rows hr
        split at h
        · rename_i hc
          obtain ⟨c1, c2, c3, c4⟩ := hc
          split at h
          · simp only [sJ] at h; subst h
            exact ((step_buildSlice fs hv he hs hr c1 c2 c3 c4 hok).1).ok rfl rfl rfl
          · simp only [sJ] at h; subst h
            simp only [Bool.and_eq_true] at hok
            exact ((step_buildSlice fs hv he hs hr c1 c2 c3 c4 hok.1).2 hok.2).ok rfl rfl rfl
        · simp at h
      · simp at h
    · simp at h
  · simp at h
 case makeSlice t l c =>
  split at h
  · rename_i ok v Hn hm
    simp only [sJ] at h; subst h
    exact (step_makeSlice fs hv hm hok).ok rfl rfl rfl
  · simp at h
 case load t x => exact step_load fs hv h hok
 case store t x y =>
  split at h
  · rename_i cs n hc hs
    split at h
    · rename_i hn
      split at h
      · rename_i r' hr
        simp only [sJ] at h; subst h
        simp only [Bool.and_eq_true] at hok
        exact Sound.ok (r := ⟨true, .undef, r'.B, r'.H⟩) (storeA_v hr).symm rfl rfl (step_store fs hv hc hs hn hr hok.1 hok.2)
      · simp at h
    · simp at h
  · simp at h
 case nilCheck x =>
  split at h
  · rename_i o off e
    simp only [sJ] at h; subst h
    have := step_nilCheck (P := P) (dst := dst) (type := type) (pos := pos) (after := after) (guard := guard) fs hv (.inl ⟨_, _, e⟩)
    rw [e] at this; exact this
  · rename_i cs e
    simp only [sJ] at h; subst h
    have := step_nilCheck (P := P) (dst := dst) (type := type) (pos := pos) (after := after) (guard := guard) fs hv (.inr (.inl ⟨_, e⟩))
    rw [e] at this; exact this
  · rename_i k v i off e
    split at h
    · rename_i sz rows u hk
      simp only [sJ] at h; subst h
      simp only [beq_iff_eq] at hok
      subst hok
      have := step_nilCheck (P := P) (dst := dst) (type := type) (pos := pos) (after := after) (guard := guard) fs hv (.inr (.inr (.inl ⟨_, _, _, _, e, _, _, hk⟩)))
      rw [e] at this; exact this.ok rfl rfl rfl
    · simp at h
  · rename_i f cs e
    simp only [sJ] at h; subst h
    have := step_nilCheck (P := P) (dst := dst) (type := type) (pos := pos) (after := after) (guard := guard) fs hv (.inr (.inr (.inr ⟨_, _, e⟩)))
    rw [e] at this; exact this
  · simp at h
 case binOp op t x y u =>
  split at h
  · rename_i b hb
    exact step_nil fs hv hb h
  · split at h
    · rename_i b hb
      exact step_same fs hv hb h
    · exact step_bin fs hv h hok
 case unOp op t x => exact step_un fs hv h
 case convert s t x => exact step_convert fs hv h hok
 case makeInterface t x =>
  split at h
  · simp at h
  · rename_i d hd hu
    simp only [sJ] at h; subst h
    exact (step_iface fs hv hu (fun ms e => hd ms e) hok).ok rfl rfl rfl
  · simp at h
 case makeFunc fn first caps =>
  split at h
  · split at h
    · rename_i hf
      simp only [sJ] at h; subst h
      exact (step_func fs hv hf hok).ok rfl rfl rfl
    · simp at h
  · simp at h
 case slice t x lo hi mx => exact step_slice fs hv h hok
 case fieldAddr t x f => exact step_field fs hv h hok
 case indexAddr t x i => exact step_idx fs hv h hok
 case index t x i =>
  split at h
  · rename_i s k n hu hx hi
    simp only [sJ] at h; subst h
    simp only [Bool.and_eq_true, decide_eq_true_eq] at hok
    exact (step_index fs hv hu hx hi hok.1 hok.2).ok rfl rfl rfl
  · simp at h
 case typeAssert x xt t ok => exact step_assert fs hv h
 case extract x i =>
  split at h
  · rename_i vs hx
    split at h
    · rename_i v hi
      simp only [sJ] at h; subst h
      exact step_extract fs hv hx hi
    · simp at h
  · simp at h
 case call c =>
  split at h
  · rename_i hc
    split at h
    · rename_i t x ht hx
      exact step_len fs hv hc ht hx h
    · simp at h
  · rename_i hc
    split at h
    · rename_i t s x u ht hs hx hu
      split at h
      · rename_i h2
        exact step_append fs hv hc ht hs hx hu h2 h hok
      · simp at h
    · simp at h
  · rename_i hc
    split at h
    · rename_i t x y ht ha
      exact step_copy fs hv hc ht ha h hok
    · simp at h
  · rename_i hc
    split at h
    · rename_i t x ht ha
      exact step_clear fs hv hc ht ha h hok
    · simp at h
  · rename_i hc
    split at h
    · rename_i t x i ht ha
      exact step_delete fs hv hc ht ha h hok
    · simp at h
  · rename_i hc
    split at h
    · rename_i x y ha
      exact step_min fs hv hc ha h
    · simp at h
  · rename_i hc
    split at h
    · rename_i x y ha
      exact step_max fs hv hc ha h
    · simp at h
  · rename_i f hc
    split at h
    · rename_i e he
      exact step_ext fs hv hc he h
    · simp at h
  · simp at h
end Go.Mu
namespace Go.Mu
open Go
variable {P : Program} {w w' : World} {E E' : Env} {H H' : Heap}
def No : Nat → Prop := fun _ => False
def Post (w : World) (E : Env) (H : Heap) : Out → Ending → World → Prop
 | .ret v H', .returned c, w' => ∃ E', Evo No w E H w' E' H' ∧ Sim w' E' H' ∧ Rep w' E' H' v c
 | .panic p H', .panicked chain, w' => ∃ E' c, chain = [{ v := c, recovered := false }] ∧ Evo No w E H w' E' H' ∧ Sim w' E' H' ∧ Rep w' E' H' p c
 | _, _, _ => False
def CallOK (P : Program) (g : FuncId) (xs : Vs) (H : Heap) (o : Out) : Prop :=
 ∀ w E (cs : List Value), Sim w E H → cs.length = xs.length → (∀ j, j < xs.length → Rep w E H (xs.getD j .undef) (cs.getD j undef)) → Calls P g cs.toArray w (Post w E H o)
def HOK (P : Program) (h : Hd) : Prop := ∀ g xs H k out, h g xs H k = some out → ∃ o, CallOK P g xs H o ∧ k o = some out
def outV : Out → AVal
 | .ret v _ => v
 | .panic p _ => p
def outH : Out → Heap
 | .ret _ H => H
 | .panic _ H => H
def outSet (o : Out) (v : AVal) (H : Heap) : Out :=
 match o with
 | .ret _ _ => .ret v H
 | .panic _ _ => .panic v H
theorem Post.map {o : Out} {E1 : Env} {H1 : Heap} {v : AVal} {e : Ending} {w0 w' : World} {H2 : Heap} (h : Post w0 E1 H1 o e w')
 (hm : ∀ E' c, Evo No w0 E1 H1 w' E' (outH o) → Sim w' E' (outH o) → Rep w' E' (outH o) (outV o) c → ∃ E'', Evo No w E H w' E'' H2 ∧ Sim w' E'' H2 ∧ Rep w' E'' H2 v c) : Post w E H (outSet o v H2) e w' := by
 cases o with
 | ret u Hn =>
  cases e with
  | returned c =>
   obtain ⟨E', h1, h2, h3⟩ := h
   exact hm E' c h1 h2 h3
  | panicked _ => exact h
  | outgrown => exact h
 | panic u Hn =>
  cases e with
  | returned c => exact h
  | panicked chain =>
   obtain ⟨E', c, hc, h1, h2, h3⟩ := h
   obtain ⟨E'', k1, k2, k3⟩ := hm E' c h1 h2 h3
   exact ⟨E'', c, hc, k1, k2, k3⟩
  | outgrown => exact h
theorem sim_nil {imm : Nat → Prop} (h : ∀ b, imm b → b < w.heap.size) (hg : GlobOK w imm) (φ cap : Nat → Nat) : Sim w ⟨imm, φ, cap⟩ [] :=
 ⟨h, fun k cs hc => by simp at hc, fun k sz rows u hc => by simp at hc, fun k hk => by
  have := live_lt hk; simp at this, fun k l hk => by have := live_lt hk; simp at this, fun j t n h => by simp at h, hg, fun k kk es h => by simp at h⟩
theorem live_nil {E : Env} {k : Nat} : ¬ live E [] k := fun h => by have := live_lt h; simp at this
theorem lift_evo {imm0 : Nat → Prop} {φ cap : Nat → Nat} {E0' : Env} {H0' : Heap} (hi : ∀ b, E.imm b → imm0 b) (ev : Evo No w ⟨imm0, φ, cap⟩ [] w' E0' H0') (hs : Sim w E H) {imm' : Nat → Prop} (h1 : ∀ b, E.imm b → imm' b) (h2 : ∀ b, imm' b → E.imm b ∨ (E0'.imm b ∧ w.heap.size ≤ b))
 (hs' : Sim w' E0' H0') : Evo No w E H w' ⟨imm', E.φ, E.cap⟩ H ∧ Sim w' ⟨imm', E.φ, E.cap⟩ H := by
 have kept : ∀ b, b < w.heap.size → w'.heap[b]? = w.heap[b]? := fun b hb => ev.kept b hb (fun h => h) (fun k hk => absurd hk live_nil)
 have e1 : Evo No w E H w' ⟨imm', E.φ, E.cap⟩ H := by
  refine ⟨ev.size, fun b hb _ _ => kept b hb, fun b hb => ⟨h1 b hb, kept b (hs.immLt b hb)⟩, fun b hb => ?_, fun k hk => ⟨hk, rfl⟩, fun k sz u hk => ⟨u, hk, Nat.le_refl _, fun _ => ⟨rfl, fun _ => rfl⟩⟩,
   fun k hk => .inr ⟨hk, rfl⟩, Nat.le_refl _, ev.tape, ev.os, ev.output⟩
  rcases h2 b hb with h | h
  · exact .inl h
  · exact .inr h.2
 refine ⟨e1, ⟨fun b hb => ?_, fun k cs hc => ?_, fun k sz rows u hc => ?_, fun k hk => ⟨fun hb => ?_, ?_⟩, fun k l hk hl he => hs.inj k l hk hl he, fun j t n hj hl => (hs.note j t n hj hl).same (kept _ (hs.apart _ hl).2), hs.glob.mono e1.sees.imm, fun k kk es h => (hs.map k kk es h).same (kept _ (hs.apart k (.inl (map_isVar h))).2)⟩⟩
 · rcases h2 b hb with h | h
   · exact Nat.lt_of_lt_of_le (hs.immLt b h) ev.size
   · exact hs'.immLt b h.1
 · exact (hs.var k cs hc).mono e1.sees (kept _ (hs.apart k (.inl (var_of_get hc))).2)
 · obtain ⟨g1, g2, g3, g4⟩ := hs.arr k sz rows u hc
   exact ⟨g1, g2, g3, fun hcap => (g4 hcap).mono e1.sees (kept _ (hs.apart k (.inr ⟨⟨sz, u, arr_of_get hc⟩, hcap⟩)).2)⟩
 · have := hs.apart k hk
   rcases h2 _ hb with h | h
   · exact this.1 h
   · exact absurd this.2 (Nat.not_lt.2 h.2)
 · exact Nat.lt_of_lt_of_le (hs.apart k hk).2 ev.size
theorem getD_mem {l : Vs} {j : Nat} (h : j < l.length) : l.getD j .undef ∈ l := by
 rw [gQ, List.getElem?_eq_getElem h]; exact List.getElem_mem h
theorem CallOK.lift {g : FuncId} {xs : Vs} {o : Out} (h : CallOK P g xs [] o) (hx : xs.all isPure = true) (hv : isPure (outV o) = true) (H : Heap) : CallOK P g xs H (outSet o (outV o) H) := by
 intro w E cs hs hl hr
 have h0 := h w ⟨E.imm, E.φ, E.cap⟩ cs (sim_nil hs.immLt hs.glob _ _) hl (fun j hj => .pure _ _ (isPure_rep (List.all_eq_true.1 hx _ (getD_mem hj)) (hr j hj)))
 refine Calls.mono h0 (fun e w' hp => hp.map (fun E0' c ev hs' hrep => ?_))
 obtain ⟨k1, k2⟩ := lift_evo (imm' := E0'.imm) (fun b hb => hb) ev hs (fun b hb => (ev.immKept b hb).1) (fun b hb => (ev.immNew b hb).imp id (fun g => ⟨hb, g⟩)) hs'
 exact ⟨_, k1, k2, .pure _ _ (isPure_rep (E := E0') hv hrep)⟩
def lent (E : Env) (H : Heap) (b : Nat) : Prop := E.imm b ∨ ∃ k, live E H k ∧ E.φ k = b
theorem RepP.imm {imm imm' : Nat → Prop} {v : AVal} {c : Value} (h : ∀ b, imm b → imm' b) (r : RepP w imm v c) : RepP w imm' v c := r.mono (fun b hb => ⟨h b hb, rfl⟩)
theorem borrow_rep (hs : Sim w E H) {x : AVal} {c : Value} (hx : borrowOk H x = true) (r : Rep w E H x c) : RepP w (lent E H) (borrowV H x) c := by
 have base : isPure x = true → borrowV H x = x → RepP w (lent E H) (borrowV H x) c := fun hp e => by
  rw [e]; exact (isPure_rep hp r).imm (fun b hb => .inl hb)
 cases x with
 | own k off len ver clip =>
  simp only [borrowOk] at hx
  split at hx
  · rename_i sz rows u hk
    simp only [Bool.and_eq_true, beq_iff_eq, decide_eq_true_eq] at hx
    obtain ⟨⟨rfl, hle⟩, hall⟩ := hx
    obtain ⟨ao, cap, sz', u', rfl, g1, g2, g3⟩ := rep_own r
    rw [arr_of_get hk] at g1
    simp only [sJ, Prod.mk.injEq] at g1
    obtain ⟨rfl, rfl⟩ := g1
    obtain ⟨s1, s2, s3, s4, s5⟩ := g3 rfl
    obtain ⟨k1, k2, k3, k4⟩ := hs.arr k sz rows u hk
    simp only [borrowV, hk]
    by_cases h0 : len = 0
    · subst h0; exact .list0 _ _ _ _ (fun h => by simp at h)
    · have hcap : E.cap k ≠ 0 := by omega
      have hlv : live E H k := .inr ⟨⟨sz, u, arr_of_get hk⟩, hcap⟩
      obtain ⟨ds, ty, fr, b1, b2, b3, b4⟩ := k4 hcap
      rw [s5 hcap (.inl h0)]
      have cellq : ∀ m j, m < len → j < sz → ∃ c, ds[(off + m) * sz + j]? = some c ∧ c.oneCell' = true ∧ RepP w E.imm ((rows.getD (off + m) []).getD j .undef) c := fun m j hm hj => by
       have hlt : off + m < rows.length := by omega
       have hrl := k3 _ (List.getElem_mem hlt)
       have hrow : rows.getD (off + m) [] = rows[off + m] := by rw [gQ, List.getElem?_eq_getElem hlt]; rfl
       obtain ⟨c, c1, c2, c3⟩ := b4 ((off + m) * sz + j) (rows[off + m].getD j .undef) (by
        show cellAt sz rows ((off + m) * sz + j) = _
        unfold Mu.cellAt
        rw [show ((off + m) * sz + j) / sz = off + m by rw [Nat.mul_comm, Nat.mul_add_div k1, Nat.div_eq_of_lt hj, Nat.add_zero], show ((off + m) * sz + j) % sz = j by rw [Nat.mul_comm, Nat.mul_add_mod, Nat.mod_eq_of_lt hj],
         List.getElem?_eq_getElem hlt]
        exact getD_some _ (by omega))
       refine ⟨c, c1, c2, ?_⟩
       rw [hrow]
       exact isPure_rep (List.all_eq_true.1 (List.all_eq_true.1 hall _ (List.getElem_mem hlt)) _ (getD_mem (by omega))) c3
      refine .list false len _ (E.φ k) (off * sz) cap sz (fun i j => ds.getD ((off + i) * sz + j) undef) s1 (fun h => by simp at h) (.inr ⟨k, hlv, rfl⟩) (fun i hi => ?_) (fun i j hi hj => ?_) (fun i j hi hj => ?_)
      · have hlt : off + i < rows.length := by omega
        rw [gQ, List.getElem?_eq_getElem hlt]
        exact k3 _ (List.getElem_mem hlt)
      · obtain ⟨c, c1, c2, c3⟩ := cellq i j hi hj
        rw [cell?_block b1, ← Nat.add_mul, c1]
        simp [c1, c2]
      · obtain ⟨c, c1, c2, c3⟩ := cellq i j hi hj
        simp only [Array.getD_eq_getD_getElem?, c1, Option.getD_some]
        exact c3.imm (fun b hb => .inl hb)
  · simp at hx
 | _ => exact base hx rfl
theorem flat_pureD : ∀ (d : Nat) (v : AVal), flatD d v = true → pureD d v = true := by
 intro d
 induction d with
 | zero => intro v h; simp [flatD] at h
 | succ d ih =>
  intro v h
  cases v <;> simp only [flatD, pureD, List.all_eq_true, Bool.false_eq_true] at h ⊢
  · exact ih _ h
  · exact fun x hx => ih _ (h x hx)
  · exact fun x hx => ih _ (h x hx)
theorem flat_pure (d : Nat) (v : AVal) (c : Value) (h : flatD d v = true) (r : Rep w E H v c) : RepP w E.imm v c := pureD_rep d v c (flat_pureD d v h) r
theorem CallOK.borrow {g : FuncId} {xs : Vs} {o : Out} (h : CallOK P g (xs.map (borrowV H)) [] o) (hx : xs.all (borrowOk H) = true) (hv : isFlat (outV o) = true) : CallOK P g xs H (outSet o (outV o) H) := by
 intro w E cs hs hl hr
 have hlt : ∀ b, lent E H b → b < w.heap.size := fun b hb => by
  rcases hb with hb | ⟨k, hk, rfl⟩
  · exact hs.immLt b hb
  · exact (hs.apart k hk).2
 have h0 := h w ⟨lent E H, E.φ, E.cap⟩ cs (sim_nil hlt (hs.glob.mono (fun b hb => ⟨.inl hb, rfl⟩)) _ _) (by simpa using hl) (fun j hj => by
  have hj' : j < xs.length := by simpa using hj
  have e : (xs.map (borrowV H)).getD j .undef = borrowV H (xs.getD j .undef) := by
   simp [gQ, List.getElem?_eq_getElem hj']
  rw [e]
  exact .pure _ _ (borrow_rep hs (List.all_eq_true.1 hx _ (getD_mem hj')) (hr j hj')))
 refine Calls.mono h0 (fun e w' hp => hp.map (fun E0' c ev hs' hrep => ?_))
 have hpure : RepP w' E0'.imm (outV o) c := by
  have : ∀ v, isFlat v = true → Rep w' E0' (outH o) v c → RepP w' E0'.imm v c := fun v hf r => by
   exact flat_pure 4 v c hf r
  exact this _ hv hrep
 obtain ⟨k1, k2⟩ := lift_evo (imm' := E.imm) (fun b hb => .inl hb) ev hs (fun b hb => hb) (fun b hb => .inl hb) hs'
 exact ⟨_, k1, k2, .pure _ _ (flatD_rep 4 _ _ hv hpure)⟩
theorem callA_sound {h : Hd} (hh : HOK P h) {fh : FH} {g : FuncId} {xs : Vs} {k : Out → Ans} {out : Out} (hc : callA h fh g xs H k = some out) :
 ∃ o, CallOK P g xs H o ∧ k o = some out ∧ xs.all noTmp = true ∧ (quietCall fh g xs = true → outH o = H) ∧ (quietCall fh g xs = true → xs.all isPure = true → ∀ H2, CallOK P g xs H2 (outSet o (outV o) H2)) := by
 have pn : ∀ x, isPure x = true → noTmp x = true := fun x hx => by
  cases x <;> simp_all [isPure, pureD, noTmp]
 unfold callA at hc
 split at hc
 · rename_i hp0
   have hp := (Bool.and_eq_true_iff.1 hp0).2
   obtain ⟨o, ho, hk⟩ := hh _ _ _ _ _ hc
   have hnt : xs.all noTmp = true := List.all_eq_true.2 fun x hx => pn x (List.all_eq_true.1 hp x hx)
   cases o with
   | ret v H1 =>
    simp only at hk
    split at hk
    · rename_i hv
      exact ⟨.ret v H, ho.lift hp hv H, hk, hnt, fun _ => rfl, fun _ _ H2 => ho.lift hp hv H2⟩
    · simp at hk
   | panic v H1 =>
    simp only at hk
    split at hk
    · rename_i hv
      exact ⟨.panic v H, ho.lift hp hv H, hk, hnt, fun _ => rfl, fun _ _ H2 => ho.lift hp hv H2⟩
    · simp at hk
 · rename_i hp
   split at hc
   · rename_i hq
     rw [Bool.cond_eq_ite] at hc
     split at hc
     · rename_i hb
       have hnt : xs.all noTmp = true := List.all_eq_true.2 fun x hx => by
        have := List.all_eq_true.1 (Bool.and_eq_true_iff.1 (Bool.and_eq_true_iff.1 hq).2).2 x hx
        rcases Bool.or_eq_true_iff.1 this with h | h
        · exact pn x h
        · cases x <;> simp_all [isOwn, noTmp]
       obtain ⟨o, ho, hk⟩ := hh _ _ _ _ _ hc
       cases o with
       | ret v H1 =>
        simp only at hk
        split at hk
        · rename_i hv
          exact ⟨.ret v H, ho.borrow hb hv, hk, hnt, fun _ => rfl, fun e1 e => by
           have hth : (!fh.thaw.contains g) = true := (Bool.and_eq_true_iff.1 hq).1
           exact absurd (Bool.and_eq_true_iff.2 ⟨hth, e⟩) hp⟩
        · simp at hk
       | panic v H1 =>
        simp only at hk
        split at hk
        · rename_i hv
          exact ⟨.panic v H, ho.borrow hb hv, hk, hnt, fun _ => rfl, fun e1 e => by
           have hth : (!fh.thaw.contains g) = true := (Bool.and_eq_true_iff.1 hq).1
           exact absurd (Bool.and_eq_true_iff.2 ⟨hth, e⟩) hp⟩
        · simp at hk
     · simp at hc
   · rename_i hq
     rw [Bool.cond_eq_ite] at hc
     split at hc
     · rename_i hb
       obtain ⟨o, ho, hk⟩ := hh _ _ _ _ _ hc
       have hnq : quietCall fh g xs = true → False := fun e => by
        unfold quietCall at e
        rcases Bool.or_eq_true_iff.1 e with h | h
        · exact absurd h hp
        · exact absurd h hq
       refine ⟨o, ho, hk, hb, fun e => (hnq e).elim, fun e => (hnq e).elim⟩
     · simp at hc
end Go.Mu
namespace Go.Mu
open Go
variable {P : Program} {h : Hd} {fh : FH} {ops : List Oper} {w w' : World} {a : Act} {E E' : Env} {H H' : Heap} {β β' : Nat → Option Nat} {T : Vs} {B : Boxes} {G : Tags} {r : SR} {s s' : RS} {o : Oper}
def TagInv (T : Vs) (G : Tags) : Prop := ∀ t d w g, G.getD t none = some (d, w, g) → g = gval T G d w
theorem setDst_length (d : Option Nat) (v : AVal) : (setDst T d v).length = T.length := by cases d <;> simp [setDst]
theorem addTag_length (d : Option Nat) (c : Option (Nat × Bool)) (g : Bool) : (addTag G d c g).length = G.length := by
 cases d <;> cases c <;> simp [addTag]
theorem put_size (d : Option Nat) (c : Value) : (a.put d c).tmps.size = a.tmps.size := by cases d <;> simp [Act.put]
theorem put_defers (d : Option Nat) (c : Value) : (a.put d c).defers = a.defers := by cases d <;> rfl
theorem setDst_other {d : Option Nat} {t : Nat} {v : AVal} (h : d ≠ some t) : (setDst T d v).getD t .undef = T.getD t .undef := by
 cases d with
 | none => rfl
 | some d =>
  have : d ≠ t := fun e => h (by rw [e])
  simp [setDst, gQ, List.getElem?_set_ne this]
theorem put_other {d : Option Nat} {t : Nat} {c : Value} (h : d ≠ some t) : (a.put d c).tmps.getD t undef = a.tmps.getD t undef := by
 cases d with
 | none => rfl
 | some d =>
  have : d ≠ t := fun e => h (by rw [e])
  simp [Act.put, Array.getD_eq_getD_getElem?, Array.getElem?_setIfInBounds_ne this]
theorem addTag_other {d : Option Nat} {t : Nat} {c : Option (Nat × Bool)} {g : Bool} (h : d ≠ some t) : (addTag G d c g).getD t none = G.getD t none := by
 cases d with
 | none => rfl
 | some d =>
  have : d ≠ t := fun e => h (by rw [e])
  cases c with
  | none => rfl
  | some c => obtain ⟨e, q⟩ := c; simp [addTag, gQ, List.getElem?_set_ne this]
theorem valid_other {d : Option Nat} {t : Nat} {c : Option (Nat × Bool)} {g : Bool} (h : d ≠ some t) : valid (addTag G d c g) t = valid G t := by
 unfold valid; rw [addTag_other h]
theorem setDst_same {d : Nat} {v : AVal} : (setDst T (some d) v).getD d .undef = if d < T.length then v else .undef := by
 simp only [setDst, gQ]
 split
 · rename_i h; rw [List.getElem?_set_self h]; rfl
 · rename_i h; rw [List.getElem?_eq_none (by simpa using h)]; rfl
theorem put_same {d : Nat} {c : Value} : (a.put (some d) c).tmps.getD d undef = if d < a.tmps.size then c else undef := by
 simp only [Act.put, Array.getD_eq_getD_getElem?]
 split
 · rename_i h; simp [h]
 · rename_i h; rw [Array.getElem?_eq_none (by simpa using h)]; rfl
theorem addTag_same {d : Nat} {e : Nat} {q : Bool} {g : Bool} : (addTag G (some d) (some (e, q)) g).getD d none = if d < G.length then some (e, q, g) else none := by
 simp only [addTag, gQ]
 split
 · rename_i h; rw [List.getElem?_set_self h]; rfl
 · rename_i h; rw [List.getElem?_eq_none (by simpa using h)]; rfl
theorem free_none {d : Nat} (h : freeDst G (some d) = true) : G.getD d none = none := by
 simp only [freeDst, Bool.and_eq_true, Option.isNone_iff_eq_none] at h; exact h.2
theorem free_apart {dst : Option Nat} {t d : Nat} {q g : Bool} (h : freeDst G dst = true) (ht : G.getD t none = some (d, q, g)) : dst ≠ some d := by
 intro e; subst e
 simp only [freeDst, Bool.and_eq_true, List.all_eq_true] at h
 have hm : some (d, q, g) ∈ G := by
  rw [gQ] at ht
  cases hh : G[t]? with
  | none => rw [hh] at ht; cases ht
  | some x => rw [hh] at ht; simp at ht; subst ht; exact List.mem_of_getElem? hh
 have := h.1 _ hm
 simp at this
theorem gval_put {dst : Option Nat} {v : AVal} {gc : Option (Nat × Bool)} {g : Bool} {d : Nat} {q : Bool} (h : dst ≠ some d) : gval (setDst T dst v) (addTag G dst gc g) d q = gval T G d q := by
 rw [gval_eq, gval_eq, setDst_other h, valid_other h]
theorem tag_valid {T : Vs} {G : Tags} (ht : ∀ t d w g, G.getD t none = some (d, w, g) → g = gval T G d w) : ∀ (f : Nat) (c : Option (Nat × Bool)) (t : Nat), tagOk G f c t = true → (∀ d q, c = some (d, q) → gval T G d q = true) → valid G t = true
 | 0, c, t, h, _ => by simp [tagOk] at h
 | f + 1, c, t, h, hc => by
  unfold tagOk at h
  cases hg : G.getD t none with
  | none => unfold valid; rw [hg]
  | some x =>
   obtain ⟨d, q, g⟩ := x
   rw [hg] at h
   cases c with
   | none => simp at h
   | some c =>
    obtain ⟨d', q'⟩ := c
    simp only [Bool.or_eq_true, Bool.and_eq_true, beq_iff_eq] at h
    have hgv := hc d' q' rfl
    rcases h with ⟨rfl, rfl⟩ | h
    · unfold valid; rw [hg]
      simp only
      rw [ht _ _ _ _ hg]; exact hgv
    · cases hd' : G.getD d' none with
      | none => rw [hd'] at h; simp at h
      | some y =>
       obtain ⟨d2, q2, g2⟩ := y
       rw [hd'] at h
       refine tag_valid ht f (some (d2, q2)) t h (fun d q e => ?_)
       simp only [sJ, Prod.mk.injEq] at e
       obtain ⟨rfl, rfl⟩ := e
       have hv : valid G d' = true := by
        rw [gval_eq] at hgv
        exact (Bool.and_eq_true_iff.1 hgv).2
       unfold valid at hv
       rw [hd'] at hv
       simp only at hv
       rw [← ht _ _ _ _ hd']; exact hv
theorem opTags_ok (ht : ∀ t d w g, G.getD t none = some (d, w, g) → g = gval T G d w) {c : Option (Nat × Bool)} (h : opTags G c o.op = true) (hc : ∀ d q, c = some (d, q) → gval T G d q = true) : okOp T G o := by
 have all : ∀ l : List Operand, (tmpsOf l).all (tagOk G 8 c) = true → ∀ t, t ∈ tmpsOf l → valid G t = true := fun l hl t hm => tag_valid ht 8 c t (List.all_eq_true.1 hl t hm) hc
 have other : (tmpsOf o.op.operands.toList).all (tagOk G 8 c) = true → okOp T G o := fun hl => by
  have hok : okTmps G o := all _ hl
  unfold okOp
  split
  · rename_i p x y he
    have mem : ∀ t z, z = Operand.tmp t → z ∈ o.op.operands.toList → valid G t = true := fun t z e hm => hok t (by
     subst e
     exact List.mem_filterMap.2 ⟨_, hm, rfl⟩)
    rw [he] at mem
    simp only [Op.operands] at mem
    exact ⟨fun t e => mem t _ e (by simp), fun _ t e => mem t _ e (by simp), fun _ t e => mem t _ e (by simp)⟩
  · exact hok
 unfold opTags at h
 split at h
 · rename_i q x y he
   simp only [Bool.and_eq_true, List.all_eq_true, Bool.or_eq_true] at h
   obtain ⟨⟨h1, h2⟩, h3⟩ := h
   unfold okOp
   rw [he]
   simp only
   have hq : valid G q = true := tag_valid ht 8 c q h1 hc
   refine ⟨fun t e => by cases e; exact hq, fun hT t e => ?_, fun hT t e => ?_⟩
   · subst e
     rcases h2 t (by simp [tmpsOf]) with g | g
     · exact tag_valid ht 8 c t g hc
     · split at g
       · rename_i d1 w1 g1 hh
         simp only [Bool.and_eq_true, beq_iff_eq] at g
         obtain ⟨rfl, rfl⟩ := g
         unfold valid; rw [hh]
         simp only
         rw [ht _ _ _ _ hh]
         rw [gval_eq]
         have hT' : T.getD d1 .undef = .bool true := hT
         rw [hT', hq]; rfl
       · simp at g
   · subst e
     rcases h3 t (by simp [tmpsOf]) with g | g
     · exact tag_valid ht 8 c t g hc
     · split at g
       · rename_i d1 w1 g1 hh
         simp only [Bool.and_eq_true, beq_iff_eq, Bool.not_eq_true'] at g
         obtain ⟨rfl, rfl⟩ := g
         unfold valid; rw [hh]
         simp only
         rw [ht _ _ _ _ hh]
         rw [gval_eq]
         have hT' : T.getD d1 .undef = .bool false := hT
         rw [hT', hq]; rfl
       · simp at g
 · exact other h
theorem TagInv.put (ht : TagInv T G) {dst : Option Nat} {gc : Option (Nat × Bool)} (hd : freeDst G dst = true) (hg : guardOk T G dst gc = true) {v : AVal} {g : Bool} (hgv : ∀ d q, gc = some (d, q) → g = gval T G d q) :
 TagInv (setDst T dst v) (addTag G dst gc g) := by
 intro t d q g' hh
 by_cases e : dst = some t
 · subst e
   cases gc with
   | none =>
    have hn := free_none hd
    have : G.getD t none = some (d, q, g') := hh
    rw [hn] at this; cases this
   | some gc =>
    obtain ⟨d1, q1⟩ := gc
    rw [addTag_same] at hh
    split at hh
    · simp only [sJ, Prod.mk.injEq] at hh
      obtain ⟨rfl, rfl, rfl⟩ := hh
      have hne : some t ≠ some d1 := by
       simp only [guardOk, Bool.and_eq_true, bne_iff_ne, ne_eq] at hg
       exact hg.2
      rw [gval_put hne]
      exact hgv _ _ rfl
    · cases hh
 · rw [addTag_other e] at hh
   rw [gval_put (free_apart hd hh)]
   exact ht _ _ _ _ hh
theorem TagInv.none (T : Vs) : TagInv T (T.map fun _ => none) := by
 intro t d w g hh
 rw [gQ, List.getElem?_map] at hh
 cases hx : T[t]? <;> rw [hx] at hh <;> simp at hh
end Go.Mu
namespace Go.Mu
open Go
variable {P : Program} {h : Hd} {fh : FH} {ops : List Oper} {w w' : World} {a : Act} {E E' : Env} {H H' : Heap} {β : Nat → Option Nat} {T : Vs} {B : Boxes} {G : Tags} {r : SR}
def guardGo (ops : List Oper) (s : RS) (o : Oper) : Prop :=
 (o.guard.isSome && (guardDst ops o).isNone) = false ∧ freeDst s.G o.dst = true ∧ guardOk s.T s.G o.dst (guardDst ops o) = true
inductive OpRun (P : Program) (fh : FH) (ops : List Oper) (i : Nat) (o : Oper) (s : RS) : List Rec → RS → Prop
 | void (c : Nat × Bool) (v : AVal) (rs : List Rec) : guardGo ops s o → guardDst ops o = some c → gvOf s (some c) = false → (∀ d off, v = .ptr (.tmp d) off → .ptv i d ∈ rs) → OpRun P fh ops i o s rs { s with T := setDst s.T o.dst v, G := addTag s.G o.dst (some c) false }
 | run (q : SR) : guardGo ops s o → gvOf s (guardDst ops o) = true → okOp s.T s.G o → stepOp P fh s.T s.B s.H o = some q → q.ok = true → ((guardDst ops o).isSome = true → writes o fh s.T = none) →
  OpRun P fh ops i o s (recOf i o fh s.T s.B s.H q) { s with T := setDst s.T o.dst q.v, B := q.B, H := q.H, G := addTag s.G o.dst (guardDst ops o) true }
 | call (f args g caps v H') : guardGo ops s o → gvOf s (guardDst ops o) = true → okOp s.T s.G o → kindOf P o.op = .call f args → funOf P (aeval s.T f) = some (g, caps) → (args.toList.map (aeval s.T) ++ caps).all noTmp = true →
  CallOK P g (args.toList.map (aeval s.T) ++ caps) s.H (.ret v H') → (quietCall fh g (args.toList.map (aeval s.T) ++ caps) = true → H' = s.H) →
  (quietCall fh g (args.toList.map (aeval s.T) ++ caps) = true → (args.toList.map (aeval s.T) ++ caps).all isPure = true → ∀ H2, CallOK P g (args.toList.map (aeval s.T) ++ caps) H2 (.ret v H2)) →
  OpRun P fh ops i o s (callRecs fh g (args.toList.map (aeval s.T) ++ caps) i s.B s.H H' v)
   { s with T := setDst s.T o.dst v, H := H', G := addTag s.G o.dst (guardDst ops o) true }
 | dfr (f args g caps) : guardGo ops s o → guardDst ops o = none → okOp s.T s.G o → kindOf P o.op = .dfr f args → args.size = 0 → funOf P (aeval s.T f) = some (g, caps) → caps.all noTmp = true →
  OpRun P fh ops i o s [.bad] { s with T := setDst s.T o.dst .undef, D := (g, caps) :: s.D }
inductive OpPan (P : Program) (fh : FH) (ops : List Oper) (o : Oper) (s : RS) : AVal → RS → Prop
 | pan (x t v) : guardGo ops s o → guardDst ops o = none → okOp s.T s.G o → kindOf P o.op = .pan x → ifaceOf (aeval s.T x) = some (t, v) → OpPan P fh ops o s (.iface t v) s
 | call (f args g caps p H') : guardGo ops s o → gvOf s (guardDst ops o) = true → okOp s.T s.G o → kindOf P o.op = .call f args → funOf P (aeval s.T f) = some (g, caps) → (args.toList.map (aeval s.T) ++ caps).all noTmp = true →
  CallOK P g (args.toList.map (aeval s.T) ++ caps) s.H (.panic p H') → OpPan P fh ops o s p { s with H := H' }
inductive OpsRun (P : Program) (fh : FH) (ops : List Oper) : List Oper → Nat → RS → List Rec → RS → Prop
 | nil (i s) : OpsRun P fh ops [] i s [] s
 | cons {o rest i s r1 s1 r2 s2} : OpRun P fh ops i o s r1 s1 → OpsRun P fh ops rest (i + 1) s1 r2 s2 → OpsRun P fh ops (o :: rest) i s (r2 ++ r1) s2
inductive OpsPan (P : Program) (fh : FH) (ops : List Oper) : List Oper → Nat → RS → Nat → List Rec → AVal → RS → Prop
 | here {o rest i s p s'} : OpPan P fh ops o s p s' → OpsPan P fh ops (o :: rest) i s i [] p s'
 | later {o rest i s r1 s1 j r2 p s2} : OpRun P fh ops i o s r1 s1 → OpsPan P fh ops rest (i + 1) s1 j r2 p s2 → OpsPan P fh ops (o :: rest) i s j (r2 ++ r1) p s2
def OpsOut (P : Program) (fh : FH) (ops l : List Oper) (i : Nat) (rs : List Rec) (s : RS) (kp : Nat → List Rec → AVal → RS → Ans) (k : RKont) (out : Out) : Prop :=
 (∃ r s', OpsRun P fh ops l i s r s' ∧ k (r ++ rs) s' = some out) ∨ (∃ j r p s', OpsPan P fh ops l i s j r p s' ∧ kp j (r ++ rs) p s' = some out)
theorem OpsOut.cons {o : Oper} {rest : List Oper} {i : Nat} {rs r1 : List Rec} {s s1 : RS} {kp : Nat → List Rec → AVal → RS → Ans} {k : RKont} {out : Out} (h1 : OpRun P fh ops i o s r1 s1) (h2 : OpsOut P fh ops rest (i + 1) (r1 ++ rs) s1 kp k out) :
 OpsOut P fh ops (o :: rest) i rs s kp k out := by
 rcases h2 with ⟨r, s', g1, g2⟩ | ⟨j, r, p, s', g1, g2⟩
 · exact .inl ⟨_, s', .cons h1 g1, by rw [List.append_assoc]; exact g2⟩
 · exact .inr ⟨j, _, p, s', .later h1 g1, by rw [List.append_assoc]; exact g2⟩
theorem val_BH {x : Option (Bool × AVal)} (h : val B H x = some r) : r.B = B ∧ r.H = H := by
 obtain ⟨ok, v, _, rfl⟩ := val_some h; exact ⟨rfl, rfl⟩
theorem val1_BH {x : Option AVal} (h : val1 B H x = some r) : r.B = B ∧ r.H = H := by
 obtain ⟨v, _, rfl⟩ := val1_some h; exact ⟨rfl, rfl⟩
theorem conv_BH {s d : TypeId} {x : AVal} (h : convA P false B H s d x = some r) : r.B = B ∧ r.H = H := by
 unfold convA at h
 repeat' split at h
 all_goals first | (simp at h; done) | (simp only [sJ] at h; subst h; exact ⟨rfl, rfl⟩) | (rename_i hh; exact absurd hh (by decide))
theorem writes_none {o : Oper} (h : stepOp P fh T B H o = some r) (hw : writes o fh T = none) : r.B = B ∧ r.H = H := by
 obtain ⟨dst, op, type, pos, after, guard⟩ := o
 cases op <;> simp only [stepOp, writes] at h hw <;> try contradiction
 case convert s t x =>
  split at hw
  · simp at hw
  · rename_i hc
    have : fh.own.contains (dst.getD 0) = false := by simpa using hc
    rw [this] at h
    exact conv_BH h
 case call c =>
  split at hw
  · simp at hw
  · simp at hw
  · simp at hw
  · simp at hw
  · rename_i hna hnb hnc hnd
    repeat' split at h
    all_goals first | (simp at h; done) | exact val1_BH h | exact val_BH h | exact absurd (by assumption) hna | exact absurd (by assumption) hnb | exact absurd (by assumption) hnc | exact absurd (by assumption) hnd
 all_goals (repeat' split at hw)
 all_goals first
  | (simp at hw; done)
  | exact val_BH h
  | exact val1_BH h
  | (repeat' split at h
     all_goals first | (simp at h; done) | (simp only [sJ] at h; subst h; exact ⟨rfl, rfl⟩) | exact val1_BH h | exact val_BH h | (simp_all; done))
theorem iOps_run (hh : HOK P h) {out : Out} : ∀ (l : List Oper) (i : Nat) (rs : List Rec) (s : RS) (kp : Nat → List Rec → AVal → RS → Ans) (k : RKont), TagInv s.T s.G → iOpsL P h fh ops l i rs s kp k = some out → OpsOut P fh ops l i rs s kp k out
 | [], i, rs, s, kp, k, ti, hk => .inl ⟨[], s, .nil _ _, hk⟩
 | o :: rest, i, rs, s, kp, k, ti, hk => by
  unfold iOpsL at hk
  simp only at hk
  split at hk
  · simp at hk
  rename_i hg
  rw [Bool.cond_eq_ite] at hk
  split at hk
  · simp at hk
  rename_i hg1
  have hgo : guardGo ops s o := by
   simp only [Bool.or_eq_true, Bool.not_eq_true', not_or, Bool.not_eq_true, Bool.not_eq_false] at hg hg1
   exact ⟨hg.1, hg.2, hg1⟩
  clear hg hg1
  have hgvs : ∀ {b : Bool}, gvOf s (guardDst ops o) = b → ∀ d q, guardDst ops o = some (d, q) → b = gval s.T s.G d q := fun e d q hc => by rw [hc] at e; exact e.symm
  have tput : ∀ (v : AVal) (g : Bool), gvOf s (guardDst ops o) = g → TagInv (setDst s.T o.dst v) (addTag s.G o.dst (guardDst ops o) g) := fun v g e => ti.put hgo.2.1 hgo.2.2 (hgvs e)
  have okop : gvOf s (guardDst ops o) = true → opTags s.G (guardDst ops o) o.op = true → okOp s.T s.G o := fun e ht => opTags_ok ti ht (fun d q hc => (hgvs e d q hc).symm)
  have hskip : ∀ c, guardDst ops o = some c → gvOf s (some c) = false → iOpsL P h fh ops rest (i + 1) rs { s with T := setDst s.T o.dst .undef, G := addTag s.G o.dst (guardDst ops o) false } kp k = some out → OpsOut P fh ops (o :: rest) i rs s kp k out := by
   intro c hc hgv hk
   rw [hc] at hk tput
   exact OpsOut.cons (r1 := []) (.void c .undef [] hgo hc hgv (fun d off e => by cases e)) (iOps_run hh _ _ _ _ _ _ (tput .undef false hgv) hk)
  split at hk
  · rename_i f args hkind
    split at hk
    · rename_i g xs hpc
      obtain ⟨c, caps, hc, htag, hf, rfl, hpu, hth⟩ := pureCall_some hpc
      obtain ⟨o', ho, hko, hnt, hq, hp⟩ := callA_sound hh hk
      have hqt : quietCall fh g (args.toList.map (aeval s.T) ++ caps) = true := by unfold quietCall; rw [hpu, hth]; rfl
      cases o' with
      | ret v H' =>
       simp only at hko
       have hH : H' = s.H := hq hqt
       subst hH
       cases hgv : gvOf s (guardDst ops o) with
       | true =>
        rw [hgv] at hko
        exact OpsOut.cons (OpRun.call (P := P) (fh := fh) (ops := ops) (i := i) (o := o) (s := s) f args g caps v s.H hgo hgv (okop hgv htag) hkind hf hnt ho hq hp) (iOps_run hh _ _ _ _ _ _ (tput v true hgv) hko)
       | false =>
        rw [hgv, hc] at hko
        rw [hc] at hgv tput
        exact OpsOut.cons (.void c v _ hgo hc hgv (fun d off e => by unfold callRecs; rw [e]; simp [ptvOf])) (iOps_run hh _ _ _ _ _ _ (tput v false hgv) hko)
      | panic p H' =>
       simp only [Bool.cond_eq_ite] at hko
       split at hko
       · rename_i hgv
         exact .inr ⟨i, [], p, _, .here (.call f args g caps p H' hgo hgv (okop hgv htag) hkind hf hnt ho), hko⟩
       · rename_i hgv
         exact hskip c hc (by rw [hc] at hgv; simpa using hgv) hko
    rw [Bool.cond_eq_ite] at hk
    split at hk
    · rename_i hgv
      split at hk
      · rename_i htag
        split at hk
        · rename_i g caps hf
          obtain ⟨o', ho, hko, hnt, hq, hp⟩ := callA_sound hh hk
          cases o' with
          | ret v H' =>
           simp only at hko
           have hr := OpRun.call (P := P) (fh := fh) (ops := ops) (i := i) (o := o) (s := s) f args g caps v H' hgo hgv (okop hgv htag) hkind hf hnt ho hq hp
           refine OpsOut.cons hr (iOps_run hh _ _ _ _ _ _ (tput v true hgv) ?_)
           exact hko
          | panic p H' =>
           exact .inr ⟨i, [], p, _, .here (.call f args g caps p H' hgo hgv (okop hgv htag) hkind hf hnt ho), hko⟩
        · simp at hk
      · simp at hk
    · rename_i hgv
      cases hc : guardDst ops o with
      | none => rw [hc] at hgv; exact absurd rfl hgv
      | some c => exact hskip c hc (by rw [hc] at hgv; simpa using hgv) hk
  · rename_i x hkind
    split at hk
    · simp at hk
    · rename_i hc
      split at hk
      · rename_i htag
        split at hk
        · rename_i t v hi
          exact .inr ⟨i, [], _, s, .here (.pan x t v hgo hc (okop (by rw [hc]; rfl) htag) hkind hi), hk⟩
        · simp at hk
      · simp at hk
  · rename_i f args hkind
    split at hk
    · rename_i hc
      split at hk
      · rename_i g caps hf
        split at hk
        · rename_i hcond
          simp only [Bool.and_eq_true, beq_iff_eq] at hcond
          have tp := tput .undef true (by rw [hc]; rfl)
          rw [hc] at tp
          have hnt : addTag s.G o.dst none true = s.G := by cases o.dst <;> rfl
          rw [hnt] at tp
          exact OpsOut.cons (r1 := [.bad]) (.dfr f args g caps hgo hc (okop (by rw [hc]; rfl) hcond.1.1) hkind hcond.1.2 hf hcond.2) (iOps_run hh _ _ _ _ _ _ tp hk)
        · simp at hk
      · simp at hk
    · simp at hk
  · rename_i hkind
    split at hk
    · rename_i r hr
      split at hr
      case isFalse => simp at hr
      rename_i htag
      split at hk
      · rename_i hc
        rw [Bool.cond_eq_ite] at hk
        split at hk
        · rename_i hok
          have hk := onV_eq hr hk
          have hrun := OpRun.run (P := P) (fh := fh) (ops := ops) (i := i) (o := o) (s := s) r hgo (by rw [hc]; rfl) (okop (by rw [hc]; rfl) htag) hr hok (fun e => by rw [hc] at e; simp at e)
          refine OpsOut.cons hrun (iOps_run hh _ _ _ _ _ _ (tput r.v true (by rw [hc]; rfl)) ?_)
          rw [hc]
          have : addTag s.G o.dst none true = s.G := by cases o.dst <;> rfl
          rw [this]; exact hk
        · simp at hk
      · rename_i c hc
        split at hk
        · simp at hk
        · rename_i hw
          rw [Bool.cond_eq_ite] at hk
          split at hk
          · rename_i hok
            have hk := onV_eq hr hk
            cases hgv : gvOf s (guardDst ops o) with
            | false =>
             rw [hgv, hc] at hk
             rw [hc] at hgv tput
             exact OpsOut.cons (.void c r.v _ hgo hc hgv (fun d off e => by unfold recOf; rw [e]; simp [ptvOf])) (iOps_run hh _ _ _ _ _ _ (tput r.v false hgv) hk)
            | true =>
             rw [hgv] at hk hok
             have hok' : r.ok = true := by simpa using hok
             obtain ⟨e1, e2⟩ := writes_none hr hw
             have hrun := OpRun.run (P := P) (fh := fh) (ops := ops) (i := i) (o := o) (s := s) r hgo hgv (okop hgv htag) hr hok' (fun _ => hw)
             rw [e1, e2] at hrun
             refine OpsOut.cons hrun (iOps_run hh _ _ _ _ _ _ (tput r.v true hgv) ?_)
             exact hk
          · simp at hk
    · split at hk
      · rename_i c hc
        rw [Bool.cond_eq_ite] at hk
        split at hk
        · simp at hk
        · rename_i hgv
          exact hskip c hc (by rw [hc] at hgv; simpa using hgv) hk
      · simp at hk
end Go.Mu
namespace Go.Mu
open Go
variable {P : Program} {h : Hd} {fh : FH} {ops : List Oper} {w w' : World} {a : Act} {E E' : Env} {H H' : Heap} {β β' : Nat → Option Nat} {T : Vs} {B : Boxes} {G : Tags} {r : SR} {s s' : RS} {o : Oper}
def RepL (w : World) (E : Env) (H : Heap) (xs : Vs) (cs : List Value) : Prop := cs.length = xs.length ∧ ∀ j, j < xs.length → Rep w E H (xs.getD j .undef) (cs.getD j undef)
theorem RepL.mono {xs : Vs} {cs : List Value} (hs : Sees w E H w' E' H') (h : RepL w E H xs cs) : RepL w' E' H' xs cs := ⟨h.1, fun j hj => (h.2 j hj).mono hs⟩
theorem RepL.append {xs ys : Vs} {cs ds : List Value} (h : RepL w E H xs cs) (g : RepL w E H ys ds) : RepL w E H (xs ++ ys) (cs ++ ds) := by
 refine ⟨by simp [h.1, g.1], fun j hj => ?_⟩
 simp only [gQ]
 rcases Nat.lt_or_ge j xs.length with k | k
 · rw [List.getElem?_append_left k, List.getElem?_append_left (by rw [h.1]; exact k)]
   have := h.2 j k
   simpa [gQ] using this
 · rw [List.getElem?_append_right k, List.getElem?_append_right (by rw [h.1]; exact k), h.1]
   have := g.2 (j - xs.length) (by simp at hj; omega)
   simpa [gQ] using this
inductive DefRep (w : World) (E : Env) (H : Heap) : List (FuncId × Vs) → List Deferred → Prop
 | nil : DefRep w E H [] []
 | cons {g caps cs D ds} : RepL w E H caps cs → DefRep w E H D ds → DefRep w E H ((g, caps) :: D) ({ target := .fn (.func g) cs.toArray, args := #[] } :: ds)
theorem DefRep.mono {D : List (FuncId × Vs)} {ds : List Deferred} (hs : Sees w E H w' E' H') (h : DefRep w E H D ds) : DefRep w' E' H' D ds := by
 induction h with
 | nil => exact .nil
 | cons h1 _ ih => exact .cons (h1.mono hs) ih
structure RI (w : World) (a : Act) (E : Env) (β : Nat → Option Nat) (s : RS) : Prop where
 fs : FS w a E s.H β s.T s.B s.G
 bad : ∀ t, valid s.G t = false → a.tmps.getD t undef = undef
 tag : TagInv s.T s.G
 defs : DefRep w E s.H s.D a.defers
theorem FS.put (fs : FS w a E H β T B G) {dst : Option Nat} (hd : freeDst G dst = true) {v : AVal} {c : Value} {g : Bool} {gc : Option (Nat × Bool)} (h : gc = none ∨ g = true → RepT w E H β v c) :
 FS w (a.put dst c) E H β (setDst T dst v) B (addTag G dst gc g) := by
 refine ⟨fs.sim, by rw [put_size, setDst_length]; exact fs.tsize, by rw [setDst_length]; exact fs.bsize, by rw [addTag_length, setDst_length]; exact fs.gsize, fun t ht => ?_, fs.box, fs.binj⟩
 by_cases e : dst = some t
 · subst e
   rw [setDst_same, put_same, fs.tsize]
   split
   · rename_i hlt
     apply h
     cases gc with
     | none => exact .inl rfl
     | some gc =>
      obtain ⟨d, q⟩ := gc
      refine .inr ?_
      unfold valid at ht
      rw [addTag_same, if_pos (by rw [fs.gsize]; exact hlt)] at ht
      exact ht
   · exact .undef _
 · rw [setDst_other e, put_other e]
   rw [valid_other e] at ht
   exact fs.vals t ht
theorem RI.put {s : RS} (ri : RI w a E β s) {dst : Option Nat} {gc : Option (Nat × Bool)} (hd : freeDst s.G dst = true) (hg : guardOk s.T s.G dst gc = true) {v : AVal} {c : Value} {H' : Heap} {B' : Boxes} {E' : Env} {β' : Nat → Option Nat} {g : Bool}
 (fs : FS w' a E' H' β' s.T B' s.G) (hs : Sees w E s.H w' E' H') (hgv : ∀ d q, gc = some (d, q) → g = gval s.T s.G d q) (h : gc = none ∨ g = true → RepT w' E' H' β' v c) (hbad : gc ≠ none → g = false → c = undef) :
 RI w' (a.put dst c) E' β' { s with T := setDst s.T dst v, B := B', H := H', G := addTag s.G dst gc g } := by
 refine ⟨fs.put hd h, fun t ht => ?_, fun t d q g' ht => ?_, ?_⟩
 · by_cases e : dst = some t
   · subst e
     rw [put_same]
     split
     · rename_i hlt
       cases gc with
       | none =>
        have : valid s.G t = false := ht
        have hn := free_none hd
        unfold valid at this
        rw [hn] at this; cases this
       | some gc =>
        obtain ⟨d, q⟩ := gc
        refine hbad (by simp) ?_
        unfold valid at ht
        simp only at ht
        rw [addTag_same, if_pos (by rw [fs.gsize, ← fs.tsize]; exact hlt)] at ht
        exact ht
     · rfl
   · rw [put_other e]
     simp only at ht
     rw [valid_other e] at ht
     exact ri.bad t ht
 · simp only at ht ⊢
   by_cases e : dst = some t
   · subst e
     cases gc with
     | none =>
      have hn := free_none hd
      have : s.G.getD t none = some (d, q, g') := ht
      rw [hn] at this; cases this
     | some gc =>
      obtain ⟨d1, q1⟩ := gc
      rw [addTag_same] at ht
      split at ht
      · simp only [sJ, Prod.mk.injEq] at ht
        obtain ⟨rfl, rfl, rfl⟩ := ht
        have hne : some t ≠ some d1 := by
         simp only [guardOk, Bool.and_eq_true, bne_iff_ne, ne_eq] at hg
         exact hg.2
        rw [gval_put hne]
        exact hgv _ _ rfl
      · cases ht
   · rw [addTag_other e] at ht
     rw [gval_put (free_apart hd ht)]
     exact ri.tag _ _ _ _ ht
 · rw [put_defers]; exact ri.defs.mono hs
theorem wanted_iff {s : RS} (ri : RI w a E β s) (hg : guardGo ops s o) : Region.wanted o (yielded ops.toArray a.tmps) = gvOf s (guardDst ops o) := by
 obtain ⟨g1, g2, g3⟩ := hg
 unfold Region.wanted guardDst at *
 cases hgd : o.guard with
 | none => rfl
 | some jw =>
  obtain ⟨j, q⟩ := jw
  rw [hgd] at g1 g3
  simp only at g1 g3 ⊢
  cases hj : ops[j]? with
  | none => rw [hj] at g1; simp at g1
  | some oj =>
   rw [hj] at g1 g3
   simp only at g1 g3 ⊢
   cases hd : oj.dst with
   | none => rw [hd] at g1; simp at g1
   | some d =>
    rw [hd] at g3
    simp only [guardOk, Bool.and_eq_true, Bool.or_eq_true, Bool.not_eq_true'] at g3
    have hy : yielded ops.toArray a.tmps j = match a.tmps[d]? with | some (.bool b) => some b | _ => none := by
     unfold yielded
     have e : ((ops.toArray[j]?).bind (·.dst)) = some d := by simp [hj, hd]
     rw [e]; rfl
    rw [hy]
    simp only [gvOf, gval_eq]
    have hgt : ∀ c, a.tmps.getD d undef = c → c ≠ undef → a.tmps[d]? = some c := fun c hc hn => by
     rw [Array.getD_eq_getD_getElem?] at hc
     cases hh : a.tmps[d]? with
     | none => rw [hh] at hc; exact absurd hc.symm hn
     | some x => rw [hh] at hc; simpa using hc
    cases hv : valid s.G d with
    | false =>
     have hb := ri.bad d hv
     rw [Bool.and_false]
     have : (match a.tmps[d]? with | some (.bool b) => some b | _ => none) = (none : Option Bool) := by
      rw [Array.getD_eq_getD_getElem?] at hb
      cases hh : a.tmps[d]? with
      | none => rfl
      | some x => rw [hh] at hb; simp at hb; rw [hb]; rfl
     rw [this]; rfl
    | true =>
     rw [hv] at g3
     have hb : isBool (s.T.getD d .undef) = true := by
      rcases g3.1 with h | h
      · exact h
      · cases h
     have hr := ri.fs.vals d hv
     cases hT : s.T.getD d .undef <;> rw [hT] at hb <;> simp [isBool] at hb
     rename_i b
     rw [hT] at hr
     have := hgt _ (repT_bool hr) (by simp [undef])
     rw [this]
     simp [boolOf]
end Go.Mu
namespace Go.Mu
open Go
variable {P : Program} {h : Hd} {fh : FH} {ops : List Oper} {w w' : World} {a : Act} {E E' : Env} {H H' : Heap} {β β' : Nat → Option Nat} {T : Vs} {B : Boxes} {G : Tags} {r : SR} {s s' : RS} {o : Oper}
theorem kind_call {op : Op} {f : Operand} {args : Array Operand} (h : kindOf P op = .call f args) : ∃ c : Call, op = .call c ∧ c.callee = .value f ∧ c.args = args := by
 unfold kindOf at h
 split at h
 · rename_i c
   split at h
   · rename_i g hc
     split at h
     · simp at h
     · simp only [Kind.call.injEq] at h
       obtain ⟨rfl, rfl⟩ := h
       exact ⟨c, rfl, hc, rfl⟩
   · simp at h
 · simp at h
 · split at h <;> simp at h
 · simp at h
theorem kind_pan {op : Op} {x : Operand} (h : kindOf P op = .pan x) : op = .panic x := by
 unfold kindOf at h
 split at h
 · split at h
   · split at h <;> simp at h
   · simp at h
 · simp only [Kind.pan.injEq] at h; subst h; rfl
 · split at h <;> simp at h
 · simp at h
theorem kind_dfr {op : Op} {f : Operand} {args : Array Operand} (h : kindOf P op = .dfr f args) : ∃ c : Call, op = .defer c ∧ c.callee = .value f ∧ c.args = args := by
 unfold kindOf at h
 split at h
 · split at h
   · split at h <;> simp at h
   · simp at h
 · simp at h
 · rename_i c
   split at h
   · rename_i g hc
     simp only [Kind.dfr.injEq] at h
     obtain ⟨rfl, rfl⟩ := h
     exact ⟨c, rfl, hc, rfl⟩
   · simp at h
 · simp at h
theorem funOf_some {v : AVal} {g : FuncId} {caps : Vs} (h : funOf P v = some (g, caps)) : v = .func g caps ∧ callable P g = true := by
 unfold funOf at h
 split at h
 · split at h
   · rename_i hc
     simp only [sJ, Prod.mk.injEq] at h
     obtain ⟨rfl, rfl⟩ := h
     exact ⟨rfl, hc⟩
   · simp at h
 · simp at h
theorem ifaceOf_some {v u : AVal} {t : TypeId} (h : ifaceOf v = some (t, u)) : v = .iface t u := by
 unfold ifaceOf at h
 split at h
 · simp only [sJ, Prod.mk.injEq] at h
   obtain ⟨rfl, rfl⟩ := h
   rfl
 · simp at h
theorem run_callFunc_enter {g : FuncId} (hg : callable P g = true) (xs : Array Value) (w : World) : (callFunc g xs).run P w = .ok (.enter g xs) w := by
 unfold callable at hg
 split at hg
 · rename_i fn hf
   simp only [Bool.and_eq_true, bne_iff_ne, ne_eq] at hg
   have hb : fn.body.isNone = false := by
    have := hg.2
    cases hh : fn.body <;> simp_all
   simp only [callFunc, Sem.run_bind, run_program, Result.andThen_ok, hf]
   rw [if_neg (by simpa using hg.1), if_neg (by simp [hb])]
   simp
 · simp at hg
theorem func_cells {f : Operand} {g : FuncId} {caps : Vs} (fs : FS w a E H β T B G) (hf : aeval T f = .func g caps) (hv : ∀ t, f = .tmp t → valid G t = true) : ∃ cs : List Value, a.eval f = .func (.func g) #[] cs.toArray ∧ RepL w E H caps cs := by
 have := aeval_rep fs f hv
 rw [hf] at this
 obtain ⟨cs, e, hl, hr⟩ := rep_func (noTmp_of this (by simp))
 exact ⟨cs, e, hl.symm, hr⟩
theorem args_rep (fs : FS w a E H β T B G) {args : Array Operand} (hv : ∀ x ∈ args.toList, ∀ t, x = .tmp t → valid G t = true) (hn : (args.toList.map (aeval T)).all noTmp = true) : RepL w E H (args.toList.map (aeval T)) (args.map a.eval).toList := by
 refine ⟨by simp, fun j hj => ?_⟩
 have hj' : j < args.toList.length := by simpa using hj
 have e1 : (args.toList.map (aeval T)).getD j .undef = aeval T args.toList[j] := by
  simp only [gQ, List.getElem?_map, List.getElem?_eq_getElem hj', Option.map_some, Option.getD_some]
 have e2 : (args.map a.eval).toList.getD j undef = a.eval args.toList[j] := by
  simp only [Array.toList_map, gQ, List.getElem?_map, List.getElem?_eq_getElem hj', Option.map_some, Option.getD_some]
 rw [e1, e2]
 exact noTmp_rep (List.all_eq_true.1 hn _ (List.mem_map.2 ⟨_, List.getElem_mem hj', rfl⟩)) (aeval_rep fs _ (hv _ (List.getElem_mem hj')))
theorem okTmps_of (hk : ∀ c x y, o.op ≠ .pick c x y) (h : okOp T G o) : okTmps G o := by
 unfold okOp at h
 split at h
 · rename_i c x y e; exact absurd e (hk c x y)
 · exact h
theorem okTmps_of_mem (h : okTmps G o) {x : Operand} (hx : x ∈ o.op.operands.toList) (t : Nat) (e : x = .tmp t) : valid G t = true := by
 subst e; exact h t (List.mem_filterMap.2 ⟨_, hx, rfl⟩)
theorem call_exec (ri : RI w a E β s) (hok : okOp s.T s.G o) {f : Operand} {args : Array Operand} (hk : kindOf P o.op = .call f args) {g : FuncId} {caps : Vs} (hf : funOf P (aeval s.T f) = some (g, caps))
 (hn : (args.toList.map (aeval s.T) ++ caps).all noTmp = true) : ∃ cs : List Value, (execOp a.eval o).run P w = .ok (.enter g cs.toArray) w ∧ RepL w E s.H (args.toList.map (aeval s.T) ++ caps) cs := by
 obtain ⟨c, e, hc, ha⟩ := kind_call hk
 obtain ⟨hf', hcall⟩ := funOf_some hf
 have hot := okTmps_of (fun c x y he => by rw [e] at he; cases he) hok
 have hmf : f ∈ o.op.operands.toList := by rw [e]; simp [Op.operands, Call.operands, hc]
 have hma : ∀ x ∈ args.toList, x ∈ o.op.operands.toList := fun x hx => by
  rw [e]
  simp only [Op.operands, Call.operands, hc, ha]
  have hx' : x ∈ args := by simpa using hx
  simp [hx']
 obtain ⟨cs, ef, hr⟩ := func_cells ri.fs hf' (okTmps_of_mem hot hmf)
 rw [List.all_append, Bool.and_eq_true] at hn
 have hra := args_rep ri.fs (fun x hx => okTmps_of_mem hot (hma x hx)) hn.1
 refine ⟨(args.map a.eval).toList ++ cs, ?_, hra.append hr⟩
 simp only [execOp, e, resolve, hc, ha, ef, Deferred.ofValue, Sem.run_bind, Sem.run_pure, Result.andThen_ok, invoke]
 rw [run_callFunc_enter hcall]
 simp
theorem RI.called (ri : RI w a E β s) (ev : Evo No w E s.H w' E' H') (sim : Sim w' E' H') : RI w' a E' β { s with H := H' } := by
 have hs := ev.sees
 refine ⟨ri.fs.keep sim hs ev.size (fun t b hb hi => ?_) (fun t b hb k hk he => ?_) (fun t b hb => ?_), ri.bad, ri.tag, ri.defs.mono hs⟩
 · obtain ⟨h1, h2, h3, h4⟩ := ri.fs.box t b hb
   rcases ev.immNew b hi with g | g
   · exact h1 g
   · omega
 · obtain ⟨h1, h2, h3, h4⟩ := ri.fs.box t b hb
   rcases ev.phi k hk with g | ⟨g1, g2⟩
   · omega
   · exact h3 k g1 (by rw [← g2]; exact he)
 · obtain ⟨h1, h2, h3, h4⟩ := ri.fs.box t b hb
   exact ev.kept b h2 (fun h => h) h3
theorem Evo.weaken {X Y : Nat → Prop} (h : ∀ x, X x → Y x) (ev : Evo X w E H w' E' H') : Evo Y w E H w' E' H' :=
 ⟨ev.size, fun b hb hn hk => ev.kept b hb (fun hx => hn (h b hx)) hk, ev.immKept, ev.immNew, ev.var, ev.arr, ev.phi, ev.len, ev.tape, ev.os, ev.output⟩
structure Next (w : World) (E : Env) (β : Nat → Option Nat) (H : Heap) (w' : World) (a' : Act) (E' : Env) (β' : Nat → Option Nat) (s' : RS) : Prop where
 ri : RI w' a' E' β' s'
 evo : Evo (Xβ β) w E H w' E' s'.H
 new : ∀ t b, β' t = some b → β t = some b ∨ w.heap.size ≤ b
theorem op_sound {i : Nat} {recs : List Rec} {Q : Exit → Act → World → Prop} {K : Act → World → Prop} (hr : OpRun P fh ops i o s recs s') (ho : ops[i]? = some o) (ri : RI w a E β s)
 (hK : ∀ w' a' E' β', Next w E β s.H w' a' E' β' s' → K a' w') : wpOp P ops.toArray Q i K a w := by
 have hoa : ops.toArray[i]? = some o := by simpa using ho
 unfold wpOp
 simp only [hoa]
 cases hr with
 | void c v _ hg hc hgv hpt =>
  rw [if_neg (by rw [wanted_iff ri hg, hc, hgv]; simp)]
  obtain ⟨g1, g2, g3⟩ := hg
  rw [hc] at g3
  refine hK w _ E β ⟨ri.put g2 g3 ri.fs ⟨fun _ h => ⟨h, rfl⟩, fun _ h => ⟨h, rfl⟩, fun _ _ u h => ⟨u, h, Nat.le_refl _, fun _ => ⟨rfl, fun _ => rfl⟩⟩⟩ (fun d q e => ?_) (fun e => ?_) (fun _ _ => rfl), .refl, fun _ _ h => .inl h⟩
  · cases e; exact hgv.symm
  · rcases e with e | e <;> cases e
 | run q hg hgv htag hst hok hw =>
  rw [if_pos (by rw [wanted_iff ri hg]; exact hgv)]
  left
  have hgv' : ∀ d q, guardDst ops o = some (d, q) → gval s.T s.G d q = true := fun d q e => by rw [e] at hgv; exact hgv
  have hop := htag
  obtain ⟨c, w1, E1, β1, out⟩ := step_sound ri.fs hop hst hok
  obtain ⟨g1, g2, g3⟩ := hg
  have key : Next w E β s.H w1 (a.put o.dst c) E1 β1 { s with T := setDst s.T o.dst q.v, B := q.B, H := q.H, G := addTag s.G o.dst (guardDst ops o) true } :=
   ⟨ri.put g2 g3 out.fs out.evo.sees (fun d q e => (hgv' d q e).symm) (fun _ => out.rep) (fun _ e => by simp at e), out.evo, out.new⟩
  unfold Oper.wp
  rcases out.run with e | ⟨e, rfl⟩
  · rw [e]; exact hK _ _ _ _ key
  · rw [e]; exact hK _ _ _ _ key
 | call f args g caps v H1 hg hgv htag hkind hf hn hcall hq hp =>
  rw [if_pos (by rw [wanted_iff ri hg]; exact hgv)]
  left
  have hgv' : ∀ d q, guardDst ops o = some (d, q) → gval s.T s.G d q = true := fun d q e => by rw [e] at hgv; exact hgv
  have hop := htag
  obtain ⟨cs, e, hrep⟩ := call_exec (P := P) ri hop hkind hf hn
  obtain ⟨g1, g2, g3⟩ := hg
  unfold Oper.wp
  rw [e]
  refine Calls.mono (hcall w E cs ri.fs.sim hrep.1 hrep.2) (fun e w1 hp => ?_)
  cases e with
  | returned c =>
   obtain ⟨E1, ev, sim, hrv⟩ := hp
   have rc := ri.called ev sim
   exact hK _ _ _ _ ⟨ri.put g2 g3 rc.fs ev.sees (fun d q e => (hgv' d q e).symm) (fun _ => .val _ _ hrv) (fun _ e => by simp at e), ev.weaken (fun x hx => absurd hx (fun h => h)), fun _ _ h => .inl h⟩
  | panicked _ => exact hp.elim
  | outgrown => exact hp.elim
 | dfr f args g caps hg hc htag hkind hargs hf hn =>
  rw [if_pos (by rw [wanted_iff ri hg, hc]; rfl)]
  left
  have hop := htag
  obtain ⟨c, e, hcc, ha⟩ := kind_dfr hkind
  obtain ⟨hf', hcall⟩ := funOf_some hf
  have hot := okTmps_of (fun c x y he => by rw [e] at he; cases he) hop
  have hmf : f ∈ o.op.operands.toList := by rw [e]; simp [Op.operands, Call.operands, hcc]
  obtain ⟨cs, ef, hr⟩ := func_cells ri.fs hf' (okTmps_of_mem hot hmf)
  have ha0 : c.args = #[] := Array.eq_empty_of_size_eq_zero (by rw [ha]; exact hargs)
  have hrun : (execOp a.eval o).run P w = .ok (.defer { target := .fn (.func g) cs.toArray, args := #[] }) w := by
   simp [execOp, e, resolve, hcc, ha0, ef, Deferred.ofValue]
  unfold Oper.wp
  rw [hrun]
  obtain ⟨g1, g2, g3⟩ := hg
  rw [hc] at g3
  have ri2 : RI w { a with defers := { target := .fn (.func g) cs.toArray, args := #[] } :: a.defers } E β { s with D := (g, caps) :: s.D } :=
   ⟨⟨ri.fs.sim, ri.fs.tsize, ri.fs.bsize, ri.fs.gsize, ri.fs.vals, ri.fs.box, ri.fs.binj⟩, ri.bad, ri.tag, .cons hr ri.defs⟩
  have key := ri2.put (v := .undef) (c := undef) (g := true) g2 g3 ri2.fs ⟨fun _ h => ⟨h, rfl⟩, fun _ h => ⟨h, rfl⟩, fun _ _ u h => ⟨u, h, Nat.le_refl _, fun _ => ⟨rfl, fun _ => rfl⟩⟩⟩ (fun d q e => by cases e) (fun _ => .undef _) (fun h => absurd rfl h)
  have hnt : addTag s.G o.dst none true = s.G := by cases o.dst <;> rfl
  simp only [hnt] at key
  exact hK _ _ _ _ ⟨key, .refl, fun _ _ h => .inl h⟩
structure Fell (w : World) (E : Env) (β : Nat → Option Nat) (H : Heap) (w' : World) (a' : Act) (E' : Env) (p : AVal) (c : Value) (s' : RS) : Prop where
 ri : RI w' a' E' β s'
 evo : Evo (Xβ β) w E H w' E' s'.H
 rep : Rep w' E' s'.H p c
theorem pan_sound {i : Nat} {p : AVal} {Q : Exit → Act → World → Prop} {K : Act → World → Prop} (hr : OpPan P fh ops o s p s') (ho : ops[i]? = some o) (ri : RI w a E β s)
 (hQ : ∀ w' E' c, Fell w E β s.H w' a E' p c s' → Q (.panic [{ v := c, recovered := false }]) a w') : wpOp P ops.toArray Q i K a w := by
 have hoa : ops.toArray[i]? = some o := by simpa using ho
 unfold wpOp
 simp only [hoa]
 cases hr with
 | pan x t v hg hc htag hkind hi =>
  rw [if_pos (by rw [wanted_iff ri hg, hc]; rfl)]
  left
  have hop := htag
  have e := kind_pan hkind
  have hot := okTmps_of (fun c x y he => by rw [e] at he; cases he) hop
  have hm : x ∈ o.op.operands.toList := by rw [e]; simp [Op.operands]
  have hx := aeval_rep ri.fs x (okTmps_of_mem hot hm)
  rw [ifaceOf_some hi] at hx
  have hx' := noTmp_of hx (by simp)
  obtain ⟨d, ed, hd⟩ := rep_iface hx'
  have hrun : (execOp a.eval o).run P w = .halt (.panic (.iface t d)) w := by
   simp [execOp, e, ed, Instr.panic, goPanic]
  unfold Oper.wp
  rw [hrun]
  rw [ed] at hx'
  exact hQ w E _ ⟨ri, .refl, hx'⟩
 | call f args g caps _ H1 hg hgv htag hkind hf hn hcall =>
  rw [if_pos (by rw [wanted_iff ri hg]; exact hgv)]
  left
  have hgv' : ∀ d q, guardDst ops o = some (d, q) → gval s.T s.G d q = true := fun d q e => by rw [e] at hgv; exact hgv
  have hop := htag
  obtain ⟨cs, e, hrep⟩ := call_exec (P := P) ri hop hkind hf hn
  unfold Oper.wp
  rw [e]
  refine Calls.mono (hcall w E cs ri.fs.sim hrep.1 hrep.2) (fun e w1 hp => ?_)
  cases e with
  | returned c => exact hp.elim
  | panicked chain =>
   obtain ⟨E1, c, rfl, ev, sim, hrv⟩ := hp
   exact hQ _ _ _ ⟨ri.called ev sim, ev.weaken (fun x hx => absurd hx (fun h => h)), hrv⟩
  | outgrown => exact hp.elim
end Go.Mu
namespace Go.Mu
open Go
variable {P : Program} {h : Hd} {fh : FH} {ops : List Oper} {w w' : World} {a : Act} {E E' : Env} {H H' : Heap} {β β' : Nat → Option Nat} {T : Vs} {B : Boxes} {G : Tags} {s s' : RS} {o : Oper} {st st' : St}
def toRS (st : St) : RS := { T := st.T, B := st.B, H := st.H, D := st.D, G := st.T.map fun _ => none }
def CI (w : World) (a : Act) (E : Env) (β : Nat → Option Nat) (st : St) : Prop := RI w a E β (toRS st)
def ExitRep (w : World) (E : Env) (H : Heap) : AExit → Exit → Prop
 | .normal, .normal => True
 | .exit id, .exit id' => id = id'
 | .ret, .ret => True
 | .panic p, .panic chain => ∃ c, chain = [{ v := c, recovered := false }] ∧ Rep w E H p c
 | _, _ => False
def Leaves' (w : World) (E : Env) (β : Nat → Option Nat) (H : Heap) (e : AExit) (st' : St) (x : Exit) (a' : Act) (w' : World) : Prop :=
 ∃ E' β', ExitRep w' E' st'.H e x ∧ CI w' a' E' β' st' ∧ Evo (Xβ β) w E H w' E' st'.H ∧ ∀ t b, β' t = some b → β t = some b ∨ w.heap.size ≤ b
def CodeOK (P : Program) (c : Code) (st : St) (e : AExit) (st' : St) : Prop :=
 ∀ w a E β, CI w a E β st → c.wp P (Leaves' w E β st.H e st') a w
theorem Leaves'.trans {w1 : World} {E1 : Env} {β1 : Nat → Option Nat} {H1 : Heap} {e : AExit} {x : Exit} {a2 : Act} {w2 : World} (ev : Evo (Xβ β) w E H w1 E1 H1) (nw : ∀ t b, β1 t = some b → β t = some b ∨ w.heap.size ≤ b) (h : Leaves' w1 E1 β1 H1 e st' x a2 w2) : Leaves' w E β H e st' x a2 w2 := by
 obtain ⟨E2, β2, h1, h2, h3, h4⟩ := h
 refine ⟨E2, β2, h1, h2, ev.trans h3 (fun b hb => ?_), fun t b hb => ?_⟩
 · obtain ⟨t, ht⟩ := hb
   exact (nw t b ht).imp (fun g => ⟨t, g⟩) id
 · rcases h4 t b hb with g | g
   · exact nw t b g
   · exact .inr (Nat.le_trans ev.size g)
theorem Next.trans {w1 w2 : World} {a1 a2 : Act} {E1 E2 : Env} {β1 β2 : Nat → Option Nat} {s1 s2 : RS} (h1 : Next w E β H w1 a1 E1 β1 s1) (h2 : Next w1 E1 β1 s1.H w2 a2 E2 β2 s2) : Next w E β H w2 a2 E2 β2 s2 := by
 refine ⟨h2.ri, h1.evo.trans h2.evo (fun b hb => ?_), fun t b hb => ?_⟩
 · obtain ⟨t, ht⟩ := hb
   exact (h1.new t b ht).imp (fun g => ⟨t, g⟩) id
 · rcases h2.new t b hb with g | g
   · exact h1.new t b g
   · exact .inr (Nat.le_trans h1.evo.size g)
theorem getD_map_none (T : Vs) (t : Nat) : ((T.map fun _ => none : Tags)).getD t none = none := by
 simp only [gQ, List.getElem?_map]
 cases T[t]? <;> rfl
theorem valid_none (T : Vs) (t : Nat) : valid (T.map fun _ => none) t = true := by
 unfold valid; rw [getD_map_none]
theorem untag_get (s : RS) (hl : s.G.length = s.T.length) (t : Nat) : (untag s).T.getD t .undef = if (s.G.getD t none).isNone then s.T.getD t .undef else .undef := by
 simp only [untag, gQ, List.getElem?_map]
 rcases Nat.lt_or_ge t s.T.length with g | g
 · have hz : (s.T.zip s.G)[t]? = some (s.T[t], s.G[t]'(by omega)) := by
    rw [List.getElem?_eq_getElem (by simp; omega), List.getElem_zip]
   rw [hz, List.getElem?_eq_getElem g, List.getElem?_eq_getElem (show t < s.G.length by omega)]
   simp only [Option.map_some, Option.getD_some]
   cases s.G[t]'(by omega) <;> rfl
 · rw [List.getElem?_eq_none (by simp; omega), List.getElem?_eq_none g]
   split <;> rfl
theorem RI.untag (ri : RI w a E β s) : CI w a E β (untag s) := by
 have hl := ri.fs.gsize
 have hlen : (Mu.untag s).T.length = s.T.length := by simp [Mu.untag]; omega
 refine ⟨⟨ri.fs.sim, by rw [ri.fs.tsize]; exact hlen.symm, by show s.B.length = (Mu.untag s).T.length; rw [hlen]; exact ri.fs.bsize, by simp [toRS], fun t _ => ?_, ri.fs.box, ri.fs.binj⟩,
  fun t ht => ?_, fun t d q g ht => ?_, ri.defs⟩
 · show RepT w E s.H β ((Mu.untag s).T.getD t .undef) _
   rw [untag_get s hl]
   split
   · rename_i hn
     refine ri.fs.vals t ?_
     unfold valid
     rw [Option.isNone_iff_eq_none.1 hn]
   · exact .undef _
 · have : valid (toRS (Mu.untag s)).G t = true := valid_none _ _
   rw [this] at ht; cases ht
 · have : (toRS (Mu.untag s)).G.getD t none = none := getD_map_none _ _
   rw [this] at ht; cases ht
theorem dropDsts_get : ∀ (l : List Oper) (T : Vs) (t : Nat), ((∃ o ∈ l, o.dst = some t) → (dropDsts l T).getD t .undef = .undef) ∧ ((∀ o ∈ l, o.dst ≠ some t) → (dropDsts l T).getD t .undef = T.getD t .undef) ∧ (dropDsts l T).length = T.length
 | [], T, t => ⟨fun ⟨o, h, _⟩ => by simp at h, fun _ => rfl, rfl⟩
 | o :: l, T, t => by
  have ih := dropDsts_get l (setDst T o.dst .undef) t
  have e : dropDsts (o :: l) T = dropDsts l (setDst T o.dst .undef) := rfl
  rw [e]
  refine ⟨fun ⟨p, hp, hd⟩ => ?_, fun hn => ?_, by rw [ih.2.2, setDst_length]⟩
  · by_cases hex : ∃ o ∈ l, o.dst = some t
    · exact ih.1 hex
    · rw [ih.2.1 (fun q hq hqd => hex ⟨q, hq, hqd⟩)]
      rcases List.mem_cons.1 hp with rfl | hp
      · rw [hd, setDst_same]; split <;> rfl
      · exact absurd ⟨p, hp, hd⟩ hex
  · rw [ih.2.1 (fun p hp => hn p (by simp [hp])), setDst_other (hn o (by simp))]
theorem OpRun.keeps {i : Nat} {recs : List Rec} (h : OpRun P fh ops i o s recs s') {t : Nat} (ht : o.dst ≠ some t) : s'.T.getD t .undef = s.T.getD t .undef ∧ s'.G.getD t none = s.G.getD t none ∧ s'.T.length = s.T.length := by
 cases h <;> exact ⟨setDst_other ht, by first | exact addTag_other ht | rfl, setDst_length _ _⟩
theorem OpPan.keeps {p : AVal} (h : OpPan P fh ops o s p s') : s'.T = s.T ∧ s'.G = s.G := by
 cases h <;> exact ⟨rfl, rfl⟩
theorem drop_mem {l : List Oper} {i : Nat} (h : ops.drop i = o :: l) : ops[i]? = some o ∧ ops.drop (i + 1) = l := by
 have h1 : (ops.drop i)[0]? = some o := by rw [h]; rfl
 rw [List.getElem?_drop] at h1
 refine ⟨h1, ?_⟩
 rw [← List.drop_drop, h]; rfl
theorem RI.panicked {st : St} (ri : RI w a E β s) (hT : ∀ t, (∀ o ∈ ops, o.dst ≠ some t) → s.T.getD t .undef = st.T.getD t .undef ∧ s.G.getD t none = none) (hl : s.T.length = st.T.length) (hB : s.B.length = st.B.length) :
 CI w a E β { T := dropDsts ops st.T, B := st.B.map fun _ => [], H := s.H, D := s.D } := by
 have hlen : (dropDsts ops st.T).length = st.T.length := (dropDsts_get ops st.T 0).2.2
 have hsl : a.tmps.size = (dropDsts ops st.T).length := by rw [ri.fs.tsize, hl, hlen]
 refine ⟨⟨ri.fs.sim, hsl, ?_, by simp [toRS], fun t _ => ?_, fun t b hb => ?_, ri.fs.binj⟩, fun t ht => ?_, fun t d q g ht => ?_, ri.defs⟩
 · show (st.B.map fun _ => ([] : Vs)).length = (dropDsts ops st.T).length
   rw [List.length_map, ← hB, ri.fs.bsize, hl, hlen]
 · show RepT w E s.H β ((dropDsts ops st.T).getD t .undef) _
   by_cases hex : ∃ o ∈ ops, o.dst = some t
   · rw [(dropDsts_get ops st.T t).1 hex]; exact .undef _
   · have hn : ∀ o ∈ ops, o.dst ≠ some t := fun o ho hd => hex ⟨o, ho, hd⟩
     obtain ⟨h1, h2⟩ := hT t hn
     rw [(dropDsts_get ops st.T t).2.1 hn, ← h1]
     exact ri.fs.vals t (by unfold valid; rw [h2])
 · obtain ⟨h1, h2, h3, ds, ty, fr, b1, b2, b3, b4⟩ := ri.fs.box t b hb
   have e : ((toRS { T := dropDsts ops st.T, B := st.B.map fun _ => [], H := s.H, D := s.D }).B.getD t []) = [] := by
    show ((st.B.map fun _ => ([] : Vs)).getD t []) = []
    simp only [gQ, List.getElem?_map]
    cases st.B[t]? <;> rfl
   refine ⟨h1, h2, h3, ?_⟩
   rw [e]
   exact ⟨ds, ty, fr, b1, by simp, fun o ho => by simp at ho, fun j v hv => by simp at hv⟩
 · have : valid (toRS { T := dropDsts ops st.T, B := st.B.map fun _ => [], H := s.H, D := s.D }).G t = true := valid_none _ _
   rw [this] at ht; cases ht
 · have : (toRS { T := dropDsts ops st.T, B := st.B.map fun _ => [], H := s.H, D := s.D }).G.getD t none = none := getD_map_none _ _
   rw [this] at ht; cases ht
theorem ops_sound {Q : Exit → Act → World → Prop} : ∀ (l : List Oper) (i : Nat) (s : RS) (recs : List Rec) (s' : RS), OpsRun P fh ops l i s recs s' → ops.drop i = l → ∀ {w a E β}, RI w a E β s →
 (∀ w' a' E' β', Next w E β s.H w' a' E' β' s' → Q .normal a' w') → wpOps P ops.toArray Q (List.range' i l.length) a w
 | [], i, s, _, _, .nil _ _, _, w, a, E, β, ri, hQ => by
  simp only [List.length_nil, List.range'_zero, wpOps]
  exact hQ w a E β ⟨ri, .refl, fun _ _ h => .inl h⟩
 | o :: l, i, s, _, s', .cons (s1 := s1) h1 h2, hd, w, a, E, β, ri, hQ => by
  obtain ⟨g1, g2⟩ := drop_mem hd
  rw [List.length_cons, List.range'_succ, wpOps_cons]
  refine op_sound h1 g1 ri (fun w1 a1 E1 β1 n1 => ?_)
  exact ops_sound l (i + 1) s1 _ s' h2 g2 n1.ri (fun w' a' E' β' n2 => hQ _ _ _ _ (n1.trans n2))
theorem ops_panics {Q : Exit → Act → World → Prop} : ∀ (l : List Oper) (i : Nat) (s : RS) (j : Nat) (recs : List Rec) (p : AVal) (s' : RS), OpsPan P fh ops l i s j recs p s' → ops.drop i = l → ∀ {w a E β}, RI w a E β s →
 (∀ w' a' E' β' c, RI w' a' E' β' s' → Evo (Xβ β) w E s.H w' E' s'.H → (∀ t b, β' t = some b → β t = some b ∨ w.heap.size ≤ b) → Rep w' E' s'.H p c → Q (.panic [{ v := c, recovered := false }]) a' w') → wpOps P ops.toArray Q (List.range' i l.length) a w
 | [], i, s, _, _, _, _, h, _, w, a, E, β, ri, hQ => by cases h
 | o :: l, i, s, _, _, p, s', .here h1, hd, w, a, E, β, ri, hQ => by
  obtain ⟨g1, g2⟩ := drop_mem hd
  rw [List.length_cons, List.range'_succ, wpOps_cons]
  exact pan_sound h1 g1 ri (fun w' E' c f => hQ w' a E' β c f.ri f.evo (fun _ _ h => .inl h) f.rep)
 | o :: l, i, s, j, _, p, s', .later (s1 := s1) h1 h2, hd, w, a, E, β, ri, hQ => by
  obtain ⟨g1, g2⟩ := drop_mem hd
  rw [List.length_cons, List.range'_succ, wpOps_cons]
  refine op_sound h1 g1 ri (fun w1 a1 E1 β1 n1 => ?_)
  refine ops_panics l (i + 1) s1 _ _ p s' h2 g2 n1.ri (fun w' a' E' β' c r1 r2 r3 r4 => ?_)
  refine hQ w' a' E' β' c r1 (n1.evo.trans r2 (fun b hb => ?_)) (fun t b hb => ?_) r4
  · obtain ⟨t, ht⟩ := hb
    exact (n1.new t b ht).imp (fun g => ⟨t, g⟩) id
  · rcases r3 t b hb with g | g
    · exact n1.new t b g
    · exact .inr (Nat.le_trans n1.evo.size g)
theorem OpsPan.keeps : ∀ {l : List Oper} {i : Nat} {s : RS} {j : Nat} {recs : List Rec} {p : AVal} {s' : RS}, OpsPan P fh ops l i s j recs p s' → ∀ t, (∀ o ∈ l, o.dst ≠ some t) → s'.T.getD t .undef = s.T.getD t .undef ∧ s'.G.getD t none = s.G.getD t none
 | _, _, _, _, _, _, _, .here h, t, ht => by obtain ⟨e1, e2⟩ := h.keeps; rw [e1, e2]; exact ⟨rfl, rfl⟩
 | _, _, _, _, _, _, _, .later h1 h2, t, ht => by
  obtain ⟨e1, e2, _⟩ := h1.keeps (ht _ (by simp))
  obtain ⟨g1, g2⟩ := h2.keeps t (fun o ho => ht o (by simp [ho]))
  exact ⟨g1.trans e1, g2.trans e2⟩
theorem OpsPan.len : ∀ {l : List Oper} {i : Nat} {s : RS} {j : Nat} {recs : List Rec} {p : AVal} {s' : RS}, OpsPan P fh ops l i s j recs p s' → s'.T.length = s.T.length
 | _, _, _, _, _, _, _, .here h => by obtain ⟨e1, e2⟩ := h.keeps; rw [e1]
 | _, _, _, _, _, _, _, .later h1 h2 => by
  refine h2.len.trans ?_
  cases h1 <;> exact setDst_length _ _
theorem region_sound (hh : HOK P h) {id : Nat} {ops : Array Oper} {k : Kont} {out : Out} (hi : iRegion P h fh ops false st k = some out) : ∃ e st', CodeOK P (.region id ops false) st e st' ∧ k e st' = some out := by
 simp only [iRegion, withUntag_eq, iOps_eq] at hi
 have hrange : List.range ops.size = List.range' 0 ops.toList.length := by rw [List.range_eq_range']; simp
 rcases iOps_run hh _ _ _ _ _ _ (TagInv.none _) hi with ⟨recs, s', h1, h2⟩ | ⟨j, recs, p, s', h1, h2⟩
 · refine ⟨.normal, _, fun w a E β ci => ?_, h2⟩
   refine wp_region ?_
   rw [hrange]
   have := ops_sound (Q := Leaves' w E β st.H .normal (untag s')) (ops := ops.toList) _ 0 _ _ _ h1 rfl ci (fun w' a' E' β' n => ⟨E', β', trivial, n.ri.untag, n.evo, n.new⟩)
   exact this
 · refine ⟨.panic p, _, fun w a E β ci => ?_, h2⟩
   refine wp_region ?_
   rw [hrange]
   have := ops_panics (Q := Leaves' w E β st.H (.panic p) { T := dropDsts ops.toList st.T, B := st.B.map fun _ => [], H := s'.H, D := s'.D }) (ops := ops.toList) _ 0 _ _ _ _ _ h1 rfl ci (fun w' a' E' β' c r1 r2 r3 r4 =>
    ⟨E', β', ⟨c, rfl, r4⟩, r1.panicked (fun t ht => ⟨(h1.keeps t ht).1, (h1.keeps t ht).2.trans (getD_map_none _ _)⟩) h1.len (by
     have e1 := r1.fs.bsize
     have e2 := ci.fs.bsize
     rw [e1, h1.len]; exact e2.symm), r2, r3⟩)
   exact this
end Go.Mu
namespace Go.Mu
open Go
variable {P : Program} {h : Hd} {fh : FH} {ops : List Oper} {w w' : World} {a : Act} {E E' : Env} {H H' : Heap} {β β' : Nat → Option Nat} {T : Vs} {B : Boxes} {G : Tags} {s s' : RS} {o : Oper} {st st' : St}
def RegionsOK (P : Program) (h : Hd) (fh : FH) : Prop := ∀ id ops draw st k out, iRegion P h fh ops draw st k = some out → ∃ e st', CodeOK P (.region id ops draw) st e st' ∧ k e st' = some out
def LOk (P : Program) (fh : FH) : Code → Prop
 | .seq a b => LOk P fh a ∧ LOk P fh b
 | .cond _ a b => LOk P fh a ∧ LOk P fh b
 | .block _ c => LOk P fh c
 | .loop c => LOk P fh c ∧ ∀ sp, fh.loops (firstRegion c) = some sp → ∀ st k out, sp st k = some out → ∃ e st', CodeOK P (.loop c) st e st' ∧ k e st' = some out
 | _ => True
theorem LOk.none (hn : ∀ i, fh.loops i = none) : ∀ c : Code, LOk P fh c := by
 intro c
 induction c <;> simp_all [LOk]
structure FnOK (P : Program) (h : Hd) (fh : FH) (g : FuncId) : Prop where
 reg : RegionsOK P h fh
 lp : ∀ fn c, P.funcs[g]? = some fn → fn.body = some c → LOk P fh c
theorem leaves_normal {x : Exit} {a' : Act} (h : Leaves' w E β H .normal st' x a' w') : x = .normal := by
 obtain ⟨E', β', h1, _⟩ := h
 cases x <;> first | rfl | exact h1.elim
theorem leaves_other {e : AExit} {x : Exit} {a' : Act} (he : e ≠ .normal) (h : Leaves' w E β H e st' x a' w') : x ≠ .normal := by
 obtain ⟨E', β', h1, _⟩ := h
 intro hx; subst hx
 cases e <;> first | exact he rfl | exact h1.elim
theorem then_normal {Q : Exit → Act → World → Prop} {K : Act → World → Prop} {x : Exit} (hx : x = .normal) (hk : K a w) : Exit.then K Q x a w := by subst hx; exact hk
theorem then_other {Q : Exit → Act → World → Prop} {K : Act → World → Prop} {x : Exit} (hx : x ≠ .normal) (hq : Q x a w) : Exit.then K Q x a w := by
 cases x <;> first | exact absurd rfl hx | exact hq
theorem CodeOK.seq {x y : Code} {st1 : St} {e : AExit} (h1 : CodeOK P x st .normal st1) (h2 : CodeOK P y st1 e st') : CodeOK P (.seq x y) st e st' := by
 intro w a E β ci
 refine wp_seq (wp_mono (h1 w a E β ci) (fun x a' w' hl => then_normal (leaves_normal hl) ?_))
 obtain ⟨E', β', _, c1, ev, nw⟩ := hl
 exact wp_mono (h2 w' a' E' β' c1) (fun x a2 w2 hl2 => hl2.trans ev nw)
theorem CodeOK.seq_out {x y : Code} {e : AExit} (he : e ≠ .normal) (h1 : CodeOK P x st e st') : CodeOK P (.seq x y) st e st' := by
 intro w a E β ci
 exact wp_seq (wp_mono (h1 w a E β ci) (fun x a' w' hl => then_other (leaves_other he hl) hl))
theorem CodeOK.block {id : Nat} {c : Code} {e : AExit} (h1 : CodeOK P c st e st') : CodeOK P (.block id c) st (match e with | .exit id' => if id' = id then .normal else .exit id' | e => e) st' := by
 intro w a E β ci
 refine wp_block (wp_mono (h1 w a E β ci) (fun x a' w' hl => ?_))
 obtain ⟨E', β', h1, h2, h3, h4⟩ := hl
 cases e with
 | exit id' =>
  cases x <;> try exact h1.elim
  have h1' : id' = _ := h1
  subst h1'
  simp only [Exit.inBlock]
  split
  · exact ⟨E', β', trivial, h2, h3, h4⟩
  · exact ⟨E', β', rfl, h2, h3, h4⟩
 | normal => cases x <;> first | exact h1.elim | exact ⟨E', β', h1, h2, h3, h4⟩
 | ret => cases x <;> first | exact h1.elim | exact ⟨E', β', h1, h2, h3, h4⟩
 | panic p => cases x <;> first | exact h1.elim | exact ⟨E', β', h1, h2, h3, h4⟩
theorem zipIdx_get {α : Type} (l : List α) (f : α × Nat → α) (t : Nat) (d : α) : (l.zipIdx.map f).getD t d = match l[t]? with | some x => f (x, t) | none => d := by
 simp only [gQ, List.getElem?_map, List.getElem?_zipIdx]
 cases l[t]? <;> simp
theorem CI.forget {lv : Option (List Nat)} (ci : CI w a E β st) : CI w a E β (forget lv st) := by
 cases lv with
 | none => exact ci
 | some l =>
  have fs := ci.fs
  refine ⟨⟨fs.sim, ?_, ?_, by simp [toRS], fun t ht => ?_, fun t b hb => ?_, fs.binj⟩, fun t ht => ?_, fun t d q g ht => ?_, ci.defs⟩
  · rw [fs.tsize]; simp [toRS, Mu.forget]
  · have := fs.bsize
    simpa [toRS, Mu.forget] using this
  · have hv := fs.vals t (valid_none _ _)
    show RepT w E st.H β ((st.T.zipIdx.map _).getD t .undef) _
    rw [zipIdx_get]
    have e : (toRS st).T.getD t .undef = (st.T[t]?).getD .undef := gQ
    rw [e] at hv
    cases hh : st.T[t]? with
    | none => exact .undef _
    | some v =>
     rw [hh] at hv
     simp only
     split
     · exact hv
     · exact .undef _
  · obtain ⟨h1, h2, h3, h4⟩ := fs.box t b hb
    refine ⟨h1, h2, h3, ?_⟩
    have e2 : (toRS (Mu.forget (some l) st)).B.getD t [] = match st.B[t]? with | some x => (if l.contains t then x else []) | none => [] := by
     show (st.B.zipIdx.map (fun x => if l.contains x.2 then x.1 else [])).getD t [] = _
     rw [zipIdx_get]
     cases st.B[t]? <;> rfl
    have e1 : (toRS st).B.getD t [] = (st.B[t]?).getD [] := gQ
    have em : BlockRep w E (toRS (Mu.forget (some l) st)).H b ([] : Vs).length (fun j => ([] : Vs)[j]?) := by
     obtain ⟨ds, ty, fr, b1, b2, b3, b4⟩ := h4
     exact ⟨ds, ty, fr, b1, by simp, fun o ho => by simp at ho, fun j v hv => by simp at hv⟩
    rw [e1] at h4
    rw [e2]
    cases hh : st.B[t]? with
    | none => exact em
    | some x =>
     rw [hh] at h4
     simp only
     split
     · exact h4
     · exact em
  · have : valid (toRS (Mu.forget (some l) st)).G t = true := valid_none _ _
    rw [this] at ht; cases ht
  · have : (toRS (Mu.forget (some l) st)).G.getD t none = none := getD_map_none _ _
    rw [this] at ht; cases ht
theorem forget_H {lv : Option (List Nat)} : (forget lv st).H = st.H := by cases lv <;> rfl
theorem rounds_mono {c : Code} {Q Q' : Exit → Act → World → Prop} (h : ∀ x a w, Q x a w → Q' x a w) : ∀ (m : Nat) (a : Act) (w : World), Code.rounds P c Q m a w → Code.rounds P c Q' m a w
 | 0, _, _, hr => hr.elim
 | m + 1, a, w, hr => by
  rw [rounds_succ] at hr ⊢
  refine wp_mono hr (fun x a' w' hx => ?_)
  cases x <;> first | exact rounds_mono h m _ _ hx | exact h _ _ _ hx
theorem iLoop_sound {c : Code} {body : St → Kont → Ans} {lv : Option (List Nat)} (hb : ∀ st k out, body st k = some out → ∃ e st', CodeOK P c st e st' ∧ k e st' = some out) :
 ∀ (n : Nat) (st : St) (k : Kont) (out : Out), iLoop body (forget lv) n st k = some out → ∃ e st' m, (∀ w a E β, CI w a E β st → Code.rounds P c (Leaves' w E β st.H e st') m a w) ∧ k e st' = some out
 | 0, st, k, out, h => by simp [iLoop] at h
 | n + 1, st, k, out, h => by
  simp only [iLoop] at h
  obtain ⟨e, st1, h1, h2⟩ := hb _ _ _ h
  cases e with
  | normal =>
   obtain ⟨e2, st2, m, g1, g2⟩ := iLoop_sound hb n st1 k out h2
   refine ⟨e2, st2, m + 1, fun w a E β ci => ?_, g2⟩
   rw [rounds_succ]
   have := h1 w a E β ci.forget
   rw [forget_H] at this
   refine wp_mono this (fun x a' w' hl => then_normal (leaves_normal hl) ?_)
   obtain ⟨E', β', _, c1, ev, nw⟩ := hl
   exact rounds_mono (fun x a2 w2 hl2 => hl2.trans ev nw) m _ _ (g1 w' a' E' β' c1)
  | exit id => exact ⟨_, st1, 1, fun w a E β ci => by
   have := h1 w a E β ci.forget
   rw [forget_H] at this
   exact wp_mono this (fun x a' w' hl => then_other (leaves_other (by simp) hl) hl), h2⟩
  | ret => exact ⟨_, st1, 1, fun w a E β ci => by
   have := h1 w a E β ci.forget
   rw [forget_H] at this
   exact wp_mono this (fun x a' w' hl => then_other (leaves_other (by simp) hl) hl), h2⟩
  | panic p => exact ⟨_, st1, 1, fun w a E β ci => by
   have := h1 w a E β ci.forget
   rw [forget_H] at this
   exact wp_mono this (fun x a' w' hl => then_other (leaves_other (by simp) hl) hl), h2⟩
theorem iCode_sound (hr : RegionsOK P h fh) {F : Nat} : ∀ (c : Code) (hl : LOk P fh c) (st : St) (k : Kont) (out : Out), iCode P h fh F c st k = some out → ∃ e st', CodeOK P c st e st' ∧ k e st' = some out := by
 intro c
 induction c <;> intro hl st k out hi
 case skip => exact ⟨.normal, st, fun w a E β ci => wp_skip ⟨E, β, trivial, ci, .refl, fun _ _ h => .inl h⟩, hi⟩
 case region id ops draw => exact hr id ops draw st k out hi
 case seq x y ih1 ih2 =>
  simp only [iCode] at hi
  obtain ⟨e, st1, h1, h2⟩ := ih1 hl.1 _ _ _ hi
  cases e with
  | normal =>
   obtain ⟨e2, st2, g1, g2⟩ := ih2 hl.2 _ _ _ h2
   exact ⟨e2, st2, h1.seq g1, g2⟩
  | exit id => exact ⟨_, st1, h1.seq_out (by simp), h2⟩
  | ret => exact ⟨_, st1, h1.seq_out (by simp), h2⟩
  | panic p => exact ⟨_, st1, h1.seq_out (by simp), h2⟩
 case cond c x y ih1 ih2 =>
  simp only [iCode] at hi
  split at hi
  · rename_i q hq
    rw [Bool.cond_eq_ite] at hi
    have hev : ∀ w a E β, CI w a E β st → a.eval c = .bool q := fun w a E β ci => by
     have := aeval_rep ci.fs c (fun t _ => valid_none _ _)
     have e : aeval (toRS st).T c = .bool q := hq
     rw [e] at this
     exact repT_bool this
    split at hi
    · rename_i hqt
      obtain ⟨e, st1, h1, h2⟩ := ih1 hl.1 _ _ _ hi
      exact ⟨e, st1, fun w a E β ci => wp_cond (hev w a E β ci) (by rw [if_pos hqt]; exact h1 w a E β ci), h2⟩
    · rename_i hqf
      obtain ⟨e, st1, h1, h2⟩ := ih2 hl.2 _ _ _ hi
      exact ⟨e, st1, fun w a E β ci => wp_cond (hev w a E β ci) (by rw [if_neg hqf]; exact h1 w a E β ci), h2⟩
  · simp at hi
 case block id c ih =>
  simp only [iCode] at hi
  obtain ⟨e, st1, h1, h2⟩ := ih hl _ _ _ hi
  refine ⟨_, st1, h1.block, ?_⟩
  rw [← h2]
  cases e with
  | exit id' => simp only; split <;> rfl
  | _ => rfl
 case loop c ih =>
  simp only [iCode] at hi
  split at hi
  · rename_i sp hsp
    exact hl.2 sp hsp _ _ _ hi
  · obtain ⟨e, st1, m, h1, h2⟩ := iLoop_sound (ih hl.1) _ _ _ _ hi
    exact ⟨e, st1, fun w a E β ci => wp_loop_rounds m (h1 w a E β ci), h2⟩
 case exit id => exact ⟨.exit id, st, fun w a E β ci => wp_exit ⟨E, β, rfl, ci, .refl, fun _ _ h => .inl h⟩, hi⟩
 case ret => exact ⟨.ret, st, fun w a E β ci => wp_ret ⟨E, β, trivial, ci, .refl, fun _ _ h => .inl h⟩, hi⟩
 all_goals (simp [iCode] at hi)
end Go.Mu
namespace Go.Mu
open Go
variable {P : Program} {h : Hd} {fh : FH} {w w' : World} {a : Act} {E E' : Env} {H H' : Heap} {β β' : Nat → Option Nat} {st st' : St}
def act0 (fn : Func) (args : Array Value) : Act := { tmps := args ++ Array.replicate (fn.ntmps - args.size) undef, defers := [] }
theorem start_ci {fn : Func} {xs : Vs} {cs : List Value} (sim : Sim w E H) (hr : RepL w E H xs cs) : CI w (act0 fn cs.toArray) E (fun _ => none) (start fn xs H) := by
 have hT : (start fn xs H).T = xs ++ List.replicate (fn.ntmps - xs.length) AVal.undef := rfl
 refine ⟨⟨sim, ?_, ?_, by simp [toRS], fun t _ => ?_, fun t b hb => by simp at hb, fun t u b hb => by simp at hb⟩, fun t ht => ?_, fun t d q g ht => ?_, .nil⟩
 · simp [act0, toRS, start, hr.1]
 · simp [toRS, start]
 · show RepT w E H (fun _ => none) ((xs ++ List.replicate (fn.ntmps - xs.length) AVal.undef).getD t AVal.undef) _
   simp only [gQ]
   rcases Nat.lt_or_ge t xs.length with g | g
   · rw [List.getElem?_append_left g]
     have := hr.2 t g
     simp only [gQ] at this
     refine .val _ _ ?_
     have e : (act0 fn cs.toArray).tmps.getD t undef = cs[t]?.getD undef := by
      simp only [act0, Array.getD_eq_getD_getElem?]
      rw [Array.getElem?_append_left (by simp [hr.1, g])]
      simp
     rw [e]; exact this
   · rw [List.getElem?_append_right g]
     have : ((List.replicate (fn.ntmps - xs.length) AVal.undef)[t - xs.length]?).getD .undef = .undef := by
      rw [List.getElem?_replicate]; split <;> rfl
     rw [this]; exact .undef _
 · have : valid (toRS (start fn xs H)).G t = true := valid_none _ _
   rw [this] at ht; cases ht
 · have : (toRS (start fn xs H)).G.getD t none = none := getD_map_none _ _
   rw [this] at ht; cases ht
theorem resAll_run (ci : CI w a E β st) : ∀ (rs : List ResultVar) (ok : Bool) (vs : Vs), resAll P st.T st.B st.H rs = some (ok, vs) → ok = true → vs.all noTmp = true →
 ∃ l : List Value, (rs.mapM (fun r => (match r with | .tmp t => pure (a.tmps.getD t undef) | .cell b t => do loadVar t (← asAddr (a.tmps.getD b undef)) : Sem Value))).run P w = .ok l w ∧ RepL w E st.H vs l
 | [], ok, vs, h, hok, hn => by
  simp only [resAll, sJ, Prod.mk.injEq] at h
  obtain ⟨rfl, rfl⟩ := h
  exact ⟨[], by simp, rfl, fun j hj => by simp at hj⟩
 | r :: rs, ok, vs, h, hok, hn => by
  simp only [resAll] at h
  split at h
  · rename_i ok1 v ok2 vs2 h1 h2
    simp only [sJ, Prod.mk.injEq] at h
    obtain ⟨rfl, rfl⟩ := h
    simp only [Bool.and_eq_true] at hok
    simp only [List.all_cons, Bool.and_eq_true] at hn
    obtain ⟨l, hl, hrl⟩ := resAll_run ci rs ok2 vs2 h2 hok.2 hn.2
    have one : ∃ c, ((match r with | .tmp t => pure (a.tmps.getD t undef) | .cell b t => do loadVar t (← asAddr (a.tmps.getD b undef)) : Sem Value)).run P w = .ok c w ∧ Rep w E st.H v c := by
     cases r with
     | tmp t =>
      simp only [resA, sJ, Prod.mk.injEq] at h1
      obtain ⟨_, rfl⟩ := h1
      exact ⟨_, by simp, noTmp_rep hn.1 (ci.fs.vals t (valid_none _ _))⟩
     | cell b t =>
      simp only [resA] at h1
      rw [hok.1] at h1
      obtain ⟨blk, off, d, e, hd, hrep⟩ := loadA_run ci.fs h1 (ci.fs.vals b (valid_none _ _))
      refine ⟨d, ?_, hrep⟩
      simp only [Sem.run_bind, e, asAddr, Sem.run_pure, Result.andThen_ok, hd]
    obtain ⟨c, hc, hrc⟩ := one
    refine ⟨c :: l, ?_, by simp [hrl.1], fun j hj => ?_⟩
    · rw [List.mapM_cons]
      simp only [Sem.run_bind, hc, Result.andThen_ok, hl, Sem.run_pure]
    · cases j with
      | zero => exact hrc
      | succ j => exact hrl.2 j (by simpa using hj)
  · simp at h
theorem oneOf_rep {vs : Vs} {l : List Value} (h : RepL w E H vs l) : Rep w E H (oneOf vs) (if h : l.toArray.size = 1 then l.toArray[0] else .tuple l.toArray) := by
 have tup : ∀ vs : Vs, RepL w E H vs l → Rep w E H (.tuple vs) (.tuple l.toArray) := fun vs h => .tuple vs l h.1.symm h.2
 match vs, l, h with
 | [v], [c], h =>
  simp only [oneOf]
  have := h.2 0 (by simp)
  simpa using this
 | [], l, h =>
  have : l = [] := List.eq_nil_of_length_eq_zero h.1
  subst this
  exact .tuple [] [] rfl (fun j hj => by simp at hj)
 | [v], [], h => simp [RepL] at h
 | [v], c :: d :: l, h => simp [RepL] at h
 | v :: u :: vs, l, h =>
  have hl := h.1
  simp only [oneOf]
  rw [dif_neg (by simp [hl])]
  exact .tuple _ l h.1.symm h.2
theorem results_run {fn : Func} (ci : CI w a E β st) {vs : Vs} (h : resAll P st.T st.B st.H fn.results.toList = some (true, vs)) (hn : vs.all noTmp = true) : ∃ v, (results fn a.tmps).run P w = .ok v w ∧ Rep w E st.H (oneOf vs) v := by
 obtain ⟨l, hl, hr⟩ := resAll_run ci _ _ _ h rfl hn
 refine ⟨_, ?_, oneOf_rep hr⟩
 have hm : (fn.results.mapM (fun r => (match r with | .tmp t => pure (a.tmps.getD t undef) | .cell b t => do loadVar t (← asAddr (a.tmps.getD b undef)) : Sem Value))).run P w = .ok l.toArray w := by
  rw [← Array.toArray_toList (xs := fn.results), List.mapM_toArray]
  simp only [Sem.run_map, hl, Result.andThen_ok]
 unfold results
 simp only [Sem.run_bind]
 erw [hm]
 simp only [Result.andThen_ok, Sem.run_pure]
theorem finish_some {fn : Func} {k : Out → Ans} {out : Out} (h : finish P fn st k = some out) : ∃ vs, resAll P st.T st.B st.H fn.results.toList = some (true, vs) ∧ vs.all noTmp = true ∧ k (.ret (oneOf vs) st.H) = some out := by
 unfold finish at h
 split at h
 · rename_i ok vs hr
   rw [Bool.cond_eq_ite] at h
   split at h
   · rename_i hc
     simp only [Bool.and_eq_true] at hc
     obtain ⟨rfl, h2⟩ := hc
     exact ⟨vs, hr, h2, h⟩
   · simp at h
 · simp at h
theorem evo_none (ev : Evo (Xβ (fun _ => none)) w E H w' E' H') : Evo No w E H w' E' H' := ev.weaken (fun x hx => by obtain ⟨t, ht⟩ := hx; simp at ht)
theorem defs_nil {D : List (FuncId × Vs)} {ds : List Deferred} (h : DefRep w E H D ds) (hd : D.isEmpty = true) : ds = [] := by
 cases h with
 | nil => rfl
 | cons _ _ => simp at hd
end Go.Mu
