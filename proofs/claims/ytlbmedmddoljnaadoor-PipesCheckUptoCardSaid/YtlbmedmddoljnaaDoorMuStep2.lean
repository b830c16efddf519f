/-
  Mu: the operations, one by one (comparisons, addresses, slices).
-/
import Derived.Test.YtlbmedmddoljnaaDoorMuStep1
import Derived.Laws.StructEq
set_option linter.unusedVariables false
set_option linter.unusedSimpArgs false
namespace Go.Mu
open Go
variable {P : Program} {fh : FH} {w w' : World} {a : Act} {E E' : Env} {H H' : Heap} {β : Nat → Option Nat} {T : List AVal} {B : Boxes} {G : Tags}
  {dst : Option Nat} {type : TypeId} {pos : String} {after : Array Edge} {guard : Option (Nat × Bool)} {r : SR}

theorem plainKey_of {t : TypeId} (h : P.underlying t = some .string ∨ (∃ k, P.underlying t = some (.int k)) ∨ P.underlying t = some .bool) : P.plainKey t = true := by
  unfold Program.plainKey
  rcases h with h | ⟨k, h⟩ | h <;> simp [h]

theorem fieldsEq_run (d : Nat) : ∀ (fs : List Field) (i : Nat) (xs ys : List AVal) (cx cy : List Value) (r : Bool), fieldsEq P i fs xs ys = some r →
    (∀ j, j < xs.length → Rep w E H (xs.getD j .undef) (cx.getD (i + j) undef) ∧ i + j < cx.length) → (∀ j, j < ys.length → Rep w E H (ys.getD j .undef) (cy.getD (i + j) undef) ∧ i + j < cy.length) →
    (Op.eqFields (d + 1) cx.toArray cy.toArray fs).run P w = .ok r w
  | [], _, [], [], _, _, r, h, _, _ => by
    simp only [fieldsEq, Option.some.injEq] at h
    subst h
    simp [Op.eqFields]
  | [], _, _ :: _, _, _, _, _, h, _, _ => by simp [fieldsEq] at h
  | [], _, [], _ :: _, _, _, _, h, _, _ => by simp [fieldsEq] at h
  | _ :: _, _, [], _, _, _, _, h, _, _ => by simp [fieldsEq] at h
  | _ :: _, _, _ :: _, [], _, _, _, h, _, _ => by simp [fieldsEq] at h
  | f :: fs, i, x :: xs, y :: ys, cx, cy, r, h, hx, hy => by
    simp only [fieldsEq] at h
    split at h
    · rename_i hf
      obtain ⟨hname, hoff⟩ := hf
      have ih : ∀ r', fieldsEq P (i + 1) fs xs ys = some r' → (Op.eqFields (d + 1) cx.toArray cy.toArray fs).run P w = .ok r' w := fun r' h' =>
        fieldsEq_run d fs (i + 1) xs ys cx cy r' h' (fun j hj => by have := hx (j + 1) (by simp; omega); rw [show i + (j + 1) = i + 1 + j by omega] at this; simpa using this)
          (fun j hj => by have := hy (j + 1) (by simp; omega); rw [show i + (j + 1) = i + 1 + j by omega] at this; simpa using this)
      obtain ⟨rx, lx⟩ := hx 0 (by simp)
      obtain ⟨ry, ly⟩ := hy 0 (by simp)
      simp only [Nat.add_zero, List.getD_cons_zero] at rx ry lx ly
      have gx : cx.toArray[f.offset]? = some (cx.getD i undef) := by rw [hoff]; simp [List.getD_eq_getElem?_getD, List.getElem?_eq_getElem lx]
      have gy : cy.toArray[f.offset]? = some (cy.getD i undef) := by rw [hoff]; simp [List.getD_eq_getElem?_getD, List.getElem?_eq_getElem ly]
      generalize cx.getD i undef = vx at *
      generalize cy.getD i undef = vy at *
      split at h
      · rename_i k' k p k'' q r' hu hr
        split at h
        · rename_i hk
          subst hk
          simp only [Option.some.injEq] at h
          obtain rfl := rep_int rx
          obtain rfl := rep_int ry
          have hp := plainKey_of (P := P) (t := f.type) (.inr (.inl ⟨_, hu⟩))
          simp only [Op.eqFields, hname, ne_eq, not_false_eq_true, if_true, Sem.run_bind, run_part_plain w hp gx, run_part_plain w hp gy, Result.andThen_ok, run_equalIn_int w d _ _ _ _ _ hu]
          rw [← h]
          by_cases e : p = q
          · simp [e, ih r' hr]
          · simp [e]
        · simp at h
      · rename_i s1 s2 r' hu hr
        simp only [Option.some.injEq] at h
        obtain ⟨b1, rfl, e1⟩ := rep_str rx
        obtain ⟨b2, rfl, e2⟩ := rep_str ry
        have hp := plainKey_of (P := P) (t := f.type) (.inl hu)
        simp only [Op.eqFields, hname, ne_eq, not_false_eq_true, if_true, Sem.run_bind, run_part_plain w hp gx, run_part_plain w hp gy, Result.andThen_ok, run_equalIn_string w d _ _ _ hu, toList_eq]
        rw [← h]
        rw [e1, e2]
        by_cases e : s1 = s2
        · simp [e, ih r' hr]
        · simp [e]
      · rename_i s1 s2 r' hu hr
        simp only [Option.some.injEq] at h
        obtain rfl := rep_bool rx
        obtain rfl := rep_bool ry
        have hp := plainKey_of (P := P) (t := f.type) (.inr (.inr hu))
        simp only [Op.eqFields, hname, ne_eq, not_false_eq_true, if_true, Sem.run_bind, run_part_plain w hp gx, run_part_plain w hp gy, Result.andThen_ok, run_equalIn_bool w d _ _ _ hu]
        rw [← h]
        by_cases e : s1 = s2
        · simp [e, ih r' hr]
        · simp [e]
      · simp at h
    · simp at h

theorem binA_run (fs : FS w a E H β T B G) {op : BinOp} {t : TypeId} {x y : Operand} {u v r : AVal} {cu cv : Value} (h : binA P op t u v = some (true, r)) (hu : RepT w E H β u cu) (hv : RepT w E H β v cv) :
    ∃ c, (do eqGuard op t x y cu cv; binOp op t cu cv : Sem Value).run P w = .ok c w ∧ RepT w E H β r c := by
  unfold binA at h
  split at h
  · rename_i k p k' q
    obtain rfl := repT_int hu
    obtain rfl := repT_int hv
    have hg : (eqGuard op t x y (.int k p) (.int k' q)).run P w = .ok () w := by
      unfold eqGuard; split <;> simp
    split at h
    · obtain ⟨c, h1, h2⟩ := shiftA_run (P := P) (k' := k') h w t
      exact ⟨c, by simp [hg, h1], h2 _ _ _⟩
    · obtain ⟨c, h1, h2⟩ := shiftA_run (P := P) (k' := k') h w t
      exact ⟨c, by simp [hg, h1], h2 _ _ _⟩
    · split at h
      · rename_i hk
        subst hk
        obtain ⟨c, h1, h2⟩ := intBin_run (P := P) h w t
        exact ⟨c, by simp [hg, h1], h2 _ _ _⟩
      · simp at h
  · rename_i s1 s2
    obtain ⟨b1, rfl, e1⟩ := repT_str hu
    obtain ⟨b2, rfl, e2⟩ := repT_str hv
    subst e1; subst e2
    have hg : (eqGuard op t x y (.string b1) (.string b2)).run P w = .ok () w := by
      unfold eqGuard; split <;> simp
    obtain ⟨c, h1, h2⟩ := strBin_run (P := P) h w t
    exact ⟨c, by simp [hg, h1], h2 _ _ _⟩
  · rename_i p q
    obtain rfl := repT_bool hu
    obtain rfl := repT_bool hv
    have hg : (eqGuard op t x y (.bool p) (.bool q)).run P w = .ok () w := by
      unfold eqGuard; split <;> simp
    split at h
    · rename_i ht
      simp only [Option.some.injEq, Prod.mk.injEq, true_and] at h
      subst h
      have he : (Op.equal t (.bool p) (.bool q)).run P w = .ok (p == q) w := run_equalIn_bool w 9999 t p q ht
      exact ⟨.bool (p == q), by simp only [Sem.run_bind, hg, Result.andThen_ok, binOp, he, Sem.run_pure], .bool _⟩
    · rename_i ht
      simp only [Option.some.injEq, Prod.mk.injEq, true_and] at h
      subst h
      have he : (Op.equal t (.bool p) (.bool q)).run P w = .ok (p == q) w := run_equalIn_bool w 9999 t p q ht
      exact ⟨.bool (!(p == q)), by simp only [Sem.run_bind, hg, Result.andThen_ok, binOp, he, Sem.run_pure], .bool _⟩
    · simp at h
  · rename_i xs ys
    obtain ⟨cx, rfl, lx, hx⟩ := rep_agg (noTmp_of hu (by simp))
    obtain ⟨cy, rfl, ly, hy⟩ := rep_agg (noTmp_of hv (by simp))
    have key : ∀ r', structEq P t xs ys = some r' → (op = .eql ∨ op = .neq) → (Op.equal t (.agg cx.toArray) (.agg cy.toArray)).run P w = .ok r' w ∧ (eqGuard op t x y (.agg cx.toArray) (.agg cy.toArray)).run P w = .ok () w := by
      intro r' hr hop
      unfold structEq at hr
      split at hr
      · rename_i fields ht
        split at hr
        · rename_i hc
          obtain ⟨hc1, hc2⟩ := hc
          have hfo : P.fieldsOf t = fields := by simp [Program.fieldsOf, ht]
          have hrun := fieldsEq_run 9998 (P := P) (w := w) (E := E) (H := H) fields.toList 0 xs ys cx cy r' hr (fun j hj => by simpa using ⟨(hx j hj).2, by omega⟩) (fun j hj => by simpa using ⟨(hy j hj).2, by omega⟩)
          refine ⟨?_, ?_⟩
          · have := run_equalIn_struct (P := P) w 9999 t cx.toArray cy.toArray (by rw [hfo]; exact ht) hc1
            rw [hfo] at this
            exact this.trans hrun
          · rcases hop with rfl | rfl <;> simp [eqGuard, hc2]
        · simp at hr
      · simp at hr
    split at h
    · rename_i r' hr
      simp only [Option.some.injEq, Prod.mk.injEq, true_and] at h
      subst h
      obtain ⟨k1, k2⟩ := key _ hr (.inl rfl)
      exact ⟨.bool r', by simp only [Sem.run_bind, k2, Result.andThen_ok, binOp, k1, Sem.run_pure], .bool _⟩
    · rename_i r' hr
      simp only [Option.some.injEq, Prod.mk.injEq, true_and] at h
      subst h
      obtain ⟨k1, k2⟩ := key _ hr (.inr rfl)
      exact ⟨.bool (!r'), by simp only [Sem.run_bind, k2, Result.andThen_ok, binOp, k1, Sem.run_pure], .bool _⟩
    · simp at h
  · simp at h
theorem step_bin (fs : FS w a E H β T B G) {op : BinOp} {t u : TypeId} {x y : Operand} (hv : okTmps G (mkO dst (.binOp op t x y u) type pos after guard)) (h : val B H (binA P op t (aeval T x) (aeval T y)) = some r) (hok : r.ok = true) :
    Sound P w a E H β T G (mkO dst (.binOp op t x y u) type pos after guard) r := by
  obtain ⟨ok, v, h1, rfl⟩ := val_some h
  simp only at hok; subst hok
  obtain ⟨c, hr, hrep⟩ := binA_run (x := x) (y := y) fs h1 (okTmps_rep fs hv (x := x) (by simp [Op.operands])) (okTmps_rep fs hv (x := y) (by simp [Op.operands]))
  refine Sound.pure fs (c := c) ?_ hrep
  simp only [execOp, Sem.run_bind] at hr ⊢
  rw [hr]; simp
theorem step_un (fs : FS w a E H β T B G) {op : UnOp} {t : TypeId} {x : Operand} (hv : okTmps G (mkO dst (.unOp op t x) type pos after guard)) (h : val1 B H (unA op (aeval T x)) = some r) :
    Sound P w a E H β T G (mkO dst (.unOp op t x) type pos after guard) r := by
  obtain ⟨v, h1, rfl⟩ := val1_some h
  have hx := okTmps_rep fs hv (x := x) (by simp [Op.operands])
  unfold unA at h1
  split at h1
  · rename_i b hb
    rw [hb] at hx
    have e := repT_bool hx
    simp only [Option.some.injEq] at h1; subst h1
    exact Sound.pure fs (c := .bool (!b)) (by simp [execOp, e, Op.unary]) (.bool _)
  · rename_i k n hb
    rw [hb] at hx
    have e := repT_int hx
    simp only [Option.some.injEq] at h1; subst h1
    exact Sound.pure fs (c := .int k (k.wrap (0 - n))) (by simp [execOp, e, Op.unary, Op.intArith]) (.int _ _)
  · simp at h1
theorem elemT_some {t e : TypeId} (h : elemT P t = some e) : P.underlying t = some (.slice e) := by
  unfold elemT at h
  split at h
  · rename_i e' he; simp only [Option.some.injEq] at h; subst h; exact he
  · simp at h
theorem step_field (fs : FS w a E H β T B G) {t : TypeId} {x : Operand} {f : Nat} (hv : okTmps G (mkO dst (.fieldAddr t x f) type pos after guard)) (h : val B H (fieldAddrA P H t (aeval T x) f) = some r) (hok : r.ok = true) :
    Sound P w a E H β T G (mkO dst (.fieldAddr t x f) type pos after guard) r := by
  obtain ⟨ok, v, h1, rfl⟩ := val_some h
  have hx := okTmps_rep fs hv (x := x) (by simp [Op.operands])
  unfold fieldAddrA at h1
  split at h1
  · rename_i o' ft hf
    unfold fieldOff at hf
    split at hf
    · rename_i fields hu
      split at hf
      · rename_i fd hfd
        split at hf
        · simp at hf
        · rename_i n hn hsz
          simp only [Option.some.injEq, Prod.mk.injEq] at hf
          obtain ⟨rfl, rfl⟩ := hf
          have hn0 : n ≠ 0 := fun e => hn (by rw [e])
          have hrun : ∀ b off, (Instr.fieldAt t (.pointer (some ⟨b, off, none⟩)) f).run P w = .ok (.pointer (some ⟨b, off + fd.offset, none⟩)) w := by
            intro b off
            simp [Instr.fieldAt, run_underlying hu, hfd, Instr.sureAddr, fieldPlace, run_sizeT hsz, hn0, addr_add]
          split at h1
          · rename_i q off hq
            rw [hq] at hx
            simp only [Option.some.injEq, Prod.mk.injEq] at h1
            obtain ⟨rfl, rfl⟩ := h1
            cases q with
            | tmp u =>
              obtain ⟨b, e, hb⟩ := repT_ptr hx
              exact Sound.pure fs (c := .pointer (some ⟨b, off + fd.offset, none⟩)) (by simp [execOp, e, hrun]) (.box _ _ _ hb)
            | hp k =>
              obtain ⟨e, hb⟩ := rep_ptrH (noTmp_of hx (by simp))
              exact Sound.pure fs (c := .pointer (some ⟨E.φ k, off + fd.offset, none⟩)) (by simp [execOp, e, hrun]) (.val _ _ (.ptrH _ _ hb))
          · rename_i k ver i off hq
            rw [hq] at hx
            split at h1
            case h_2 => simp at h1
            rename_i sz0 rows0 u0 hk
            simp only [Option.some.injEq, Prod.mk.injEq] at h1
            obtain ⟨rfl, rfl⟩ := h1
            simp only [beq_iff_eq] at hok
            subst hok
            obtain ⟨p, sz, u, e, ha, hle, hp⟩ := rep_eptr (noTmp_of hx (by simp))
            obtain ⟨hc, rfl⟩ := hp (by rw [arr_of_get hk] at ha; simp only [Option.some.injEq, Prod.mk.injEq] at ha; exact ha.2)
            exact Sound.pure fs (c := .pointer (some ⟨E.φ k, i * sz + off + fd.offset, none⟩)) (by simp [execOp, e, hrun])
              (.val _ _ (.eptr _ _ _ _ _ sz u ha hle (fun _ => ⟨hc, by rw [Nat.add_assoc]⟩)))
          · rename_i cs hq
            rw [hq] at hx
            simp only [Option.some.injEq, Prod.mk.injEq] at h1
            obtain ⟨rfl, rfl⟩ := h1
            obtain ⟨blk, off, f', e, hi, h2, h3⟩ := rep_rptr (noTmp_of hx (by simp))
            refine Sound.pure fs (c := .pointer (some ⟨blk, off + fd.offset, none⟩)) (by simp [execOp, e, hrun]) (.val _ _ (.pure _ _ (.rptr _ blk _ (fun j => f' (fd.offset + j)) hi (fun j hj => ?_) (fun j hj => ?_))))
            · simp only [List.length_drop] at hj
              have := h2 (fd.offset + j) (by omega)
              rw [show off + fd.offset + j = off + (fd.offset + j) by omega]; exact this
            · simp only [List.length_drop] at hj
              have := h3 (fd.offset + j) (by omega)
              simpa [List.getD_eq_getElem?_getD] using this
          · simp at h1
        · simp at hf
      · simp at hf
    · simp at hf
  · simp at h1
end Go.Mu
