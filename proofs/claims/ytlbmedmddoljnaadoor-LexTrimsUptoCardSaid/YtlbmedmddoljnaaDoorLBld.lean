/-
  strings.Builder in Mu's heap: what String leaves; a builder that is empty again.
-/
import Derived.Test.YtlbmedmddoljnaaDoorMuMelt
import Derived.Test.YtlbmedmddoljnaaDoorProg
import Derived.KernelRfl
import Derived.WalkKit
import Derived.ProofKit
import Derived.Lib.UnsafeStr
import Derived.Shelf.RegionOpenPlain
set_option linter.unusedVariables false
set_option linter.unusedSimpArgs false
set_option maxRecDepth 100000
namespace Go.Mu
open Go Go.Proofs
section
variable {P : Program} {w w' : World} {E E' : Env} {H H' : Heap}
theorem Post.pre {E1 : Env} {H1 : Heap} {o : Out} (ev : Evo No w E H w E1 H1) {e : Ending} {w' : World} (h : Post w E1 H1 o e w') : Post w E H o e w' := by
  cases o with
  | ret v H' =>
    cases e with
    | returned c => obtain ⟨E', g1, g2, g3⟩ := h; exact ⟨E', ev.trans g1 (fun x hx => hx.elim), g2, g3⟩
    | panicked _ => exact h.elim
    | outgrown => exact h.elim
  | panic p H' =>
    cases e with
    | returned _ => exact h.elim
    | panicked ch => obtain ⟨E', c, g0, g1, g2, g3⟩ := h; exact ⟨E', c, g0, ev.trans g1 (fun x hx => hx.elim), g2, g3⟩
    | outgrown => exact h.elim
/-- an array's block is given up -/
theorem kill (hs : Sim w E H) {j sz u : Nat} {rows : List (List AVal)} (hj : H[j]? = some (.arr sz rows u)) (hsz : w'.heap.size = w.heap.size) (hb : ∀ b, b ≠ E.φ j ∨ E.cap j = 0 → w'.heap[b]? = w.heap[b]?) (h1 : w'.tape = w.tape) (h2 : w'.os = w.os) (h3 : w'.output = w.output) :
    Evo No w E H w' { E with cap := upd E.cap j 0 } (H.set j (.arr sz [] (u + 1))) ∧ Sim w' { E with cap := upd E.cap j 0 } (H.set j (.arr sz [] (u + 1))) := by
  have hlt := get_lt hj
  have hi := fun l => isVar_setArr (new := []) (u' := u + 1) hj l
  have ha := fun l => arrInfo_setArr (new := []) (u' := u + 1) hj l
  have ce : ∀ l, l ≠ j → upd E.cap j 0 l = E.cap l := fun l hl => upd_other _ _ hl
  have hnv : isVar H j = false := by simp [isVar, hj]
  have hlive : ∀ l, live { E with cap := upd E.cap j 0 } (H.set j (.arr sz [] (u + 1))) l → live E H l ∧ l ≠ j := fun l hl => by
    by_cases e : l = j
    · subst e
      rcases hl with hl | ⟨_, hl⟩
      · rw [hi, hnv] at hl; cases hl
      · simp at hl
    · refine ⟨?_, e⟩
      simp only [live, hi, ha, if_neg e, ce l e] at hl
      exact hl
  have same : ∀ l, live E H l → l ≠ j → w'.heap[E.φ l]? = w.heap[E.φ l]? := fun l hl hne => by
    by_cases hc : E.cap j = 0
    · exact hb _ (.inr hc)
    · exact hb _ (.inl (fun e => hne (hs.inj l j hl (.inr ⟨⟨sz, u, arr_of_get hj⟩, hc⟩) e)))
  have imm : ∀ b, E.imm b → w'.heap[b]? = w.heap[b]? := fun b hbi => by
    by_cases hc : E.cap j = 0
    · exact hb _ (.inr hc)
    · exact hb _ (.inl (fun e => (hs.apart j (.inr ⟨⟨sz, u, arr_of_get hj⟩, hc⟩)).1 (e ▸ hbi)))
  have ev : Evo No w E H w' { E with cap := upd E.cap j 0 } (H.set j (.arr sz [] (u + 1))) := by
    refine ⟨by omega, fun b _ _ hk => ?_, fun b hbi => ⟨hbi, imm b hbi⟩, fun b hbi => .inl hbi, fun l hl => ⟨by rw [hi]; exact hl, rfl⟩, fun l sz' u' hl => ?_, fun l hl => .inr ⟨(hlive l hl).1, rfl⟩, by simp, h1, h2, h3⟩
    · by_cases hc : E.cap j = 0
      · exact hb _ (.inr hc)
      · exact hb _ (.inl (fun e => hk j (.inr ⟨⟨sz, u, arr_of_get hj⟩, hc⟩) e.symm))
    · by_cases e : l = j
      · subst e
        rw [arr_of_get hj] at hl
        simp only [Option.some.injEq, Prod.mk.injEq] at hl
        obtain ⟨rfl, rfl⟩ := hl
        exact ⟨u + 1, by rw [ha, if_pos rfl], by omega, fun h => by omega⟩
      · exact ⟨u', by rw [ha, if_neg e]; exact hl, Nat.le_refl _, fun _ => ⟨ce l e, fun _ => rfl⟩⟩
  have hse := ev.sees
  refine ⟨ev, fun b hbi => by rw [hsz]; exact hs.immLt b hbi, fun l cs hc => ?_, fun l sz' rw' u' hc => ?_, fun l hl => ⟨(hs.apart l (hlive l hl).1).1, by rw [hsz]; exact (hs.apart l (hlive l hl).1).2⟩, fun x y hx hy he => hs.inj x y (hlive x hx).1 (hlive y hy).1 he, fun m t n hm hl => ?_, hs.glob.mono hse.imm⟩
  · by_cases e : l = j
    · subst e; rw [List.getElem?_set_self hlt] at hc; simp at hc
    · rw [List.getElem?_set_ne (Ne.symm e)] at hc
      exact (hs.var l cs hc).mono hse (same l (.inl (var_of_get hc)) e)
  · by_cases e : l = j
    · subst e
      rw [List.getElem?_set_self hlt] at hc
      simp only [Option.some.injEq, Obj.arr.injEq] at hc
      obtain ⟨rfl, rfl, rfl⟩ := hc
      exact ⟨(hs.arr l sz rows u hj).1, Nat.zero_le _, fun r hr => by simp at hr, fun hcap => by simp at hcap⟩
    · rw [List.getElem?_set_ne (Ne.symm e)] at hc
      obtain ⟨g1, g2, g3, g4⟩ := hs.arr l sz' rw' u' hc
      refine ⟨g1, by simp only [ce l e]; exact g2, g3, fun hcap => ?_⟩
      simp only [ce l e] at hcap ⊢
      exact (g4 hcap).mono hse (same l (.inr ⟨⟨sz', u', arr_of_get hc⟩, hcap⟩) e)
  · obtain ⟨g1, g2⟩ := hlive _ hl
    exact (hs.note m t n (get_set_note (fun t n e => by cases e) hm) g1).same (same _ g1 g2)
/-- a nil slice -/
def isNilL : AVal → Bool
  | .nilX => true
  | .list true 0 _ => true
  | _ => false
theorem isNilL_rep {v : AVal} {c : Value} (h : isNilL v = true) (r : Rep w E H v c) : ∃ a, c = .slice a 0 0 := by
  unfold isNilL at h
  split at h
  · exact ⟨none, rep_nilX r⟩
  · obtain ⟨ad, cap, rfl, hle, hfull, _⟩ := rep_list r
    have := hfull rfl
    subst this
    exact ⟨ad, rfl⟩
  · cases h
/-- a nil slice in a variable as an array without a block: one that was given up -/
theorem relink (hs : Sim w E H) {i c j sz u : Nat} {cs : List AVal} {nx : AVal} {rows : List (List AVal)} (hi : H[i]? = some (.var cs)) (hc : cs[c]? = some nx) (hnx : isNilL nx = true) (hj : H[j]? = some (.arr sz rows u)) :
    Evo No w E H w { E with cap := upd E.cap j 0 } ((H.set j (.arr sz [] (u + 1))).set i (.var (cs.set c (.own j 0 0 (u + 1) false)))) ∧ Sim w { E with cap := upd E.cap j 0 } ((H.set j (.arr sz [] (u + 1))).set i (.var (cs.set c (.own j 0 0 (u + 1) false)))) := by
  obtain ⟨ev, sim⟩ := kill (w' := w) hs hj rfl (fun _ _ => rfl) rfl rfl rfl
  have hij : i ≠ j := fun e => by subst e; rw [hi] at hj; cases hj
  have hi1 : (H.set j (.arr sz [] (u + 1)))[i]? = some (.var cs) := by rw [List.getElem?_set_ne (Ne.symm hij)]; exact hi
  obtain ⟨k1, k2⟩ := set_same_var (new := cs.set c (.own j 0 0 (u + 1) false)) hi1
  have hinfo : arrInfo ((H.set j (.arr sz [] (u + 1))).set i (.var (cs.set c (.own j 0 0 (u + 1) false)))) j = some (sz, u + 1) := by
    rw [k2, arrInfo_setArr hj, if_pos rfl]
  have hse : Sees w { E with cap := upd E.cap j 0 } (H.set j (.arr sz [] (u + 1))) w { E with cap := upd E.cap j 0 } ((H.set j (.arr sz [] (u + 1))).set i (.var (cs.set c (.own j 0 0 (u + 1) false)))) :=
    ⟨fun b hb => ⟨hb, rfl⟩, fun k hk => ⟨by rw [k1]; exact hk, rfl⟩, fun k sz' u' hk => ⟨u', by rw [k2]; exact hk, Nat.le_refl _, fun _ => ⟨rfl, fun _ => rfl⟩⟩⟩
  have sim2 := sim.set (w' := w) (k := i) (obj := .var (cs.set c (.own j 0 0 (u + 1) false))) k1 k2 hse (Nat.le_refl _) (fun _ _ _ => rfl) (fun cs' e => by
    cases e
    obtain ⟨ds, ty, fr, b1, b2, b3, b4⟩ := sim.var i cs hi1
    refine ⟨ds, ty, fr, b1, by simpa using b2, by simpa using b3, fun m v hm => ?_⟩
    replace hm : (cs.set c (.own j 0 0 (u + 1) false))[m]? = some v := hm
    rw [List.getElem?_set] at hm
    by_cases e : c = m
    · subst e
      have hlt : c < cs.length := (List.getElem?_eq_some_iff.1 hc).1
      simp only [if_true, if_pos hlt, Option.some.injEq] at hm
      subst hm
      obtain ⟨x, x1, x2, x3⟩ := b4 c _ hc
      obtain ⟨ad, rfl⟩ := isNilL_rep hnx x3
      exact ⟨_, x1, x2, .own j 0 0 (u + 1) false ad 0 sz (u + 1) hinfo (Nat.le_refl _) (fun _ => ⟨Nat.le_refl _, fun _ => rfl, fun _ _ => by simp, by simp, fun h => by simp at h⟩)⟩
    · rw [if_neg e] at hm
      obtain ⟨x, x1, x2, x3⟩ := b4 m v hm
      exact ⟨x, x1, x2, x3.mono hse⟩) (fun _ _ _ e => by cases e) (fun _ _ e => by cases e) (fun _ _ h => h)
  refine ⟨ev.trans (Y := No) ⟨Nat.le_refl _, fun _ _ _ _ => rfl, fun b hb => ⟨hb, rfl⟩, fun b hb => .inl hb, fun k hk => ⟨by rw [k1]; exact hk, rfl⟩, fun k sz' u' hk => ⟨u', by rw [k2]; exact hk, Nat.le_refl _, fun _ => ⟨rfl, fun _ => rfl⟩⟩, fun k hk => .inr ⟨(live_congr k1 k2 k).1 hk, rfl⟩, by simp, rfl, rfl, rfl⟩ (fun x hx => hx.elim), sim2⟩
/-- where it is one -/
def relAt (i c j : Nat) (H : Heap) : Heap := match H[i]?, H[j]? with
  | some (.var cs), some (.arr sz rows u) => match cs[c]? with
    | some x => cond (isNilL x) ((H.set j (.arr sz [] (u + 1))).set i (.var (cs.set c (.own j 0 0 (u + 1) false)))) H
    | _ => H
  | _, _ => H
theorem CallOK.relink {f : FuncId} {xs : List AVal} {o : Out} {i c j sz u : Nat} {cs : List AVal} {nx : AVal} {rows : List (List AVal)} (hi : H[i]? = some (.var cs)) (hc : cs[c]? = some nx) (hnx : isNilL nx = true) (hj : H[j]? = some (.arr sz rows u))
    (h : CallOK P f xs ((H.set j (.arr sz [] (u + 1))).set i (.var (cs.set c (.own j 0 0 (u + 1) false)))) o) : CallOK P f xs H o := by
  intro w E ys sim hlen hr
  obtain ⟨ev, sim2⟩ := Mu.relink sim hi hc hnx hj
  exact Calls.mono (h w _ ys sim2 hlen (fun m hm => (hr m hm).mono ev.sees)) (fun e w' hp => hp.pre ev)
end
theorem relAt_ok {P : Program} {f : FuncId} {xs : List AVal} {H : Heap} {o : Out} {i c j : Nat} (h : CallOK P f xs (relAt i c j H) o) : CallOK P f xs H o := by
  unfold relAt at h
  split at h
  · rename_i h1 h2
    split at h
    · rename_i x h3
      rw [Bool.cond_eq_ite] at h
      split at h
      · rename_i h4
        exact CallOK.relink h1 h3 h4 h2 h
      · exact h
    · exact h
  · exact h
def relF (l : List (Nat × Nat × Nat)) (s : FSp) : FSp := fun xs H k => s xs (l.foldl (fun H x => relAt x.1 x.2.1 x.2.2 H) H) k
theorem relF_ok {P : Program} {f : FuncId} {s : FSp} (hs : ∀ xs H k out, s xs H k = some out → ∃ o, CallOK P f xs H o ∧ k o = some out) : ∀ (l : List (Nat × Nat × Nat)) xs H k out, relF l s xs H k = some out → ∃ o, CallOK P f xs H o ∧ k o = some out
  | [], xs, H, k, out, h => hs xs H k out h
  | x :: l, xs, H, k, out, h => by
    obtain ⟨o, h1, h2⟩ := relF_ok hs l xs (relAt x.1 x.2.1 x.2.2 H) k out h
    exact ⟨o, relAt_ok h1, h2⟩
/- String -/
theorem freeze_other {w : World} {g n b : Nat} (h : b ≠ g) : (w.freeze ⟨g, 0, none⟩ n).heap[b]? = w.heap[b]? := by
  unfold World.freeze
  split
  · rfl
  · simp [Array.getElem?_modify, Ne.symm h]
theorem freeze_size {w : World} {g n : Nat} : (w.freeze ⟨g, 0, none⟩ n).heap.size = w.heap.size := by
  unfold World.freeze
  split
  · rfl
  · simp
theorem freeze_rest {w : World} {g n : Nat} : (w.freeze ⟨g, 0, none⟩ n).tape = w.tape ∧ (w.freeze ⟨g, 0, none⟩ n).os = w.os ∧ (w.freeze ⟨g, 0, none⟩ n).output = w.output := by
  unfold World.freeze
  split <;> exact ⟨rfl, rfl, rfl⟩
theorem str_walk {w w1 : World} {b off n cap : Nat} {ad : Option Addr} {pv : Option Addr} {s : ByteArray} (hc : w.cell? ⟨b, off + 1, none⟩ = some (.slice ad n cap))
    (hSD : (Builtin.unsafeSliceData_ #[60] 130 #[.slice ad n cap]).run Tryd.prog w.drew = .ok (.pointer pv) w.drew)
    (hUS : (Builtin.unsafeString_ #[130, 3] 9 #[.pointer pv, .int .i64 n]).run Tryd.prog w.drew = .ok (.string s) w1) :
    Calls Tryd.prog 59 #[.pointer (some ⟨b, off, none⟩)] w fun e w' => e = .returned (.string s) ∧ w' = w1 := by
  have c1 : w.drew.cell? ⟨b, off + 1, none⟩ = some (.slice ad n cap) := hc
  have mixed : Tryd.prog.follows Departure.mixedOrders = true := by kernel_rfl
  go_enter Tryd.func59, Tryd.ntmps59
  go_wp2
  go_region_o
  all_goals (go_wp2; go_ret; exact ⟨rfl, rfl⟩)
end Go.Mu
