/-
  Lemmas on the given program (part 4).
-/
import Derived.Test.YtfepcpcnfibbnaaGreatDoorFB3
import Derived.Test.YtfepcpcnfibbnaaGreatDoorProg
import Derived.KernelRfl
import Derived.Shelf.LaysM
import Derived.Shelf.Strings.Shaped
import Derived.WalkKit
import Derived.ProofKit
import Derived.Lib.UnsafeStr
import Derived.Shelf.RegionOpenPlain
import Derived.Shelf.GgClosure.StringsIndexFunc
import Derived.Lib.TrimUEq
import Derived.Shelf.Strings.BuilderRune
import Derived.Shelf.Strings.BuilderK
import Derived.Shelf.Unicode.Decode
import Derived.Shelf.Unicode.DecodeAny
import Derived.RangeFuncNested
import Derived.RangeFuncBound
import Derived.RangeFuncCalls
import Derived.RangeFuncLeaves
import Derived.Shelf.Abstract
import Derived.Shelf.RegionOpen
import Derived.OwnWalkIn
import Derived.TacticsInMore
import Derived.LoopNIn
import Derived.LoopIn
import Derived.Lib.QuoteLoop
import Derived.Lib.TrimU
import Derived.Shelf.Strings.MapGrows
import Derived.Shelf.Strings.OnBuilder
import Derived.Shelf.Strings.Split
import Derived.Shelf.Strings.Cut
import Derived.Lib.SlBytesConst
import Derived.Shelf.Small.Strs
import Derived.Lib.RuneBytes
import Derived.Lib.MapLaws
import Derived.RangeFuncBox
import Derived.Maps.AppendAt
set_option linter.unusedVariables false
set_option linter.unusedSimpArgs false
set_option maxRecDepth 100000
namespace Go.Mu
open Go Go.Proofs
def blk (c : UInt8) : Bool := c == 32 || c == 9 || c == 10 || c == 12 || c == 13
end Go.Mu
set_option linter.unusedVariables false
set_option linter.unusedSimpArgs false
set_option maxRecDepth 100000
namespace Go.Proofs
open Go.Shelf
def Tryz.idxRen : Ren := {
  f := fun x => match x with
    | 219 => 125
    | 217 => 96
    | 225 => 136
    | 224 => 137
    | 267 => 138
    | 266 => 112
    | 314 => 144
    | n => n,
  t := fun x => match x with
    | 9 => 9
    | 3 => 3
    | 4 => 4
    | 5 => 5
    | 46 => 91
    | 146 => 134
    | 51 => 115
    | n => n,
  g := fun x => match x with
    | 1 => 0
    | n => n }
theorem Tryz.idxLays : Lays.n219 Tryz.prog Tryz.idxRen := {
  mixed := by kernel_rfl
  f217 := Tryz.func96.trans (congrArg some (by kernel_rfl))
  f219 := Tryz.func125.trans (congrArg some (by kernel_rfl))
  f224 := Tryz.func137.trans (congrArg some (by kernel_rfl))
  f225 := Tryz.func136.trans (congrArg some (by kernel_rfl))
  f266 := Tryz.func112.trans (congrArg some (by kernel_rfl))
  f267 := Tryz.func138.trans (congrArg some (by kernel_rfl))
  f314 := Tryz.func144.trans (congrArg some (by kernel_rfl))
  t3 := Tryz.underlying3
  a3 := Tryz.isAgg3
  z3 := Tryz.sizeOf3
  v3 := Tryz.zeroValue3
  t4 := Tryz.underlying4
  a4 := Tryz.isAgg4
  z4 := Tryz.sizeOf4
  v4 := Tryz.zeroValue4
  t5 := Tryz.underlying5
  a5 := Tryz.isAgg5
  z5 := Tryz.sizeOf5
  v5 := Tryz.zeroValue5
  t9 := Tryz.underlying9
  a9 := Tryz.isAgg9
  z9 := Tryz.sizeOf9
  v9 := Tryz.zeroValue9
  t46 := Tryz.underlying91
  a46 := Tryz.isAgg91
  z46 := Tryz.sizeOf91
  v46 := Tryz.zeroValue91
  t51 := Tryz.underlying115
  a51 := Tryz.isAgg115
  z51 := Tryz.sizeOf115
  v51 := Tryz.zeroValue115
  t146 := Tryz.underlying134
  a146 := Tryz.isAgg134
  z146 := Tryz.sizeOf134
  v146 := Tryz.zeroValue134
  g1 := by kernel_rfl }
end Go.Proofs
namespace Go.Mu
open Go Go.Proofs
variable {P : Program}
theorem CallOK.same {f : FuncId} {xs : List AVal} {H : Heap} {v : AVal} (h : ∀ w E (cs : List Value), Sim w E H → cs.length = xs.length → (∀ j, j < xs.length → Rep w E H (xs.getD j .undef) (cs.getD j undef)) → ∃ c, Calls P f cs.toArray w (fun e w' => e = .returned c ∧ w' = w) ∧ Rep w E H v c) : CallOK P f xs H (.ret v H) := by
  intro w E cs sim hl hr
  obtain ⟨c, h1, h2⟩ := h w E cs sim hl hr
  refine Calls.mono h1 (fun e w' hp => ?_)
  obtain ⟨rfl, rfl⟩ := hp
  exact ⟨E, .refl, sim, h2⟩
theorem idx_ok (a b : List UInt8) (ha : a.length < 4294967281) : CallOK Tryz.prog 125 [.str a, .str b] [] (.ret (.int .i64 (Lib.index a b)) []) := by
  refine CallOK.same (fun w E cs sim hl hr => ?_)
  obtain ⟨x, y, rfl⟩ : ∃ x y, cs = [x, y] := by
    match cs, hl with
    | [x, y], _ => exact ⟨x, y, rfl⟩
  obtain ⟨s, e1, rfl⟩ := rep_str (hr 0 (by simp))
  obtain ⟨t, e2, rfl⟩ := rep_str (hr 1 (by simp))
  replace e1 : x = .string s := e1
  replace e2 : y = .string t := e2
  subst e1 e2
  obtain ⟨_, m, hm⟩ := sim.glob.1 0 .i64 (by rfl)
  exact ⟨_, Any.stringslite_Index Tryz.idxLays s t m w (by simpa using ha) hm, .pure _ _ (.int _ _)⟩
noncomputable def idxTold : FSp := fun xs H k => match xs, H with
  | [.str a, .str b], [] => cond (decide (a.length < 4294967281)) (k (.ret (.int .i64 (Lib.index a b)) [])) none
  | _, _ => none
theorem idxTold_ok (xs : List AVal) (H : Heap) (k : Out → Ans) (out : Out) (ho : idxTold xs H k = some out) : ∃ o, CallOK Tryz.prog 125 xs H o ∧ k o = some out := by
  unfold idxTold at ho
  split at ho
  · rw [Bool.cond_eq_ite] at ho
    split at ho
    · rename_i hc
      exact ⟨_, idx_ok _ _ (of_decide_eq_true hc), ho⟩
    · simp at ho
  · simp at ho
end Go.Mu
set_option linter.unusedVariables false
set_option linter.unusedSimpArgs false
set_option maxRecDepth 100000
namespace Go.Mu
open Go Go.Proofs
/- trims -/
def trimsA (s : List UInt8) : Bool := decide (1 < s.length) && s.getD 0 0 == 45 && blk (s.getD 1 0)
theorem hA (u : List UInt8) : (decide ((u.length : Int) > 1) && u.getD 0 0 == 45 && blk (u.getD 1 0)) = trimsA u := by
  unfold trimsA
  rw [show decide ((u.length : Int) > 1) = decide (1 < u.length) from decide_eq_decide.2 (by omega)]
end Go.Mu
set_option linter.unusedVariables false
set_option linter.unusedSimpArgs false
set_option maxRecDepth 100000
namespace Go.Mu
open Go Go.Proofs
section
variable {P : Program} {w w' : World} {E E' : Env} {H H' : Heap}
theorem Post.pre {E1 : Env} {H1 : Heap} {o : Out} (ev : Evo No w E H w E1 H1) {e : Ending} {w' : World} (h : Post w E1 H1 o e w') : Post w E H o e w' := by
  cases o with
  | ret v H' =>
    cases e with
    | returned c => obtain ⟨E', g1, g2, g3⟩ := h; exact ⟨E', ev.trans g1 (fun x hx => hx.elim), g2, g3⟩
    | panicked _ => exact h.elim
    | outgrown => exact h.elim
  | panic p H' =>
    cases e with
    | returned _ => exact h.elim
    | panicked ch => obtain ⟨E', c, g0, g1, g2, g3⟩ := h; exact ⟨E', c, g0, ev.trans g1 (fun x hx => hx.elim), g2, g3⟩
    | outgrown => exact h.elim
theorem kill (hs : Sim w E H) {j sz u : Nat} {rows : List (List AVal)} (hj : H[j]? = some (.arr sz rows u)) (hsz : w'.heap.size = w.heap.size) (hb : ∀ b, b ≠ E.φ j ∨ E.cap j = 0 → w'.heap[b]? = w.heap[b]?) (h1 : w'.tape = w.tape) (h2 : w'.os = w.os) (h3 : w'.output = w.output) :
    Evo No w E H w' { E with cap := upd E.cap j 0 } (H.set j (.arr sz [] (u + 1))) ∧ Sim w' { E with cap := upd E.cap j 0 } (H.set j (.arr sz [] (u + 1))) := by
  have hlt := get_lt hj
  have hi := fun l => isVar_setArr (new := []) (u' := u + 1) hj l
  have ha := fun l => arrInfo_setArr (new := []) (u' := u + 1) hj l
  have ce : ∀ l, l ≠ j → upd E.cap j 0 l = E.cap l := fun l hl => upd_other _ _ hl
  have hnv : isVar H j = false := by simp [isVar, hj]
  have hlive : ∀ l, live { E with cap := upd E.cap j 0 } (H.set j (.arr sz [] (u + 1))) l → live E H l ∧ l ≠ j := fun l hl => by
    by_cases e : l = j
    · subst e
      rcases hl with hl | ⟨_, hl⟩
      · rw [hi, hnv] at hl; cases hl
      · simp at hl
    · refine ⟨?_, e⟩
      simp only [live, hi, ha, if_neg e, ce l e] at hl
      exact hl
  have same : ∀ l, live E H l → l ≠ j → w'.heap[E.φ l]? = w.heap[E.φ l]? := fun l hl hne => by
    by_cases hc : E.cap j = 0
    · exact hb _ (.inr hc)
    · exact hb _ (.inl (fun e => hne (hs.inj l j hl (.inr ⟨⟨sz, u, arr_of_get hj⟩, hc⟩) e)))
  have imm : ∀ b, E.imm b → w'.heap[b]? = w.heap[b]? := fun b hbi => by
    by_cases hc : E.cap j = 0
    · exact hb _ (.inr hc)
    · exact hb _ (.inl (fun e => (hs.apart j (.inr ⟨⟨sz, u, arr_of_get hj⟩, hc⟩)).1 (e ▸ hbi)))
  have ev : Evo No w E H w' { E with cap := upd E.cap j 0 } (H.set j (.arr sz [] (u + 1))) := by
    refine ⟨by omega, fun b _ _ hk => ?_, fun b hbi => ⟨hbi, imm b hbi⟩, fun b hbi => .inl hbi, fun l hl => ⟨by rw [hi]; exact hl, rfl⟩, fun l sz' u' hl => ?_, fun l hl => .inr ⟨(hlive l hl).1, rfl⟩, by simp, h1, h2, h3⟩
    · by_cases hc : E.cap j = 0
      · exact hb _ (.inr hc)
      · exact hb _ (.inl (fun e => hk j (.inr ⟨⟨sz, u, arr_of_get hj⟩, hc⟩) e.symm))
    · by_cases e : l = j
      · subst e
        rw [arr_of_get hj] at hl
        simp only [Option.some.injEq, Prod.mk.injEq] at hl
        obtain ⟨rfl, rfl⟩ := hl
        exact ⟨u + 1, by rw [ha, if_pos rfl], by omega, fun h => by omega⟩
      · exact ⟨u', by rw [ha, if_neg e]; exact hl, Nat.le_refl _, fun _ => ⟨ce l e, fun _ => rfl⟩⟩
  have hse := ev.sees
  refine ⟨ev, fun b hbi => by rw [hsz]; exact hs.immLt b hbi, fun l cs hc => ?_, fun l sz' rw' u' hc => ?_, fun l hl => ⟨(hs.apart l (hlive l hl).1).1, by rw [hsz]; exact (hs.apart l (hlive l hl).1).2⟩, fun x y hx hy he => hs.inj x y (hlive x hx).1 (hlive y hy).1 he, fun m t n hm hl => ?_, hs.glob.mono hse.imm⟩
  · by_cases e : l = j
    · subst e; rw [List.getElem?_set_self hlt] at hc; simp at hc
    · rw [List.getElem?_set_ne (Ne.symm e)] at hc
      exact (hs.var l cs hc).mono hse (same l (.inl (var_of_get hc)) e)
  · by_cases e : l = j
    · subst e
      rw [List.getElem?_set_self hlt] at hc
      simp only [Option.some.injEq, Obj.arr.injEq] at hc
      obtain ⟨rfl, rfl, rfl⟩ := hc
      exact ⟨(hs.arr l sz rows u hj).1, Nat.zero_le _, fun r hr => by simp at hr, fun hcap => by simp at hcap⟩
    · rw [List.getElem?_set_ne (Ne.symm e)] at hc
      obtain ⟨g1, g2, g3, g4⟩ := hs.arr l sz' rw' u' hc
      refine ⟨g1, by simp only [ce l e]; exact g2, g3, fun hcap => ?_⟩
      simp only [ce l e] at hcap ⊢
      exact (g4 hcap).mono hse (same l (.inr ⟨⟨sz', u', arr_of_get hc⟩, hcap⟩) e)
  · obtain ⟨g1, g2⟩ := hlive _ hl
    exact (hs.note m t n (get_set_note (fun t n e => by cases e) hm) g1).same (same _ g1 g2)
def isNilL : AVal → Bool
  | .nilX => true
  | .list true 0 _ => true
  | _ => false
theorem isNilL_rep {v : AVal} {c : Value} (h : isNilL v = true) (r : Rep w E H v c) : ∃ a, c = .slice a 0 0 := by
  unfold isNilL at h
  split at h
  · exact ⟨none, rep_nilX r⟩
  · obtain ⟨ad, cap, rfl, hle, hfull, _⟩ := rep_list r
    have := hfull rfl
    subst this
    exact ⟨ad, rfl⟩
  · cases h
theorem relink (hs : Sim w E H) {i c j sz u : Nat} {cs : List AVal} {nx : AVal} {rows : List (List AVal)} (hi : H[i]? = some (.var cs)) (hc : cs[c]? = some nx) (hnx : isNilL nx = true) (hj : H[j]? = some (.arr sz rows u)) :
    Evo No w E H w { E with cap := upd E.cap j 0 } ((H.set j (.arr sz [] (u + 1))).set i (.var (cs.set c (.own j 0 0 (u + 1) false)))) ∧ Sim w { E with cap := upd E.cap j 0 } ((H.set j (.arr sz [] (u + 1))).set i (.var (cs.set c (.own j 0 0 (u + 1) false)))) := by
  obtain ⟨ev, sim⟩ := kill (w' := w) hs hj rfl (fun _ _ => rfl) rfl rfl rfl
  have hij : i ≠ j := fun e => by subst e; rw [hi] at hj; cases hj
  have hi1 : (H.set j (.arr sz [] (u + 1)))[i]? = some (.var cs) := by rw [List.getElem?_set_ne (Ne.symm hij)]; exact hi
  obtain ⟨k1, k2⟩ := set_same_var (new := cs.set c (.own j 0 0 (u + 1) false)) hi1
  have hinfo : arrInfo ((H.set j (.arr sz [] (u + 1))).set i (.var (cs.set c (.own j 0 0 (u + 1) false)))) j = some (sz, u + 1) := by
    rw [k2, arrInfo_setArr hj, if_pos rfl]
  have hse : Sees w { E with cap := upd E.cap j 0 } (H.set j (.arr sz [] (u + 1))) w { E with cap := upd E.cap j 0 } ((H.set j (.arr sz [] (u + 1))).set i (.var (cs.set c (.own j 0 0 (u + 1) false)))) :=
    ⟨fun b hb => ⟨hb, rfl⟩, fun k hk => ⟨by rw [k1]; exact hk, rfl⟩, fun k sz' u' hk => ⟨u', by rw [k2]; exact hk, Nat.le_refl _, fun _ => ⟨rfl, fun _ => rfl⟩⟩⟩
  have sim2 := sim.set (w' := w) (k := i) (obj := .var (cs.set c (.own j 0 0 (u + 1) false))) k1 k2 hse (Nat.le_refl _) (fun _ _ _ => rfl) (fun cs' e => by
    cases e
    obtain ⟨ds, ty, fr, b1, b2, b3, b4⟩ := sim.var i cs hi1
    refine ⟨ds, ty, fr, b1, by simpa using b2, by simpa using b3, fun m v hm => ?_⟩
    replace hm : (cs.set c (.own j 0 0 (u + 1) false))[m]? = some v := hm
    rw [List.getElem?_set] at hm
    by_cases e : c = m
    · subst e
      have hlt : c < cs.length := (List.getElem?_eq_some_iff.1 hc).1
      simp only [if_true, if_pos hlt, Option.some.injEq] at hm
      subst hm
      obtain ⟨x, x1, x2, x3⟩ := b4 c _ hc
      obtain ⟨ad, rfl⟩ := isNilL_rep hnx x3
      exact ⟨_, x1, x2, .own j 0 0 (u + 1) false ad 0 sz (u + 1) hinfo (Nat.le_refl _) (fun _ => ⟨Nat.le_refl _, fun _ => rfl, fun _ _ => by simp, by simp, fun h => by simp at h⟩)⟩
    · rw [if_neg e] at hm
      obtain ⟨x, x1, x2, x3⟩ := b4 m v hm
      exact ⟨x, x1, x2, x3.mono hse⟩) (fun _ _ _ e => by cases e) (fun _ _ e => by cases e) (fun _ _ h => h)
  refine ⟨ev.trans (Y := No) ⟨Nat.le_refl _, fun _ _ _ _ => rfl, fun b hb => ⟨hb, rfl⟩, fun b hb => .inl hb, fun k hk => ⟨by rw [k1]; exact hk, rfl⟩, fun k sz' u' hk => ⟨u', by rw [k2]; exact hk, Nat.le_refl _, fun _ => ⟨rfl, fun _ => rfl⟩⟩, fun k hk => .inr ⟨(live_congr k1 k2 k).1 hk, rfl⟩, by simp, rfl, rfl, rfl⟩ (fun x hx => hx.elim), sim2⟩
def relAt (i c j : Nat) (H : Heap) : Heap := match H[i]?, H[j]? with
  | some (.var cs), some (.arr sz rows u) => match cs[c]? with
    | some x => cond (isNilL x) ((H.set j (.arr sz [] (u + 1))).set i (.var (cs.set c (.own j 0 0 (u + 1) false)))) H
    | _ => H
  | _, _ => H
theorem CallOK.relink {f : FuncId} {xs : List AVal} {o : Out} {i c j sz u : Nat} {cs : List AVal} {nx : AVal} {rows : List (List AVal)} (hi : H[i]? = some (.var cs)) (hc : cs[c]? = some nx) (hnx : isNilL nx = true) (hj : H[j]? = some (.arr sz rows u))
    (h : CallOK P f xs ((H.set j (.arr sz [] (u + 1))).set i (.var (cs.set c (.own j 0 0 (u + 1) false)))) o) : CallOK P f xs H o := by
  intro w E ys sim hlen hr
  obtain ⟨ev, sim2⟩ := Mu.relink sim hi hc hnx hj
  exact Calls.mono (h w _ ys sim2 hlen (fun m hm => (hr m hm).mono ev.sees)) (fun e w' hp => hp.pre ev)
end
theorem relAt_ok {P : Program} {f : FuncId} {xs : List AVal} {H : Heap} {o : Out} {i c j : Nat} (h : CallOK P f xs (relAt i c j H) o) : CallOK P f xs H o := by
  unfold relAt at h
  split at h
  · rename_i h1 h2
    split at h
    · rename_i x h3
      rw [Bool.cond_eq_ite] at h
      split at h
      · rename_i h4
        exact CallOK.relink h1 h3 h4 h2 h
      · exact h
    · exact h
  · exact h
/- String -/
theorem freeze_other {w : World} {g n b : Nat} (h : b ≠ g) : (w.freeze ⟨g, 0, none⟩ n).heap[b]? = w.heap[b]? := by
  unfold World.freeze
  split
  · rfl
  · simp [Array.getElem?_modify, Ne.symm h]
theorem freeze_size {w : World} {g n : Nat} : (w.freeze ⟨g, 0, none⟩ n).heap.size = w.heap.size := by
  unfold World.freeze
  split
  · rfl
  · simp
theorem freeze_rest {w : World} {g n : Nat} : (w.freeze ⟨g, 0, none⟩ n).tape = w.tape ∧ (w.freeze ⟨g, 0, none⟩ n).os = w.os ∧ (w.freeze ⟨g, 0, none⟩ n).output = w.output := by
  unfold World.freeze
  split <;> exact ⟨rfl, rfl, rfl⟩
theorem str_walk {w w1 : World} {b off n cap : Nat} {ad : Option Addr} {pv : Option Addr} {s : ByteArray} (hc : w.cell? ⟨b, off + 1, none⟩ = some (.slice ad n cap))
    (hSD : (Builtin.unsafeSliceData_ #[43] 89 #[.slice ad n cap]).run Tryz.prog w.drew = .ok (.pointer pv) w.drew)
    (hUS : (Builtin.unsafeString_ #[89, 3] 9 #[.pointer pv, .int .i64 n]).run Tryz.prog w.drew = .ok (.string s) w1) :
    Calls Tryz.prog 51 #[.pointer (some ⟨b, off, none⟩)] w fun e w' => e = .returned (.string s) ∧ w' = w1 := by
  have c1 : w.drew.cell? ⟨b, off + 1, none⟩ = some (.slice ad n cap) := hc
  have mixed : Tryz.prog.follows Departure.mixedOrders = true := by kernel_rfl
  go_enter Tryz.func51, Tryz.ntmps51
  go_wp2
  go_region_o
  all_goals (go_wp2; go_ret; exact ⟨rfl, rfl⟩)
end Go.Mu
set_option linter.unusedVariables false
set_option linter.unusedSimpArgs false
set_option maxRecDepth 100000
namespace Go.Mu
open Go Go.Proofs
abbrev bT : Nat := 5
theorem str_ok {H : Heap} {i off j u : Nat} {cs : List AVal} {l : List UInt8} (hi : H[i]? = some (.var cs)) (hc : cs[off + 1]? = some (.own j 0 l.length u false)) (hj : H[j]? = some (.arr 1 (l.map byteRow) u)) (hn : H[j + 1]? = some (.note bT 0)) (h0 : l ≠ []) (hb : l.length ≤ 1099511627776) :
    CallOK Tryz.prog 51 [.ptr (.hp i) off] H (.ret (.str l) (H.set j (.arr 1 [] (u + 1)))) := by
  intro w E ys sim hlen hr
  obtain ⟨y, rfl⟩ : ∃ y, ys = [y] := by
    match ys, hlen with
    | [y], _ => exact ⟨y, rfl⟩
  obtain ⟨e0, hv⟩ := rep_ptrH (hr 0 (by simp))
  replace e0 : y = .pointer (some ⟨E.φ i, off, none⟩) := e0
  subst e0
  obtain ⟨ds, ty, fr, b1, b2, b3, b4⟩ := sim.var i cs hi
  obtain ⟨c, c1, c2, c3⟩ := b4 (off + 1) _ hc
  obtain ⟨ad, cap, sz', u', rfl, ha, hle, hsh⟩ := rep_own c3
  rw [arr_of_get hj] at ha
  simp only [Option.some.injEq, Prod.mk.injEq] at ha
  obtain ⟨rfl, rfl⟩ := ha
  obtain ⟨s1, s2, s3, s4, s5⟩ := hsh rfl
  have hl0 : l.length ≠ 0 := by simpa using h0
  have hcap : E.cap j ≠ 0 := by omega
  have had := s5 hcap (.inl hl0)
  simp only [Nat.zero_mul] at had
  subst had
  obtain ⟨a1, a2, a3, a4⟩ := sim.arr j 1 _ u hj
  obtain ⟨es, ety, efr, g1, g2, g3, g4⟩ := a4 hcap
  have hlv : live E H j := .inr ⟨⟨1, u, arr_of_get hj⟩, hcap⟩
  obtain ⟨ns, nfr, n1, n2⟩ := sim.note (j + 1) bT 0 hn hlv
  simp only [Nat.add_sub_cancel] at n1
  rw [g1] at n1
  simp only [Option.some.injEq, Obj.cells.injEq] at n1
  obtain ⟨rfl, rfl, rfl⟩ := n1
  have hcell : w.cell? ⟨E.φ i, off + 1, none⟩ = some (.slice (some ⟨E.φ j, 0, none⟩) l.length cap) := by
    simp only [World.cell?, b1]; exact c1
  have hbytes : ∀ (k : Nat) (x : UInt8), l[k]? = some x → w.drew.cell? ((⟨E.φ j, 0, none⟩ : Addr).add k) = some (.int .u8 x.toNat) := fun k x hx => by
    obtain ⟨d, d1, d2, d3⟩ := g4 k (.int .u8 x.toNat) (by
      unfold cellAt
      simp only [Nat.div_one, Nat.mod_one, List.getElem?_map, hx, Option.map_some, Option.bind_some]
      rfl)
    have hd : d = .int .u8 x.toNat := by
      cases d3 with
      | pure _ _ h => cases h; rfl
    subst hd
    have : w.drew.heap[E.φ j]? = some (.cells es bT efr) := g1
    simp only [World.cell?, addr_add, Nat.zero_add, this]
    exact d1
  have hkl : l.length ≤ es.size := by simp at a2; omega
  have walk := str_walk (w := w) (b := E.φ i) (off := off) (pv := some ⟨E.φ j, 0, none⟩) (s := ⟨l.toArray⟩) (w1 := w.drew.freeze ⟨E.φ j, 0, none⟩ l.length) hcell
    (Lib.run_unsafeSliceData_row _ _ _ _ _ _ (show cap ≠ 0 by omega))
    (Lib.run_unsafeString_row (w := w.drew) 89 3 9 bT (by kernel_rfl) (by kernel_rfl) (E.φ j) es.size (by
      have : w.drew.heap[E.φ j]? = some (.cells es bT efr) := g1
      simp [World.shape?, this]) l h0 hkl (by omega) hbytes)
  refine Calls.mono walk (fun e w' hp => ?_)
  obtain ⟨rfl, rfl⟩ := hp
  obtain ⟨f1, f2, f3⟩ := freeze_rest (w := w.drew) (g := E.φ j) (n := l.length)
  obtain ⟨ev, sim'⟩ := kill (w' := w.drew.freeze ⟨E.φ j, 0, none⟩ l.length) sim hj freeze_size (fun b hb => by
    rcases hb with hb | hb
    · exact freeze_other (w := w.drew) hb
    · exact absurd hb hcap) f1 f2 f3
  exact ⟨_, ev, sim', .pure _ _ (by have := RepP.str (w := w.drew.freeze ⟨E.φ j, 0, none⟩ l.length) (imm := E.imm) ⟨l.toArray⟩; simpa using this)⟩
def bytesOf (rows : List (List AVal)) : List UInt8 := rows.map byteOf
theorem byteOf_row (c : UInt8) : byteOf (byteRow c) = c := by
  simp [byteOf, byteRow, intOf]
theorem bytesOf_map (l : List UInt8) : bytesOf (l.map byteRow) = l := by
  unfold bytesOf
  rw [List.map_map]
  conv => rhs; rw [← List.map_id l]
  exact List.map_congr_left (fun a _ => byteOf_row a)
theorem str_ok0 {H : Heap} {i off : Nat} {cs : List AVal} (hi : H[i]? = some (.var cs)) (hc : cs[off + 1]? = some .nilX) :
    CallOK Tryz.prog 51 [.ptr (.hp i) off] H (.ret (.str []) H) := by
  intro w E ys sim hlen hr
  obtain ⟨y, rfl⟩ : ∃ y, ys = [y] := by
    match ys, hlen with
    | [y], _ => exact ⟨y, rfl⟩
  obtain ⟨e0, hv⟩ := rep_ptrH (hr 0 (by simp))
  replace e0 : y = .pointer (some ⟨E.φ i, off, none⟩) := e0
  subst e0
  obtain ⟨ds, ty, fr, b1, b2, b3, b4⟩ := sim.var i cs hi
  obtain ⟨c, c1, c2, c3⟩ := b4 (off + 1) _ hc
  obtain rfl := rep_nilX c3
  have hcell : w.cell? ⟨E.φ i, off + 1, none⟩ = some (.slice none 0 0) := by
    simp only [World.cell?, b1]; exact c1
  have walk := str_walk (w := w) (b := E.φ i) (off := off) (pv := none) (s := .empty) (w1 := w.drew) hcell
    (Lib.run_unsafeSliceData_nil _ _ _ _ _) (Lib.run_unsafeString_none _ _ _ _ _)
  refine Calls.mono walk (fun e w' hp => ?_)
  obtain ⟨rfl, rfl⟩ := hp
  have ev : Evo No w E H w.drew E H := ⟨Nat.le_refl _, fun _ _ _ _ => rfl, fun b hb => ⟨hb, rfl⟩, fun b hb => .inl hb, fun k hk => ⟨hk, rfl⟩, fun k sz u hk => ⟨u, hk, Nat.le_refl _, fun _ => ⟨rfl, fun _ => rfl⟩⟩, fun k hk => .inr ⟨hk, rfl⟩, Nat.le_refl _, rfl, rfl, rfl⟩
  exact ⟨E, ev, sim.keep ev.sees (fun _ _ => rfl) (Nat.le_refl _), .pure _ _ (by have := RepP.str (w := w.drew) (imm := E.imm) .empty; simpa using this)⟩
end Go.Mu
set_option linter.unusedVariables false
set_option linter.unusedSimpArgs false
set_option maxRecDepth 100000
set_option maxHeartbeats 2000000
namespace Go.Mu
open Go Go.Proofs
structure ItemD where
  kind : Int
  text : List UInt8
  at_ : Int
def bfB (j : Nat) (text : List UInt8) (v : Nat) : AVal := match text with
  | [] => .nilX
  | c :: t => .own j 0 (c :: t).length v false
/- WriteString -/
noncomputable def layW0 : Lay := Lay.nil.addL 49 { nils := [14] }
structure SpH where
  U0 : Obj
  U1 : Obj
  U2 : Obj
  s : List UInt8
  o : AVal
  ad : AVal
  b : AVal
  a : Int
  tr : Bool
  O : Obj
  rows : List (List AVal)
  v : Nat
def wsV (text l : List UInt8) (v : Nat) : Nat := bif text == [] then (bif l == [] then v else v + 2) else v + 1
theorem layW0_ok : layW0.OK Tryz.prog := Lay.nil_ok.addN (by kernel_rfl)
theorem e_map (l : List UInt8) : List.map (fun c : UInt8 => [AVal.int IntKind.u8 (c.toNat : Int)]) l = l.map byteRow := rfl
end Go.Mu
set_option linter.unusedVariables false
set_option linter.unusedSimpArgs false
set_option maxRecDepth 100000
namespace Go.Mu
open Go Go.Proofs
def dig (c : UInt8) : Bool := decide (48 ≤ c.toNat) && decide (c.toNat ≤ 57)
structure WdH where
  U0 : Obj
  U1 : Obj
  U2 : Obj
  s : List UInt8
  base : Int
  a : Int
  o : AVal
  O : Obj
end Go.Mu
set_option linter.unusedVariables false
set_option linter.unusedSimpArgs false
namespace Go.Mu
open Go Go.Proofs
abbrev bdT : Nat := 55
structure Bld where
  ad : AVal
  b : AVal
  rows : List (List AVal)
  v : Nat
def Bld.can (i j : Nat) (x : Bld) : Prop := (x.ad = .nilptr ∨ x.ad = .ptr (.hp i) 0) ∧ x.rows = (bytesOf x.rows).map byteRow ∧ x.b = bfB j (bytesOf x.rows) x.v
abbrev Bld.t (x : Bld) : List UInt8 := bytesOf x.rows
def Bld.add (i j : Nat) (x : Bld) (l : List UInt8) : Bld := ⟨.ptr (.hp i) 0, bfB j (x.t ++ l) (wsV x.t l x.v), x.rows ++ l.map byteRow, wsV x.t l x.v⟩
theorem Bld.add_t (i j : Nat) (x : Bld) (l : List UInt8) : (Bld.add i j x l).t = x.t ++ l := by
  show bytesOf (x.rows ++ l.map byteRow) = _
  have := bytesOf_map l
  unfold bytesOf at this
  show (x.rows ++ l.map byteRow).map byteOf = x.rows.map byteOf ++ l
  rw [List.map_append, this]
theorem Bld.add_can {i j : Nat} {x : Bld} (h : x.can i j) (l : List UInt8) : (Bld.add i j x l).can i j := by
  refine ⟨.inr rfl, ?_, ?_⟩
  · show (Bld.add i j x l).rows = ((Bld.add i j x l).t).map byteRow
    rw [Bld.add_t, List.map_append, ← h.2.1]; rfl
  · show (Bld.add i j x l).b = bfB j ((Bld.add i j x l).t) _
    rw [Bld.add_t]; rfl
def Bld.dead (x : Bld) : Bld := { x with rows := [], v := bif x.t == [] then x.v else x.v + 1 }
def Bld.new : Bld := ⟨.nilptr, .nilX, [], 0⟩
theorem Bld.new_can (i j : Nat) : Bld.new.can i j := ⟨.inl rfl, rfl, rfl⟩
abbrev bld (H : Heap) (i j : Nat) : Bld := ⟨(cellsO (H.getD i (.var []))).getD 0 .undef, (cellsO (H.getD i (.var []))).getD 1 .undef, rowsO (H.getD j (.var [])), verO (H.getD j (.var []))⟩
end Go.Mu
set_option linter.unusedVariables false
set_option linter.unusedSimpArgs false
set_option maxRecDepth 100000
namespace Go.Mu
open Go Go.Proofs
structure b7H where
  P0 : Obj
  P1 : Obj
  P2 : Obj
  P3 : Obj
  P4 : Obj
  P5 : Obj
  P6 : Obj
  x : Bld
end Go.Mu
set_option linter.unusedVariables false
set_option linter.unusedSimpArgs false
set_option maxRecDepth 100000
namespace Go.Mu
open Go Go.Proofs
structure StA where
  w : WdH
  x : Bld
  at_ : Nat
  i : Nat
end Go.Mu
set_option linter.unusedVariables false
set_option linter.unusedSimpArgs false
set_option maxRecDepth 100000
namespace Go.Mu
open Go Go.Proofs
theorem small_fun (n : Int) (k : Out → Ans) : iFun Tryz.prog (Lay.nil.hd Tryz.prog) Lay.nil.fhs 0 88 [.int .u8 n] [] k = (
  bif bif decide (n ≥ 65) then decide (n ≤ 90) else false then
  k (Out.ret (AVal.int IntKind.u8 (IntKind.u8.wrap (n + 32))) [])
  else k (Out.ret (AVal.int IntKind.u8 n) [])) := by kernel_rfl
theorem encode_fun (n : Int) (k : Out → Ans) : iFun Tryz.prog (Lay.nil.hd Tryz.prog) Lay.nil.fhs 0 86 [.int .i64 n] [] k = (
 let c0 : Bool := bif decide (n < 0) then true else decide (n > 1114111);
 let n1 : Int := IntKind.u32.wrap (IntKind.i32.wrap n);
 let n2 : Int := IntKind.u8.wrap (IntKind.i32.wrap n);
 let l3 : List UInt8 :=
  [byteOf
  [AVal.int IntKind.u8
  (IntKind.u8.wrap
  (↑(BitVec.ofInt 8 128 |||
  BitVec.ofInt 8 (IntKind.u8.wrap (↑(BitVec.ofInt 8 n2 &&& BitVec.ofInt 8 63).toNat : Int))).toNat :
  Int))]];
 let c4 : Bool := decide (n1 < 55296);
 let l5 : List UInt8 :=
  byteOf
  [AVal.int IntKind.u8
  (IntKind.u8.wrap
  (↑(BitVec.ofInt 8 128 |||
  BitVec.ofInt 8
  (IntKind.u8.wrap
  (↑(BitVec.ofInt 8 (IntKind.u8.wrap ((IntKind.i32.wrap n).fdiv 64)) &&&
  BitVec.ofInt 8 63).toNat :
  Int))).toNat :
  Int))] ::
  l3;
  bif bif decide (0 ≤ IntKind.i32.wrap n) then decide (IntKind.i32.wrap n < 55296) else false then
  bif bif c0 then true else false then k (Out.ret (AVal.tuple [AVal.str [], AVal.int IntKind.i64 4]) [])
  else
  bif decide (n1 ≤ 127) then
  k (Out.ret (AVal.tuple [AVal.str [byteOf [AVal.int IntKind.u8 n2]], AVal.int IntKind.i64 0]) [])
  else
  bif decide (n1 ≤ 2047) then
  k
  (Out.ret
  (AVal.tuple
  [AVal.str
  (byteOf
  [AVal.int IntKind.u8
  (IntKind.u8.wrap
  (↑(BitVec.ofInt 8 192 |||
  BitVec.ofInt 8 (IntKind.u8.wrap ((IntKind.i32.wrap n).fdiv 64))).toNat :
  Int))] ::
  l3),
  AVal.int IntKind.i64 0])
  [])
  else
  bif c4 then
  bif c4 then
  k
  (Out.ret
  (AVal.tuple
  [AVal.str
  (byteOf
  [AVal.int IntKind.u8
  (IntKind.u8.wrap
  (↑(BitVec.ofInt 8 224 |||
  BitVec.ofInt 8 (IntKind.u8.wrap ((IntKind.i32.wrap n).fdiv 4096))).toNat :
  Int))] ::
  l5),
  AVal.int IntKind.i64 0])
  [])
  else
  bif bif decide (n1 > 65535) then decide (n1 ≤ 1114111) else false then
  k
  (Out.ret
  (AVal.tuple
  [AVal.str
  (byteOf
  [AVal.int IntKind.u8
  (IntKind.u8.wrap
  (↑(BitVec.ofInt 8 240 |||
  BitVec.ofInt 8 (IntKind.u8.wrap ((IntKind.i32.wrap n).fdiv 262144))).toNat :
  Int))] ::
  byteOf
  [AVal.int IntKind.u8
  (IntKind.u8.wrap
  (↑(BitVec.ofInt 8 128 |||
  BitVec.ofInt 8
  (IntKind.u8.wrap
  (↑(BitVec.ofInt 8 (IntKind.u8.wrap ((IntKind.i32.wrap n).fdiv 4096)) &&&
  BitVec.ofInt 8 63).toNat :
  Int))).toNat :
  Int))] ::
  l5),
  AVal.int IntKind.i64 0])
  [])
  else
  k
  (Out.ret
  (AVal.tuple
  [AVal.str
  [byteOf [AVal.int IntKind.u8 239], byteOf [AVal.int IntKind.u8 191],
  byteOf [AVal.int IntKind.u8 189]],
  AVal.int IntKind.i64 0])
  [])
  else
  bif bif decide (57343 < n1) then decide (n1 ≤ 65535) else false then
  k
  (Out.ret
  (AVal.tuple
  [AVal.str
  (byteOf
  [AVal.int IntKind.u8
  (IntKind.u8.wrap
  (↑(BitVec.ofInt 8 224 |||
  BitVec.ofInt 8 (IntKind.u8.wrap ((IntKind.i32.wrap n).fdiv 4096))).toNat :
  Int))] ::
  l5),
  AVal.int IntKind.i64 0])
  [])
  else
  bif bif decide (n1 > 65535) then decide (n1 ≤ 1114111) else false then
  k
  (Out.ret
  (AVal.tuple
  [AVal.str
  (byteOf
  [AVal.int IntKind.u8
  (IntKind.u8.wrap
  (↑(BitVec.ofInt 8 240 |||
  BitVec.ofInt 8 (IntKind.u8.wrap ((IntKind.i32.wrap n).fdiv 262144))).toNat :
  Int))] ::
  byteOf
  [AVal.int IntKind.u8
  (IntKind.u8.wrap
  (↑(BitVec.ofInt 8 128 |||
  BitVec.ofInt 8
  (IntKind.u8.wrap
  (↑(BitVec.ofInt 8 (IntKind.u8.wrap ((IntKind.i32.wrap n).fdiv 4096)) &&&
  BitVec.ofInt 8 63).toNat :
  Int))).toNat :
  Int))] ::
  l5),
  AVal.int IntKind.i64 0])
  [])
  else
  k
  (Out.ret
  (AVal.tuple
  [AVal.str
  [byteOf [AVal.int IntKind.u8 239], byteOf [AVal.int IntKind.u8 191],
  byteOf [AVal.int IntKind.u8 189]],
  AVal.int IntKind.i64 0])
  [])
  else
  bif bif decide (57343 < IntKind.i32.wrap n) then decide (IntKind.i32.wrap n ≤ 1114111) else false then
  bif bif c0 then true else false then k (Out.ret (AVal.tuple [AVal.str [], AVal.int IntKind.i64 4]) [])
  else
  bif decide (n1 ≤ 127) then
  k (Out.ret (AVal.tuple [AVal.str [byteOf [AVal.int IntKind.u8 n2]], AVal.int IntKind.i64 0]) [])
  else
  bif decide (n1 ≤ 2047) then
  k
  (Out.ret
  (AVal.tuple
  [AVal.str
  (byteOf
  [AVal.int IntKind.u8
  (IntKind.u8.wrap
  (↑(BitVec.ofInt 8 192 |||
  BitVec.ofInt 8 (IntKind.u8.wrap ((IntKind.i32.wrap n).fdiv 64))).toNat :
  Int))] ::
  l3),
  AVal.int IntKind.i64 0])
  [])
  else
  bif c4 then
  bif c4 then
  k
  (Out.ret
  (AVal.tuple
  [AVal.str
  (byteOf
  [AVal.int IntKind.u8
  (IntKind.u8.wrap
  (↑(BitVec.ofInt 8 224 |||
  BitVec.ofInt 8 (IntKind.u8.wrap ((IntKind.i32.wrap n).fdiv 4096))).toNat :
  Int))] ::
  l5),
  AVal.int IntKind.i64 0])
  [])
  else
  bif bif decide (n1 > 65535) then decide (n1 ≤ 1114111) else false then
  k
  (Out.ret
  (AVal.tuple
  [AVal.str
  (byteOf
  [AVal.int IntKind.u8
  (IntKind.u8.wrap
  (↑(BitVec.ofInt 8 240 |||
  BitVec.ofInt 8 (IntKind.u8.wrap ((IntKind.i32.wrap n).fdiv 262144))).toNat :
  Int))] ::
  byteOf
  [AVal.int IntKind.u8
  (IntKind.u8.wrap
  (↑(BitVec.ofInt 8 128 |||
  BitVec.ofInt 8
  (IntKind.u8.wrap
  (↑(BitVec.ofInt 8
  (IntKind.u8.wrap ((IntKind.i32.wrap n).fdiv 4096)) &&&
  BitVec.ofInt 8 63).toNat :
  Int))).toNat :
  Int))] ::
  l5),
  AVal.int IntKind.i64 0])
  [])
  else
  k
  (Out.ret
  (AVal.tuple
  [AVal.str
  [byteOf [AVal.int IntKind.u8 239], byteOf [AVal.int IntKind.u8 191],
  byteOf [AVal.int IntKind.u8 189]],
  AVal.int IntKind.i64 0])
  [])
  else
  bif bif decide (57343 < n1) then decide (n1 ≤ 65535) else false then
  k
  (Out.ret
  (AVal.tuple
  [AVal.str
  (byteOf
  [AVal.int IntKind.u8
  (IntKind.u8.wrap
  (↑(BitVec.ofInt 8 224 |||
  BitVec.ofInt 8 (IntKind.u8.wrap ((IntKind.i32.wrap n).fdiv 4096))).toNat :
  Int))] ::
  l5),
  AVal.int IntKind.i64 0])
  [])
  else
  bif bif decide (n1 > 65535) then decide (n1 ≤ 1114111) else false then
  k
  (Out.ret
  (AVal.tuple
  [AVal.str
  (byteOf
  [AVal.int IntKind.u8
  (IntKind.u8.wrap
  (↑(BitVec.ofInt 8 240 |||
  BitVec.ofInt 8 (IntKind.u8.wrap ((IntKind.i32.wrap n).fdiv 262144))).toNat :
  Int))] ::
  byteOf
  [AVal.int IntKind.u8
  (IntKind.u8.wrap
  (↑(BitVec.ofInt 8 128 |||
  BitVec.ofInt 8
  (IntKind.u8.wrap
  (↑(BitVec.ofInt 8
  (IntKind.u8.wrap ((IntKind.i32.wrap n).fdiv 4096)) &&&
  BitVec.ofInt 8 63).toNat :
  Int))).toNat :
  Int))] ::
  l5),
  AVal.int IntKind.i64 0])
  [])
  else
  k
  (Out.ret
  (AVal.tuple
  [AVal.str
  [byteOf [AVal.int IntKind.u8 239], byteOf [AVal.int IntKind.u8 191],
  byteOf [AVal.int IntKind.u8 189]],
  AVal.int IntKind.i64 0])
  [])
  else
  bif bif c0 then true else true then k (Out.ret (AVal.tuple [AVal.str [], AVal.int IntKind.i64 4]) [])
  else
  bif decide (n1 ≤ 127) then
  k (Out.ret (AVal.tuple [AVal.str [byteOf [AVal.int IntKind.u8 n2]], AVal.int IntKind.i64 0]) [])
  else
  bif decide (n1 ≤ 2047) then
  k
  (Out.ret
  (AVal.tuple
  [AVal.str
  (byteOf
  [AVal.int IntKind.u8
  (IntKind.u8.wrap
  (↑(BitVec.ofInt 8 192 |||
  BitVec.ofInt 8 (IntKind.u8.wrap ((IntKind.i32.wrap n).fdiv 64))).toNat :
  Int))] ::
  l3),
  AVal.int IntKind.i64 0])
  [])
  else
  bif c4 then
  bif c4 then
  k
  (Out.ret
  (AVal.tuple
  [AVal.str
  (byteOf
  [AVal.int IntKind.u8
  (IntKind.u8.wrap
  (↑(BitVec.ofInt 8 224 |||
  BitVec.ofInt 8 (IntKind.u8.wrap ((IntKind.i32.wrap n).fdiv 4096))).toNat :
  Int))] ::
  l5),
  AVal.int IntKind.i64 0])
  [])
  else
  bif bif decide (n1 > 65535) then decide (n1 ≤ 1114111) else false then
  k
  (Out.ret
  (AVal.tuple
  [AVal.str
  (byteOf
  [AVal.int IntKind.u8
  (IntKind.u8.wrap
  (↑(BitVec.ofInt 8 240 |||
  BitVec.ofInt 8 (IntKind.u8.wrap ((IntKind.i32.wrap n).fdiv 262144))).toNat :
  Int))] ::
  byteOf
  [AVal.int IntKind.u8
  (IntKind.u8.wrap
  (↑(BitVec.ofInt 8 128 |||
  BitVec.ofInt 8
  (IntKind.u8.wrap
  (↑(BitVec.ofInt 8
  (IntKind.u8.wrap ((IntKind.i32.wrap n).fdiv 4096)) &&&
  BitVec.ofInt 8 63).toNat :
  Int))).toNat :
  Int))] ::
  l5),
  AVal.int IntKind.i64 0])
  [])
  else
  k
  (Out.ret
  (AVal.tuple
  [AVal.str
  [byteOf [AVal.int IntKind.u8 239], byteOf [AVal.int IntKind.u8 191],
  byteOf [AVal.int IntKind.u8 189]],
  AVal.int IntKind.i64 0])
  [])
  else
  bif bif decide (57343 < n1) then decide (n1 ≤ 65535) else false then
  k
  (Out.ret
  (AVal.tuple
  [AVal.str
  (byteOf
  [AVal.int IntKind.u8
  (IntKind.u8.wrap
  (↑(BitVec.ofInt 8 224 |||
  BitVec.ofInt 8 (IntKind.u8.wrap ((IntKind.i32.wrap n).fdiv 4096))).toNat :
  Int))] ::
  l5),
  AVal.int IntKind.i64 0])
  [])
  else
  bif bif decide (n1 > 65535) then decide (n1 ≤ 1114111) else false then
  k
  (Out.ret
  (AVal.tuple
  [AVal.str
  (byteOf
  [AVal.int IntKind.u8
  (IntKind.u8.wrap
  (↑(BitVec.ofInt 8 240 |||
  BitVec.ofInt 8 (IntKind.u8.wrap ((IntKind.i32.wrap n).fdiv 262144))).toNat :
  Int))] ::
  byteOf
  [AVal.int IntKind.u8
  (IntKind.u8.wrap
  (↑(BitVec.ofInt 8 128 |||
  BitVec.ofInt 8
  (IntKind.u8.wrap
  (↑(BitVec.ofInt 8
  (IntKind.u8.wrap ((IntKind.i32.wrap n).fdiv 4096)) &&&
  BitVec.ofInt 8 63).toNat :
  Int))).toNat :
  Int))] ::
  l5),
  AVal.int IntKind.i64 0])
  [])
  else
  k
  (Out.ret
  (AVal.tuple
  [AVal.str
  [byteOf [AVal.int IntKind.u8 239], byteOf [AVal.int IntKind.u8 191],
  byteOf [AVal.int IntKind.u8 189]],
  AVal.int IntKind.i64 0])
                      [])) := by kernel_rfl
end Go.Mu
set_option linter.unusedVariables false
set_option linter.unusedSimpArgs false
set_option maxRecDepth 100000
namespace Go.Proofs
open Go.Shelf
end Go.Proofs
namespace Go.Mu
open Go Go.Proofs Go.Shelf Go.RowKit
variable {P : Program}
theorem CallOK.below {f : FuncId} {xs : List AVal} {H : Heap} {v : AVal} (h : ∀ w E (cs : List Value), Sim w E H → cs.length = xs.length → (∀ j, j < xs.length → Rep w E H (xs.getD j .undef) (cs.getD j undef)) → ∃ c, Calls P f cs.toArray w (fun e w' => e = .returned c ∧ Below w.heap.size w w') ∧ Rep w E H v c) : CallOK P f xs H (.ret v H) := by
  intro w E cs sim hl hr
  obtain ⟨c, h1, h2⟩ := h w E cs sim hl hr
  refine Calls.mono h1 (fun e w' hp => ?_)
  obtain ⟨rfl, hb⟩ := hp
  have ev : Evo No w E H w' E H := ⟨hb.size, fun b hb' _ _ => hb.block b hb', fun b hb' => ⟨hb', hb.block b (sim.immLt b hb')⟩, fun b hb' => .inl hb', fun k hk => ⟨hk, rfl⟩, fun k sz u hk => ⟨u, hk, Nat.le_refl _, fun _ => ⟨rfl, fun _ => rfl⟩⟩, fun k hk => .inr ⟨hk, rfl⟩, Nat.le_refl _, hb.tape, hb.os, hb.output⟩
  exact ⟨E, ev, sim.keep ev.sees (fun k hk => hb.block _ (sim.apart k hk).2) hb.size, h2.mono ev.sees⟩
end Go.Mu
set_option linter.unusedVariables false
set_option linter.unusedSimpArgs false
set_option maxRecDepth 100000
namespace Go.Mu
open Go Go.Proofs
structure NuA where
  b : Bool
  n : Nat
  f : Bool
  l : List UInt8
  i : Nat
  H : Heap
end Go.Mu
set_option linter.unusedVariables false
set_option linter.unusedSimpArgs false
set_option maxRecDepth 100000
namespace Go.Mu
open Go Go.Proofs
/- one word -/
structure OneR where
  e : Int
  off : Nat
  kind : Int
  text : List UInt8
  len : Nat
end Go.Mu
set_option linter.unusedVariables false
set_option linter.unusedSimpArgs false
set_option maxRecDepth 100000
namespace Go.Mu
open Go Go.Proofs
section
variable {P : Program}
end
structure WdD where
  kind : Int
  text : List UInt8
  at_ : Nat
structure WvA where
  w : WdH
  rows : List (List AVal)
  u : Nat
end Go.Mu
set_option linter.unusedVariables false
set_option linter.unusedSimpArgs false
set_option maxRecDepth 100000
namespace Go.Mu
open Go Go.Proofs
theorem rLetter_fun (n : Int) (k : Out → Ans) : iFun Tryz.prog (Lay.nil.hd Tryz.prog) Lay.nil.fhs 0 45 [.int .u8 n] [] k = (
  k
  (Out.ret
  (AVal.bool
  (bif bif decide (n ≥ 97) then decide (n ≤ 122) else false then true
  else bif decide (n ≥ 65) then decide (n ≤ 90) else false))
      [])) := by kernel_rfl
theorem rDigit_fun (n : Int) (k : Out → Ans) : iFun Tryz.prog (Lay.nil.hd Tryz.prog) Lay.nil.fhs 0 46 [.int .u8 n] [] k = (
  k (Out.ret (AVal.bool (bif decide (n ≥ 48) then decide (n ≤ 57) else false)) [])) := by kernel_rfl
def rLtr (n : Int) : Bool := bif bif decide (n ≥ 97) then decide (n ≤ 122) else false then true else bif decide (n ≥ 65) then decide (n ≤ 90) else false
def rDgt (n : Int) : Bool := bif decide (n ≥ 48) then decide (n ≤ 57) else false
theorem rDgt_eq (c : UInt8) : rDgt (c.toNat : Int) = dig c := by
  have h : ∀ n : Fin 256, rDgt ((UInt8.ofNat n).toNat : Int) = dig (UInt8.ofNat n) := by decide +kernel
  have := h ⟨c.toNat, c.toNat_lt⟩
  simpa using this
def octTold (p : Int → Bool) : FSp := mkFS [.i .u8] (fun _ => true) (fun xs k => k (.ret (.bool (p (aI xs 0))) []))
theorem octTold_ok {f : FuncId} {p : Int → Bool} (h : ∀ n k, iFun Tryz.prog (Lay.nil.hd Tryz.prog) Lay.nil.fhs 0 f [.int .u8 n] [] k = k (.ret (.bool (p n)) [])) : ∀ xs H k out, octTold p xs H k = some out → ∃ o, CallOK Tryz.prog f xs H o ∧ k o = some out := mkFS_ok fun ys xs e hx => by
  obtain ⟨n, rfl⟩ : ∃ n, xs = [.int .u8 n] := ⟨_, e⟩
  exact ⟨_, fun k => rfl, Lay.nil_ok.callF (G := []) rfl (fun k => h n k)⟩
/- skip -/
structure SkA where
  s : List UInt8
  i : Nat
  H : Heap
end Go.Mu
set_option linter.unusedVariables false
set_option linter.unusedSimpArgs false
set_option maxRecDepth 100000
namespace Go.Mu
open Go Go.Proofs
end Go.Mu
set_option linter.unusedVariables false
set_option linter.unusedSimpArgs false
set_option maxRecDepth 100000
namespace Go.Mu
open Go Go.Proofs
/- Has -/
structure HsA where
  s : List UInt8
  n : Int
  i : Nat
  H : Heap
def anyI (s : List UInt8) (n : Int) : Bool := s.any (fun d => (d.toNat : Int) == n)
noncomputable def hsSp (R : List UInt8 → Int → Bool) : LSp := mkL (fun vs _ H => HsA.mk (aS vs 0) (aI vs 1) (aI vs 2).toNat H) (fun a => a.i ≤ a.s.length ∧ a.s.length ≤ 1099511627776) (fun a => [.str a.s, .int .u8 a.n, .int .i64 a.i]) (fun _ => []) (fun a => a.H)
  (fun a k => cond (R (a.s.drop a.i) a.n) (k .ret [.bool true] [] a.H) (k (.exit 0) [.undef] [] a.H))
noncomputable def hsFH (R : List UInt8 → Int → Bool) : FH := .of [(2, loopSpec 17 [0,1,5] [] [4] [] (hsSp R))]
theorem hs_step (R : List UInt8 → Int → Bool) (s : List UInt8) (n i : Int) (H : Heap) (D : List (FuncId × List AVal)) (k : Kont) : lturn Tryz.prog Lay.nil (hsFH R) 43 2 [0,1,5] [] [4] [] (stL 17 [0,1,5] [.str s, .int .u8 n, .int .i64 i] [] [] H D) k = (
 let c0 : Bool := decide (i < (↑s.length : Int));
  bif c0 then
  bif decide (0 ≤ i) && c0 then
  bif (↑(s.getD i.toNat 0).toNat : Int) == n then k AExit.ret (stL 17 [4] [AVal.bool true] [] [] H D)
  else
  k AExit.normal
  (stL 17 [0, 1, 5] [AVal.str s, AVal.int IntKind.u8 n, AVal.int IntKind.i64 (IntKind.i64.wrap (i + 1))] [] [] H
  D)
  else none
  else k (AExit.exit 0) (stL 17 [4] [AVal.undef] [] [] H D)) := by kernel_rfl
noncomputable def layH1 (R : List UInt8 → Int → Bool) : Lay := Lay.nil.addL 43 (hsFH R)
theorem hs_fun (R : List UInt8 → Int → Bool) (s : List UInt8) (n : Int) (k : Out → Ans) : iFun Tryz.prog ((layH1 R).hd Tryz.prog) (layH1 R).fhs 0 43 [.str s, .int .u8 n] [] k = (
  bif
  tst
  ((Int.toNat 0 ≤ s.length ∧ s.length ≤ 1099511627776) ∧
  SubTL [AVal.str s, AVal.int IntKind.u8 n, AVal.int IntKind.i64 0]
  [AVal.str s, AVal.int IntKind.u8 n, AVal.int IntKind.i64 (↑(Int.toNat 0) : Int)] ∧
  ([] : List (List AVal)) = [] ∧ ([] : Heap) = []) then
  bif R (List.drop (Int.toNat 0) s) n then k (Out.ret (AVal.bool true) []) else k (Out.ret (AVal.bool false) [])
  else none) := by kernel_rfl
/- Parse -/
structure RdA where
  b : Bool
  s : List UInt8
  i : Nat
  H : Heap
structure RnA where
  b : Bool
  s : List UInt8
  n : Nat
  i : Nat
  H : Heap
/- Has, Begins -/
theorem hs_runs (s : List UInt8) (n : Int) (hs : s.length ≤ 1099511627776) (H : Heap) (R : List UInt8 → Int → Bool) : ∀ (m i : Nat), s.length - i ≤ m → i ≤ s.length →
    (anyI (s.drop i) n = true → LoopRuns (lturn Tryz.prog Lay.nil (hsFH R) 43 2 [0,1,5] [] [4] []) 17 [0,1,5] [] [4] [] [.str s, .int .u8 n, .int .i64 (i : Nat)] [] H .ret [.bool true] [] H) ∧
    (anyI (s.drop i) n = false → LoopRuns (lturn Tryz.prog Lay.nil (hsFH R) 43 2 [0,1,5] [] [4] []) 17 [0,1,5] [] [4] [] [.str s, .int .u8 n, .int .i64 (i : Nat)] [] H (.exit 0) [.undef] [] H) := by
  intro m
  induction m with
  | zero =>
    intro i hm hi
    have e : s.drop i = [] := List.drop_eq_nil_of_le (by omega)
    rw [e]
    refine ⟨(fun h => by cases h), fun _ => .stop (by simp) (fun D k => ?_)⟩
    rw [hs_step]
    simp (disch := omega) only [dF, cond_false]
  | succ m ih =>
    intro i hm hi
    have key := fun D k => hs_step R s n i H D k
    by_cases hlt : i < s.length
    · have ed := drop_cons_of s i 0 hlt
      simp (disch := omega) only [dT, cond_true, Bool.and_self, Int.toNat_natCast, wrap_add1] at key
      rw [ed, show anyI (s.getD i 0 :: s.drop (i + 1)) n = (((s.getD i 0).toNat : Int) == n || anyI (s.drop (i + 1)) n) from rfl]
      cases hc : ((s.getD i 0).toNat : Int) == n with
      | true =>
        simp only [hc, cond_true] at key
        exact ⟨fun _ => .stop (by simp) key, fun h => by cases h⟩
      | false =>
        simp only [hc, cond_false] at key
        rw [Bool.false_or]
        have := ih (i + 1) (by omega) (by omega)
        exact ⟨fun h => .step key (this.1 h), fun h => .step key (this.2 h)⟩
    · have e : s.drop i = [] := List.drop_eq_nil_of_le (by omega)
      rw [e]
      refine ⟨(fun h => by cases h), fun _ => .stop (by simp) (fun D k => ?_)⟩
      rw [hs_step]
      simp (disch := omega) only [dF, cond_false]
theorem hsSp_ok : SpOK (lturn Tryz.prog Lay.nil (hsFH anyI) 43 2 [0,1,5] [] [4] []) 17 [0,1,5] [] [4] [] (hsSp anyI) := mkL_ok fun a h => by
  have key := hs_runs a.s a.n h.2 a.H anyI _ a.i (Nat.le_refl _) h.1
  show ∃ e vs bs H, (∀ k : AExit → List AVal → List (List AVal) → Heap → Ans, cond (anyI (a.s.drop a.i) a.n) _ _ = k e vs bs H) ∧ _
  cases hb : anyI (a.s.drop a.i) a.n with
  | true => exact ⟨_, _, _, _, fun k => rfl, key.1 hb⟩
  | false => exact ⟨_, _, _, _, fun k => rfl, key.2 hb⟩
theorem layH1_ok : (layH1 anyI).OK Tryz.prog := Lay.nil_ok.loop1 (id := 2) (by kernel_rfl) (by kernel_rfl) (by kernel_rfl) hsSp_ok
def hasTold (R : List UInt8 → Int → Bool) : FSp := mkFS [.s, .i .u8] (fun xs => decide ((aS xs 0).length ≤ 1099511627776)) (fun xs k => k (.ret (.bool (R (aS xs 0) (aI xs 1))) []))
theorem hasTold_ok : ∀ xs H k out, hasTold anyI xs H k = some out → ∃ o, CallOK Tryz.prog 43 xs H o ∧ k o = some out := mkFS_ok fun ys xs e h => by
  obtain ⟨s, n, rfl⟩ : ∃ s n, xs = [.str s, .int .u8 n] := ⟨_, _, e⟩
  refine ⟨_, fun k => rfl, layH1_ok.callF (G := []) rfl (fun k => (hs_fun anyI s n k).trans ?_)⟩
  refine (congrArg (fun c => cond c _ none) (tst_true ⟨⟨Nat.zero_le _, of_decide_eq_true h⟩, .refl _, rfl, rfl⟩)).trans ?_
  simp only [cond_true, Int.toNat_zero, List.drop_zero]
  show _ = k (.ret (.bool (anyI s n)) [])
  cases anyI s n <;> rfl
end Go.Mu
set_option linter.unusedVariables false
set_option linter.unusedSimpArgs false
set_option maxRecDepth 100000
namespace Go.Mu
open Go Go.Proofs
def ibM (s : List UInt8) (n : Int) : Int := Lib.indexByte s (UInt8.ofNat n.toNat)
def ibTold : FSp := mkFS [.s, .i .u8] (fun _ => true) (fun xs k => k (.ret (.int .i64 (ibM (aS xs 0) (aI xs 1))) []))
theorem ib_fun (s : List UInt8) (n : Int) (k : Out → Ans) : iFun Tryz.prog (Lay.nil.hd Tryz.prog) Lay.nil.fhs 0 67 [.str s, .int .u8 n] [] k = (
  k (Out.ret (AVal.int IntKind.i64 (Lib.indexByte s n.toNat.toUInt8)) [])) := by kernel_rfl
theorem ibTold_ok : ∀ xs H k out, ibTold xs H k = some out → ∃ o, CallOK Tryz.prog 67 xs H o ∧ k o = some out := mkFS_ok fun ys xs e h => by
  obtain ⟨s, n, rfl⟩ : ∃ s n, xs = [.str s, .int .u8 n] := ⟨_, _, e⟩
  exact ⟨_, fun k => rfl, Lay.nil_ok.callF (G := []) rfl (fun k => ib_fun s n k)⟩
noncomputable def layY1 : Lay := Lay.nil.addF 67 ibTold
theorem layY1_ok : layY1.OK Tryz.prog := Lay.nil_ok.addF ibTold_ok
def smM (n : Int) : Int := bif decide (n ≥ 65) && decide (n ≤ 90) then IntKind.u8.wrap (n + 32) else n
def smTold : FSp := mkFS [.i .u8] (fun _ => true) (fun xs k => k (.ret (.int .u8 (smM (aI xs 0))) []))
theorem smTold_ok : ∀ xs H k out, smTold xs H k = some out → ∃ o, CallOK Tryz.prog 88 xs H o ∧ k o = some out := mkFS_ok fun ys xs e h => by
  obtain ⟨n, rfl⟩ : ∃ n, xs = [.int .u8 n] := ⟨_, e⟩
  refine ⟨_, fun k => rfl, Lay.nil_ok.callF (G := []) rfl (fun k => (small_fun n k).trans ?_)⟩
  show _ = k (.ret (.int .u8 (smM n)) [])
  unfold smM
  rw [bif_and]
  cases decide (n ≥ 65) && decide (n ≤ 90) <;> rfl
noncomputable def layY2 : Lay := layY1.addF 88 smTold
theorem layY2_ok : layY2.OK Tryz.prog := layY1_ok.addF smTold_ok
/- numeric -/
def nmrM (set s : List UInt8) : Bool := s.all (fun c => !decide (ibM set (c.toNat : Int) < 0))
def octDg : List UInt8 := [48, 49, 50, 51, 52, 53, 54, 55, 56, 57]
def octHx : List UInt8 := [48, 49, 50, 51, 52, 53, 54, 55, 56, 57, 97, 98, 99, 100, 101, 102, 65, 66, 67, 68, 69, 70]
structure NmA where
  s : List UInt8
  set : List UInt8
  n : Int
  i : Nat
  H : Heap
noncomputable def nmrSp (R : List UInt8 → List UInt8 → Bool) : LSp := mkL (fun vs _ H => NmA.mk (aS vs 0) (aS vs 1) (aI vs 2) (aI vs 3).toNat H) (fun a => a.i ≤ a.s.length ∧ a.s.length ≤ 1099511627776 ∧ a.n = a.s.length) (fun a => [.str a.s, .str a.set, .int .i64 a.n, .int .i64 a.i]) (fun _ => []) (fun a => a.H)
  (fun a k => cond (R a.set (a.s.drop a.i)) (k (.exit 0) [.str a.s, .undef] [] a.H) (k .ret [.str a.s, .bool false] [] a.H))
noncomputable def nmrFH (R : List UInt8 → List UInt8 → Bool) : FH := .of [(5, loopSpec 23 [0,5,9,10] [] [0,4] [] (nmrSp R))]
theorem nmr_step (R : List UInt8 → List UInt8 → Bool) (s set : List UInt8) (n i : Int) (H : Heap) (D : List (FuncId × List AVal)) (k : Kont) : lturn Tryz.prog layY1 (nmrFH R) 84 5 [0,5,9,10] [] [0,4] [] (stL 23 [0,5,9,10] [.str s, .str set, .int .i64 n, .int .i64 i] [] [] H D) k = (
  bif decide (i < n) then
  bif decide (0 ≤ i) && decide (i < (↑s.length : Int)) then
  bif decide (ibM set (↑(s.getD i.toNat 0).toNat : Int) < 0) then
  k AExit.ret (stL 23 [0, 4] [AVal.str s, AVal.bool false] [] [] H D)
  else
  k AExit.normal
  (stL 23 [0, 5, 9, 10]
  [AVal.str s, AVal.str set, AVal.int IntKind.i64 n, AVal.int IntKind.i64 (IntKind.i64.wrap (i + 1))] [] [] H D)
  else none
  else k (AExit.exit 0) (stL 23 [0, 4] [AVal.str s, AVal.undef] [] [] H D)) := by kernel_rfl
theorem nmr_runs (s set : List UInt8) (hs : s.length ≤ 1099511627776) (H : Heap) (R : List UInt8 → List UInt8 → Bool) : ∀ (m i : Nat), s.length - i ≤ m → i ≤ s.length →
    (nmrM set (s.drop i) = true → LoopRuns (lturn Tryz.prog layY1 (nmrFH R) 84 5 [0,5,9,10] [] [0,4] []) 23 [0,5,9,10] [] [0,4] [] [.str s, .str set, .int .i64 s.length, .int .i64 (i : Nat)] [] H (.exit 0) [.str s, .undef] [] H) ∧
    (nmrM set (s.drop i) = false → LoopRuns (lturn Tryz.prog layY1 (nmrFH R) 84 5 [0,5,9,10] [] [0,4] []) 23 [0,5,9,10] [] [0,4] [] [.str s, .str set, .int .i64 s.length, .int .i64 (i : Nat)] [] H .ret [.str s, .bool false] [] H) := by
  intro m
  induction m with
  | zero =>
    intro i hm hi
    have e : s.drop i = [] := List.drop_eq_nil_of_le (by omega)
    rw [e]
    refine ⟨fun _ => .stop (by simp) (fun D k => ?_), (fun h => by cases h)⟩
    rw [nmr_step]
    simp (disch := omega) only [dF, cond_false]
  | succ m ih =>
    intro i hm hi
    have key := fun D k => nmr_step R s set s.length i H D k
    by_cases hlt : i < s.length
    · have ed := drop_cons_of s i 0 hlt
      simp (disch := omega) only [dT, cond_true, Bool.and_self, Int.toNat_natCast, wrap_add1] at key
      rw [ed, show nmrM set (s.getD i 0 :: s.drop (i + 1)) = (!decide (ibM set ((s.getD i 0).toNat : Int) < 0) && nmrM set (s.drop (i + 1))) from rfl]
      cases hc : decide (ibM set ((s.getD i 0).toNat : Int) < 0) with
      | true =>
        simp only [hc, cond_true] at key
        exact ⟨(fun h => by cases h), fun _ => .stop (by simp) key⟩
      | false =>
        simp only [hc, cond_false] at key
        rw [Bool.not_false, Bool.true_and]
        have := ih (i + 1) (by omega) (by omega)
        exact ⟨fun h => .step key (this.1 h), fun h => .step key (this.2 h)⟩
    · have e : s.drop i = [] := List.drop_eq_nil_of_le (by omega)
      rw [e]
      refine ⟨fun _ => .stop (by simp) (fun D k => ?_), (fun h => by cases h)⟩
      rw [nmr_step]
      simp (disch := omega) only [dF, cond_false]
theorem nmrSp_ok : SpOK (lturn Tryz.prog layY1 (nmrFH nmrM) 84 5 [0,5,9,10] [] [0,4] []) 23 [0,5,9,10] [] [0,4] [] (nmrSp nmrM) := mkL_ok fun a h => by
  obtain ⟨s, set, n, i, H⟩ := a
  obtain ⟨h1, h2, h3⟩ := h
  simp only at h1 h2 h3
  subst h3
  have key := nmr_runs s set h2 H nmrM _ i (Nat.le_refl _) h1
  show ∃ e vs bs H', (∀ k : AExit → List AVal → List (List AVal) → Heap → Ans, cond (nmrM set (s.drop i)) _ _ = k e vs bs H') ∧ _
  cases hb : nmrM set (s.drop i) with
  | true => exact ⟨_, _, _, _, fun k => rfl, key.1 hb⟩
  | false => exact ⟨_, _, _, _, fun k => rfl, key.2 hb⟩
noncomputable def layY3 (R : List UInt8 → List UInt8 → Bool) : Lay := layY1.addL 84 (nmrFH R)
theorem nmr_fun (R : List UInt8 → List UInt8 → Bool) (s : List UInt8) (b : Bool) (k : Out → Ans) : iFun Tryz.prog ((layY3 R).hd Tryz.prog) (layY3 R).fhs 0 84 [.str s, .bool b] [] k = (
 let n0 : Int := (↑s.length : Int);
 let l1 : List UInt8 := List.drop (Int.toNat 0) s;
  bif b then
  bif
  tst
  ((Int.toNat 0 ≤ s.length ∧ s.length ≤ 1099511627776 ∧ n0 = n0) ∧
  SubTL
  [AVal.str s,
  AVal.str [48, 49, 50, 51, 52, 53, 54, 55, 56, 57, 97, 98, 99, 100, 101, 102, 65, 66, 67, 68, 69, 70],
  AVal.int IntKind.i64 n0, AVal.int IntKind.i64 0]
  [AVal.str s,
  AVal.str [48, 49, 50, 51, 52, 53, 54, 55, 56, 57, 97, 98, 99, 100, 101, 102, 65, 66, 67, 68, 69, 70],
  AVal.int IntKind.i64 n0, AVal.int IntKind.i64 (↑(Int.toNat 0) : Int)] ∧
  ([] : List (List AVal)) = [] ∧ ([] : Heap) = []) then
  bif R [48, 49, 50, 51, 52, 53, 54, 55, 56, 57, 97, 98, 99, 100, 101, 102, 65, 66, 67, 68, 69, 70] l1 then
  k (Out.ret (AVal.bool (decide (n0 ≤ 7))) [])
  else k (Out.ret (AVal.bool false) [])
  else none
  else
  bif
  tst
  ((Int.toNat 0 ≤ s.length ∧ s.length ≤ 1099511627776 ∧ n0 = n0) ∧
  SubTL
  [AVal.str s, AVal.str [48, 49, 50, 51, 52, 53, 54, 55, 56, 57], AVal.int IntKind.i64 n0,
  AVal.int IntKind.i64 0]
  [AVal.str s, AVal.str [48, 49, 50, 51, 52, 53, 54, 55, 56, 57], AVal.int IntKind.i64 n0,
  AVal.int IntKind.i64 (↑(Int.toNat 0) : Int)] ∧
  ([] : List (List AVal)) = [] ∧ ([] : Heap) = []) then
  bif R [48, 49, 50, 51, 52, 53, 54, 55, 56, 57] l1 then k (Out.ret (AVal.bool (decide (n0 ≤ 7))) [])
  else k (Out.ret (AVal.bool false) [])
  else none) := by kernel_rfl
theorem layY3_ok : (layY3 nmrM).OK Tryz.prog := layY1_ok.loop1 (id := 5) (by kernel_rfl) (by kernel_rfl) (by kernel_rfl) nmrSp_ok
def numB (s : List UInt8) (b : Bool) : Bool := nmrM (bif b then octHx else octDg) s && decide (s.length ≤ 7)
def numrTold : FSp := mkFS [.s, .b] (fun xs => decide ((aS xs 0).length ≤ 1099511627776)) (fun xs k => k (.ret (.bool (numB (aS xs 0) (aB xs 1))) []))
theorem numrTold_ok : ∀ xs H k out, numrTold xs H k = some out → ∃ o, CallOK Tryz.prog 84 xs H o ∧ k o = some out := mkFS_ok fun ys xs e h => by
  obtain ⟨s, b, rfl⟩ : ∃ s b, xs = [.str s, .bool b] := ⟨_, _, e⟩
  replace h : s.length ≤ 1099511627776 := of_decide_eq_true h
  refine ⟨_, fun k => rfl, layY3_ok.callF (G := []) rfl (fun k => (nmr_fun nmrM s b k).trans ?_)⟩
  show _ = k (.ret (.bool (numB s b)) [])
  have e7 : decide ((s.length : Int) ≤ 7) = decide (s.length ≤ 7) := decide_eq_decide.2 (by omega)
  unfold numB
  simp only [e7, Int.toNat_zero, List.drop_zero]
  cases b with
  | true =>
    refine (congrArg (fun c => cond c _ none) (tst_true ⟨⟨Nat.zero_le _, h, trivial⟩, .refl _, trivial, trivial⟩)).trans ?_
    simp only [cond_true]
    show _ = k (.ret (.bool (nmrM octHx s && _)) [])
    unfold octHx
    cases nmrM [48, 49, 50, 51, 52, 53, 54, 55, 56, 57, 97, 98, 99, 100, 101, 102, 65, 66, 67, 68, 69, 70] s <;> rfl
  | false =>
    refine (congrArg (fun c => cond c _ none) (tst_true ⟨⟨Nat.zero_le _, h, trivial⟩, .refl _, trivial, trivial⟩)).trans ?_
    simp only [cond_true, cond_false]
    show _ = k (.ret (.bool (nmrM octDg s && _)) [])
    unfold octDg
    cases nmrM [48, 49, 50, 51, 52, 53, 54, 55, 56, 57] s <;> rfl
/- Unhex -/
def hexT : List UInt8 := [48, 49, 50, 51, 52, 53, 54, 55, 56, 57, 97, 98, 99, 100, 101, 102]
def hexD (c : UInt8) : Int := ibM hexT (smM (c.toNat : Int))
def hexS (n d : Int) : Int := IntKind.i64.wrap (((BitVec.ofInt 64 (IntKind.i64.wrap (n * 16)) ||| BitVec.ofInt 64 d).toNat : Nat) : Int)
def uhM : Int → List UInt8 → Bool × Int
  | n, [] => (true, n)
  | n, c :: l => bif decide (hexD c < 0) then (false, n) else uhM (hexS n (hexD c)) l
def vaS (n : Int) (c : UInt8) : Int := IntKind.i64.wrap (IntKind.i64.wrap (n * 10) + IntKind.i64.wrap (IntKind.u8.wrap ((c.toNat : Int) - 48)))
def vaM (n : Int) (l : List UInt8) : Int := l.foldl vaS n
structure UhA where
  n : Int
  f : Bool
  l : List UInt8
  m : Int
  i : Nat
  H : Heap
abbrev UhR := Int → List UInt8 → Bool × Int
noncomputable def uhSp (R : UhR) : LSp := mkL (fun vs _ H => UhA.mk (aI vs 0) (fullOf (vs.getD 1 .undef)) (decL decB (vs.getD 1 .undef)) (aI vs 2) (aI vs 3).toNat H) (fun a => a.i ≤ a.l.length ∧ a.l.length ≤ 1099511627776 ∧ a.m = a.l.length) (fun a => [.int .i64 a.n, encL a.f byteRow 0 a.l, .int .i64 a.m, .int .i64 a.i]) (fun _ => []) (fun a => a.H)
  (fun a k => cond (R a.n (a.l.drop a.i)).1 (k (.exit 1) [.undef, .undef, .int .i64 (R a.n (a.l.drop a.i)).2] [] a.H) (k .ret [.int .i64 0, .int .i64 33, .int .i64 (R a.n (a.l.drop a.i)).2] [] a.H))
noncomputable def uhFH (R : UhR) : FH := .of [(7, loopSpec 33 [4,16,17,18] [] [2,3,4] [] (uhSp R))]
theorem uh_step (R : UhR) (n : Int) (f : Bool) (l : List UInt8) (m i : Int) (H : Heap) (D : List (FuncId × List AVal)) (k : Kont) : lturn Tryz.prog layY2 (uhFH R) 53 7 [4,16,17,18] [] [2,3,4] [] (stL 33 [4,16,17,18] [.int .i64 n, encL f byteRow 0 l, .int .i64 m, .int .i64 i] [] [] H D) k = (
 let n0 : Int :=
  ibM [48, 49, 50, 51, 52, 53, 54, 55, 56, 57, 97, 98, 99, 100, 101, 102] (smM (↑(l.getD i.toNat 0).toNat : Int));
  bif decide (i < m) then
  bif decide (0 ≤ i) && decide (i < (↑l.length : Int)) then
  bif decide (n0 < 0) then
  k AExit.ret (stL 33 [2, 3, 4] [AVal.int IntKind.i64 0, AVal.int IntKind.i64 33, AVal.int IntKind.i64 n] [] [] H D)
  else
  k AExit.normal
  (stL 33 [4, 16, 17, 18]
  [AVal.int IntKind.i64
  (IntKind.i64.wrap (↑(BitVec.ofInt 64 (IntKind.i64.wrap (n * 16)) ||| BitVec.ofInt 64 n0).toNat : Int)),
  AVal.list f l.length fun (i : Nat) => [AVal.int IntKind.u8 (↑(l.getD i 0).toNat : Int)],
  AVal.int IntKind.i64 m, AVal.int IntKind.i64 (IntKind.i64.wrap (i + 1))]
  [] [] H D)
  else none
  else k (AExit.exit 1) (stL 33 [2, 3, 4] [AVal.undef, AVal.undef, AVal.int IntKind.i64 n] [] [] H D)) := by kernel_rfl
theorem uh_runs (f : Bool) (l : List UInt8) (hs : l.length ≤ 1099511627776) (H : Heap) (R : UhR) : ∀ (m i : Nat) (n : Int), l.length - i ≤ m → i ≤ l.length →
    ((uhM n (l.drop i)).1 = true → LoopRuns (lturn Tryz.prog layY2 (uhFH R) 53 7 [4,16,17,18] [] [2,3,4] []) 33 [4,16,17,18] [] [2,3,4] [] [.int .i64 n, encL f byteRow 0 l, .int .i64 l.length, .int .i64 (i : Nat)] [] H (.exit 1) [.undef, .undef, .int .i64 (uhM n (l.drop i)).2] [] H) ∧
    ((uhM n (l.drop i)).1 = false → LoopRuns (lturn Tryz.prog layY2 (uhFH R) 53 7 [4,16,17,18] [] [2,3,4] []) 33 [4,16,17,18] [] [2,3,4] [] [.int .i64 n, encL f byteRow 0 l, .int .i64 l.length, .int .i64 (i : Nat)] [] H .ret [.int .i64 0, .int .i64 33, .int .i64 (uhM n (l.drop i)).2] [] H) := by
  intro m
  induction m with
  | zero =>
    intro i n hm hi
    have e : l.drop i = [] := List.drop_eq_nil_of_le (by omega)
    rw [e]
    refine ⟨fun _ => .stop (by simp) (fun D k => ?_), (fun h => by cases h)⟩
    rw [uh_step]
    simp (disch := omega) only [dF, cond_false]
    rfl
  | succ m ih =>
    intro i n hm hi
    have key := fun D k => uh_step R n f l l.length i H D k
    by_cases hlt : i < l.length
    · have ed := drop_cons_of l i 0 hlt
      simp (disch := omega) only [dT, cond_true, Bool.and_self, Int.toNat_natCast, wrap_add1] at key
      rw [ed, uhM]
      replace key : ∀ (D : List (FuncId × List AVal)) (k : Kont), lturn Tryz.prog layY2 (uhFH R) 53 7 [4,16,17,18] [] [2,3,4] [] (stL 33 [4,16,17,18] [.int .i64 n, encL f byteRow 0 l, .int .i64 l.length, .int .i64 (i : Nat)] [] [] H D) k = bif decide (hexD (l.getD i 0) < 0) then k .ret (stL 33 [2,3,4] [.int .i64 0, .int .i64 33, .int .i64 n] [] [] H D) else k .normal (stL 33 [4,16,17,18] [.int .i64 (hexS n (hexD (l.getD i 0))), encL f byteRow 0 l, .int .i64 l.length, .int .i64 ((i + 1 : Nat) : Int)] [] [] H D) := key
      cases hc : decide (hexD (l.getD i 0) < 0) with
      | true =>
        simp only [hc, cond_true] at key ⊢
        exact ⟨(fun h => by cases h), fun _ => .stop (by simp) key⟩
      | false =>
        simp only [hc, cond_false] at key ⊢
        have := ih (i + 1) (hexS n (hexD (l.getD i 0))) (by omega) (by omega)
        exact ⟨fun h => .step key (this.1 h), fun h => .step key (this.2 h)⟩
    · have e : l.drop i = [] := List.drop_eq_nil_of_le (by omega)
      rw [e]
      refine ⟨fun _ => .stop (by simp) (fun D k => ?_), (fun h => by cases h)⟩
      rw [uh_step]
      simp (disch := omega) only [dF, cond_false]
      rfl
theorem uhSp_ok : SpOK (lturn Tryz.prog layY2 (uhFH uhM) 53 7 [4,16,17,18] [] [2,3,4] []) 33 [4,16,17,18] [] [2,3,4] [] (uhSp uhM) := mkL_ok fun a h => by
  obtain ⟨n, f, l, m, i, H⟩ := a
  obtain ⟨h1, h2, h3⟩ := h
  simp only at h1 h2 h3
  subst h3
  have key := uh_runs f l h2 H uhM _ i n (Nat.le_refl _) h1
  show ∃ e vs bs H', (∀ k : AExit → List AVal → List (List AVal) → Heap → Ans, cond (uhM n (l.drop i)).1 _ _ = k e vs bs H') ∧ _
  cases hb : (uhM n (l.drop i)).1 with
  | true => exact ⟨_, _, _, _, fun k => rfl, key.1 hb⟩
  | false => exact ⟨_, _, _, _, fun k => rfl, key.2 hb⟩
noncomputable def layY4 (R : UhR) : Lay := layY2.addL 53 (uhFH R)
theorem uh_fun (R : UhR) (s : List UInt8) (k : Out → Ans) : iFun Tryz.prog ((layY4 R).hd Tryz.prog) (layY4 R).fhs 0 53 [.str s] [] k = (
 let n0 : Int := (↑s.length : Int);
 let l1 : List UInt8 :=
  decL (fun (r : List AVal) => byteOf r)
  (AVal.list false s.length fun (i : Nat) => [AVal.int IntKind.u8 (↑(s.getD i 0).toNat : Int)]);
 let m2 : Nat := l1.length;
  bif s == [] then k (Out.ret (AVal.tuple [AVal.int IntKind.i64 0, AVal.int IntKind.i64 8]) [])
  else
  bif decide (n0 > 8) then k (Out.ret (AVal.tuple [AVal.int IntKind.i64 0, AVal.int IntKind.i64 5]) [])
  else
  bif
  tst
  ((Int.toNat 0 ≤ m2 ∧ m2 ≤ 1099511627776 ∧ n0 = (↑m2 : Int)) ∧
  SubTL
  [AVal.int IntKind.i64 0,
  AVal.list false s.length fun (i : Nat) => [AVal.int IntKind.u8 (↑(s.getD i 0).toNat : Int)],
  AVal.int IntKind.i64 n0, AVal.int IntKind.i64 0]
  [AVal.int IntKind.i64 0,
  AVal.list false m2 fun (i : Nat) =>
  [AVal.int IntKind.u8
  (↑((decL (fun (r : List AVal) => byteOf r)
  (AVal.list false s.length fun (i : Nat) =>
  [AVal.int IntKind.u8 (↑(s.getD i 0).toNat : Int)])).getD
  i 0).toNat :
  Int)],
  AVal.int IntKind.i64 n0, AVal.int IntKind.i64 (↑(Int.toNat 0) : Int)] ∧
  ([] : List (List AVal)) = [] ∧ ([] : Heap) = []) then
  bif (R 0 (List.drop (Int.toNat 0) l1)).fst then
  k
  (Out.ret (AVal.tuple [AVal.int IntKind.i64 (R 0 (List.drop (Int.toNat 0) l1)).snd, AVal.int IntKind.i64 0])
  [])
  else k (Out.ret (AVal.tuple [AVal.int IntKind.i64 0, AVal.int IntKind.i64 33]) [])
  else none) := by kernel_rfl
theorem layY4_ok : (layY4 uhM).OK Tryz.prog := layY2_ok.loop1 (id := 7) (by kernel_rfl) (by kernel_rfl) (by kernel_rfl) uhSp_ok
def unhexM (s : List UInt8) : Int × Int := bif s == [] then (0, 8) else bif decide ((s.length : Int) > 8) then (0, 5) else bif (uhM 0 s).1 then ((uhM 0 s).2, 0) else (0, 33)
def unhexTold : FSp := mkFS [.s] (fun _ => true) (fun xs k => k (.ret (.tuple [.int .i64 (unhexM (aS xs 0)).1, .int .i64 (unhexM (aS xs 0)).2]) []))
theorem bytes_back (s : List UInt8) : decL (fun (r : List AVal) => byteOf r) (AVal.list false s.length fun (i : Nat) => [AVal.int IntKind.u8 ((s.getD i 0).toNat : Int)]) = s := decL_encL (d := 0) (full := false) decB_enc s
theorem unhexTold_ok : ∀ xs H k out, unhexTold xs H k = some out → ∃ o, CallOK Tryz.prog 53 xs H o ∧ k o = some out := mkFS_ok fun ys xs e h => by
  obtain ⟨s, rfl⟩ : ∃ s, xs = [.str s] := ⟨_, e⟩
  refine ⟨_, fun k => rfl, layY4_ok.callF (G := []) rfl (fun k => (uh_fun uhM s k).trans ?_)⟩
  show _ = k (.ret (.tuple [.int .i64 (unhexM s).1, .int .i64 (unhexM s).2]) [])
  unfold unhexM
  simp only [bytes_back]
  cases s == [] with
  | true => rfl
  | false =>
    simp only [cond_false]
    by_cases h8 : (s.length : Int) > 8
    · rw [dT h8]; rfl
    · rw [dF h8]
      simp only [cond_false]
      refine (congrArg (fun c => cond c _ none) (tst_true ⟨⟨Nat.zero_le _, by omega, trivial⟩, .refl _, by trivial⟩)).trans ?_
      simp only [cond_true, Int.toNat_zero, List.drop_zero]
      cases (uhM 0 s).1 <;> rfl
/- value -/
noncomputable def layY5 : Lay := (Lay.nil.addF 53 unhexTold)
theorem layY5_ok : layY5.OK Tryz.prog := Lay.nil_ok.addF unhexTold_ok
noncomputable def vaSp (R : Int → List UInt8 → Int) : LSp := mkL (fun vs _ H => UhA.mk (aI vs 0) (fullOf (vs.getD 1 .undef)) (decL decB (vs.getD 1 .undef)) (aI vs 2) (aI vs 3).toNat H) (fun a => a.i ≤ a.l.length ∧ a.l.length ≤ 1099511627776 ∧ a.m = a.l.length) (fun a => [.int .i64 a.n, encL a.f byteRow 0 a.l, .int .i64 a.m, .int .i64 a.i]) (fun _ => []) (fun a => a.H)
  (fun a k => k (.exit 0) [.int .i64 (R a.n (a.l.drop a.i))] [] a.H)
noncomputable def vaFH (R : Int → List UInt8 → Int) : FH := .of [(6, loopSpec 32 [7,18,19,20] [] [7] [] (vaSp R))]
theorem va_step (R : Int → List UInt8 → Int) (n : Int) (f : Bool) (l : List UInt8) (m i : Int) (H : Heap) (D : List (FuncId × List AVal)) (k : Kont) : lturn Tryz.prog layY5 (vaFH R) 85 6 [7,18,19,20] [] [7] [] (stL 32 [7,18,19,20] [.int .i64 n, encL f byteRow 0 l, .int .i64 m, .int .i64 i] [] [] H D) k = (
  bif decide (i < m) then
  bif decide (0 ≤ i) && decide (i < (↑l.length : Int)) then
  k AExit.normal
  (stL 32 [7, 18, 19, 20]
  [AVal.int IntKind.i64
  (IntKind.i64.wrap
  (IntKind.i64.wrap (n * 10) +
  IntKind.i64.wrap (IntKind.u8.wrap ((↑(l.getD i.toNat 0).toNat : Int) - 48)))),
  AVal.list f l.length fun (i : Nat) => [AVal.int IntKind.u8 (↑(l.getD i 0).toNat : Int)],
  AVal.int IntKind.i64 m, AVal.int IntKind.i64 (IntKind.i64.wrap (i + 1))]
  [] [] H D)
  else none
  else k (AExit.exit 0) (stL 32 [7] [AVal.int IntKind.i64 n] [] [] H D)) := by kernel_rfl
theorem va_runs (f : Bool) (l : List UInt8) (hs : l.length ≤ 1099511627776) (H : Heap) (R : Int → List UInt8 → Int) : ∀ (m i : Nat) (n : Int), l.length - i ≤ m → i ≤ l.length →
    LoopRuns (lturn Tryz.prog layY5 (vaFH R) 85 6 [7,18,19,20] [] [7] []) 32 [7,18,19,20] [] [7] [] [.int .i64 n, encL f byteRow 0 l, .int .i64 l.length, .int .i64 (i : Nat)] [] H (.exit 0) [.int .i64 (vaM n (l.drop i))] [] H := by
  intro m
  induction m with
  | zero =>
    intro i n hm hi
    have e : l.drop i = [] := List.drop_eq_nil_of_le (by omega)
    rw [e]
    refine .stop (by simp) (fun D k => ?_)
    rw [va_step]
    simp (disch := omega) only [dF, cond_false]
    rfl
  | succ m ih =>
    intro i n hm hi
    have key := fun D k => va_step R n f l l.length i H D k
    by_cases hlt : i < l.length
    · have ed := drop_cons_of l i 0 hlt
      simp (disch := omega) only [dT, cond_true, Bool.and_self, Int.toNat_natCast, wrap_add1] at key
      rw [ed]
      replace key : ∀ (D : List (FuncId × List AVal)) (k : Kont), lturn Tryz.prog layY5 (vaFH R) 85 6 [7,18,19,20] [] [7] [] (stL 32 [7,18,19,20] [.int .i64 n, encL f byteRow 0 l, .int .i64 l.length, .int .i64 (i : Nat)] [] [] H D) k = k .normal (stL 32 [7,18,19,20] [.int .i64 (vaS n (l.getD i 0)), encL f byteRow 0 l, .int .i64 l.length, .int .i64 ((i + 1 : Nat) : Int)] [] [] H D) := key
      exact .step key (ih (i + 1) (vaS n (l.getD i 0)) (by omega) (by omega))
    · have e : l.drop i = [] := List.drop_eq_nil_of_le (by omega)
      rw [e]
      refine .stop (by simp) (fun D k => ?_)
      rw [va_step]
      simp (disch := omega) only [dF, cond_false]
      rfl
theorem vaSp_ok : SpOK (lturn Tryz.prog layY5 (vaFH vaM) 85 6 [7,18,19,20] [] [7] []) 32 [7,18,19,20] [] [7] [] (vaSp vaM) := mkL_ok fun a h => by
  obtain ⟨n, f, l, m, i, H⟩ := a
  obtain ⟨h1, h2, h3⟩ := h
  simp only at h1 h2 h3
  subst h3
  exact ⟨_, _, _, _, fun k => rfl, va_runs f l h2 H vaM _ i n (Nat.le_refl _) h1⟩
end Go.Mu
set_option linter.unusedVariables false
set_option linter.unusedSimpArgs false
set_option maxRecDepth 100000
namespace Go.Mu
open Go Go.Proofs
noncomputable def laySm : Lay := Lay.nil.addF 88 smTold
theorem laySm_ok : laySm.OK Tryz.prog := Lay.nil_ok.addF smTold_ok
structure TuA where
  q : Nat
  n : Int
  v : Nat
  rows : List (List AVal)
  i : Nat
def allB (rows : List (List AVal)) : Bool := rows.all isByteRow
def ownL : AVal → Nat
  | .own _ _ n _ _ => n
  | _ => 0
def tuR (rows : List (List AVal)) (i : Nat) : List (List AVal) := rows.take i ++ (rows.drop i).map (fun r => [.int .u8 (smM (intOf (r.getD 0 .undef)))])
noncomputable def tuSp (R : List (List AVal) → Nat → List (List AVal)) : LSp := mkL (fun vs _ H => TuA.mk (ownL (vs.getD 1 .undef)) (aI vs 3) (verO (H.getD 0 (.var []))) (rowsO (H.getD 0 (.var []))) (aI vs 4).toNat) (fun a => a.q = a.rows.length ∧ a.n = a.rows.length ∧ a.i ≤ a.rows.length ∧ a.rows.length ≤ 1099511627776 ∧ allB a.rows = true)
  (fun a => [.func 88 [], .own 0 0 a.q a.v false, .own 0 0 a.q a.v false, .int .i64 a.n, .int .i64 (a.i : Nat)]) (fun _ => []) (fun a => [.arr 1 a.rows a.v])
  (fun a k => k (.exit 0) [.own 0 0 a.q a.v false] [] [.arr 1 (R a.rows a.i) a.v])
noncomputable def tuFH (R : List (List AVal) → Nat → List (List AVal)) : FH := { FH.of [(3, loopSpec 26 [1,5,10,11,12] [] [5] [] (tuSp R))] with own := [9] }
theorem tu_step (R : List (List AVal) → Nat → List (List AVal)) (n v : Nat) (m i : Int) (rows : List (List AVal)) (D : List (FuncId × List AVal)) (k : Kont) : lturn Tryz.prog laySm (tuFH R) 98 3 [1,5,10,11,12] [] [5] [] (stL 26 [1,5,10,11,12] [.func 88 [], .own 0 0 n v false, .own 0 0 n v false, .int .i64 m, .int .i64 i] [] [] [.arr 1 rows v] D) k = (
 let c0 : Bool := v == v;
 let c1 : Bool := c0 && decide (0 ≤ i) && decide (i < (↑n : Int));
 let m2 : Nat := 0 + i.toNat;
 let c3 : Bool := c0 && decide (m2 < rows.length) && true;
  bif decide (i < m) then
  bif c1 then
  bif c3 && isInt IntKind.u8 ((rows.getD m2 []).getD 0 AVal.undef) then
  bif c1 then
  bif c3 then
  k AExit.normal
  (stL 26 [1, 5, 10, 11, 12]
  [AVal.func 88 [], AVal.own 0 0 n v false, AVal.own 0 0 n v false, AVal.int IntKind.i64 m,
  AVal.int IntKind.i64 (IntKind.i64.wrap (i + 1))]
  [] []
  [Obj.arr 1
  (rows.set m2
  ((rows.getD m2 []).set 0 (AVal.int IntKind.u8 (smM (intOf ((rows.getD m2 []).getD 0 AVal.undef))))))
  v]
  D)
  else none
  else none
  else none
  else none
  else k (AExit.exit 0) (stL 26 [5] [AVal.own 0 0 n v false] [] [] [Obj.arr 1 rows v] D)) := by kernel_rfl
noncomputable def layTu (R : List (List AVal) → Nat → List (List AVal)) : Lay := laySm.addL 98 (tuFH R)
theorem lower_fun (R : List (List AVal) → Nat → List (List AVal)) (s : List UInt8) (k : Out → Ans) : iFun Tryz.prog ((layTu R).hd Tryz.prog) (layTu R).fhs 0 70 [.str s] [] k = (
 let m0 : Nat := ownL (AVal.own 0 0 s.length 0 false);
 let m1 : Nat := (List.map (fun (c : UInt8) => [AVal.int IntKind.u8 (↑c.toNat : Int)]) s).length;
 let n2 : Int := (↑s.length : Int);
  bif
  tst
  ((m0 = m1 ∧
  n2 = (↑m1 : Int) ∧
  Int.toNat 0 ≤ m1 ∧
  m1 ≤ 1099511627776 ∧
  allB (List.map (fun (c : UInt8) => [AVal.int IntKind.u8 (↑c.toNat : Int)]) s) = true) ∧
  SubTL
  [AVal.func 88 [], AVal.own 0 0 s.length 0 false, AVal.own 0 0 s.length 0 false, AVal.int IntKind.i64 n2,
  AVal.int IntKind.i64 0]
  [AVal.func 88 [], AVal.own 0 0 m0 0 false, AVal.own 0 0 m0 0 false, AVal.int IntKind.i64 n2,
  AVal.int IntKind.i64 (↑(Int.toNat 0) : Int)] ∧
  ([] : List (List AVal)) = [] ∧
  [Obj.arr 1 (List.map (fun (c : UInt8) => [AVal.int IntKind.u8 (↑c.toNat : Int)]) s) 0] =
  [Obj.arr 1 (List.map (fun (c : UInt8) => [AVal.int IntKind.u8 (↑c.toNat : Int)]) s) 0]) then
  bif
  decide
  (0 + m0 ≤
  (R (List.map (fun (c : UInt8) => [AVal.int IntKind.u8 (↑c.toNat : Int)]) s) (Int.toNat 0)).length) &&
  (List.take m0
  (List.drop 0
  (R (List.map (fun (c : UInt8) => [AVal.int IntKind.u8 (↑c.toNat : Int)]) s) (Int.toNat 0)))).all
  fun (r : List AVal) =>
  match r with
  | [v] => isInt IntKind.u8 v
  | x => false then
  k
  (Out.ret
  (AVal.str
  (List.map (fun (r : List AVal) => UInt8.ofNat (intOf (r.getD 0 AVal.undef)).toNat)
  (List.take m0
  (List.drop 0
  (R (List.map (fun (c : UInt8) => [AVal.int IntKind.u8 (↑c.toNat : Int)]) s) (Int.toNat 0))))))
  [])
  else none
  else none) := by kernel_rfl
def subR (r : List AVal) : List AVal := [.int .u8 (smM (intOf (r.getD 0 .undef)))]
theorem allB_get {rows : List (List AVal)} (h : allB rows = true) {i : Nat} (hi : i < rows.length) : ∃ v, rows.getD i [] = [v] ∧ isInt .u8 v = true := by
  unfold allB at h
  rw [List.all_eq_true] at h
  have hm : rows.getD i [] ∈ rows := by
    rw [List.getD_eq_getElem?_getD, List.getElem?_eq_getElem hi]
    exact List.getElem_mem _
  have := h _ hm
  match hr : rows.getD i [], this with
  | [v], hv => exact ⟨v, rfl, hv⟩
theorem tuR_step {rows : List (List AVal)} {i : Nat} (hi : i < rows.length) : tuR (rows.set i (subR (rows.getD i []))) (i + 1) = tuR rows i := by
  unfold tuR
  have e1 : rows.drop i = rows.getD i [] :: rows.drop (i + 1) := drop_cons_of rows i [] hi
  have e2 : (rows.set i (subR (rows.getD i []))).drop (i + 1) = rows.drop (i + 1) := List.drop_set_of_lt (by omega)
  have e3 : (rows.set i (subR (rows.getD i []))).take (i + 1) = rows.take i ++ [subR (rows.getD i [])] := by
    rw [List.take_add_one, List.take_set_of_le (by omega), List.getElem?_set_self hi]
    rfl
  rw [e1, e2, e3, List.map_cons, List.append_assoc]
  rfl
theorem allB_set {rows : List (List AVal)} (h : allB rows = true) (i : Nat) (n : Int) : allB (rows.set i [.int .u8 n]) = true := by
  unfold allB at h ⊢
  rw [List.all_eq_true] at h ⊢
  intro r hr
  rcases List.mem_or_eq_of_mem_set hr with hr | rfl
  · exact h r hr
  · rfl
noncomputable abbrev tuTurn (R : List (List AVal) → Nat → List (List AVal)) := lturn Tryz.prog laySm (tuFH R) 98 3 [1,5,10,11,12] [] [5] []
theorem tu_runs (R : List (List AVal) → Nat → List (List AVal)) (v : Nat) : ∀ (m i : Nat) (rows : List (List AVal)), rows.length - i ≤ m → i ≤ rows.length → rows.length ≤ 1099511627776 → allB rows = true →
    LoopRuns (tuTurn R) 26 [1,5,10,11,12] [] [5] [] [.func 88 [], .own 0 0 rows.length v false, .own 0 0 rows.length v false, .int .i64 rows.length, .int .i64 (i : Nat)] [] [.arr 1 rows v] (.exit 0) [.own 0 0 rows.length v false] [] [.arr 1 (tuR rows i) v] := by
  intro m
  induction m with
  | zero =>
    intro i rows hm hi hl hb
    have e : tuR rows i = rows := by unfold tuR; rw [List.drop_eq_nil_of_le (by omega), List.take_of_length_le (by omega)]; simp
    rw [e]
    refine .stop (by simp) (fun D k => ?_)
    refine (tu_step R rows.length v rows.length i rows D k).trans ?_
    simp (disch := omega) only [dF, cond_false]
  | succ m ih =>
    intro i rows hm hi hl hb
    have key := fun D k => tu_step R rows.length v rows.length i rows D k
    by_cases hlt : i < rows.length
    · obtain ⟨x, hx, hx2⟩ := allB_get hb hlt
      have e1 : IntKind.i64.wrap ((i : Int) + 1) = ((i + 1 : Nat) : Int) := wrap_add1 (by omega)
      simp (disch := omega) only [dT, cond_true, Bool.and_self, beq_self_eq_true, Int.toNat_natCast, Nat.zero_add, hx, List.getD_cons_zero, hx2, e1, Bool.and_true] at key
      have hs : [x].set 0 (AVal.int .u8 (smM (intOf x))) = subR (rows.getD i []) := by rw [hx]; rfl
      rw [hs] at key
      have ih2 := ih (i + 1) (rows.set i (subR (rows.getD i []))) (by rw [List.length_set]; omega) (by rw [List.length_set]; omega) (by rw [List.length_set]; omega) (allB_set hb _ _)
      rw [tuR_step hlt, List.length_set] at ih2
      exact .step key ih2
    · have e : tuR rows i = rows := by unfold tuR; rw [List.drop_eq_nil_of_le (by omega), List.take_of_length_le (by omega)]; simp
      rw [e]
      refine .stop (by simp) (fun D k => ?_)
      refine (tu_step R rows.length v rows.length i rows D k).trans ?_
      simp (disch := omega) only [dF, cond_false]
theorem tuSp_ok : SpOK (tuTurn tuR) 26 [1,5,10,11,12] [] [5] [] (tuSp tuR) := mkL_ok fun a h => by
  obtain ⟨q, n, v, rows, i⟩ := a
  obtain ⟨h0, h1, h2, h3, h4⟩ := h
  simp only at h0 h1 h2 h3 h4
  subst h0 h1
  exact ⟨_, _, _, _, fun k => rfl, tu_runs tuR v _ i rows (Nat.le_refl _) h2 h3 h4⟩
theorem layTu_ok : (layTu tuR).OK Tryz.prog := laySm_ok.loop1 (id := 3) (by kernel_rfl) (by kernel_rfl) (by kernel_rfl) tuSp_ok
def lowC (c : UInt8) : UInt8 := UInt8.ofNat (smM (c.toNat : Int)).toNat
def lowM (s : List UInt8) : List UInt8 := s.map lowC
theorem tuR_all (s : List UInt8) : tuR (s.map fun c => [AVal.int IntKind.u8 (c.toNat : Int)]) 0 = s.map fun c => [AVal.int IntKind.u8 (smM (c.toNat : Int))] := by
  unfold tuR
  rw [List.take_zero, List.nil_append, List.drop_zero, List.map_map]
  rfl
theorem lower_call (s : List UInt8) (hs : s.length ≤ 1099511627776) (k : Out → Ans) : iFun Tryz.prog ((layTu tuR).hd Tryz.prog) (layTu tuR).fhs 0 70 [.str s] [] k = k (.ret (.str (lowM s)) []) := by
  refine (lower_fun tuR s k).trans ?_
  have hb : allB (s.map fun c => [AVal.int IntKind.u8 (c.toNat : Int)]) = true := by
    unfold allB
    rw [List.all_eq_true]
    intro r hr
    obtain ⟨c, _, rfl⟩ := List.mem_map.1 hr
    rfl
  have hl : (s.map fun c => [AVal.int IntKind.u8 (c.toNat : Int)]).length = s.length := List.length_map _
  refine (congrArg (fun c => cond c _ none) (tst_true ⟨⟨by rw [hl]; rfl, by rw [hl], Nat.zero_le _, by rw [hl]; exact hs, hb⟩, .refl _, rfl, rfl⟩)).trans ((cond_true _ _).trans ?_)
  have e0 : Int.toNat 0 = 0 := rfl
  rw [e0, tuR_all]
  have hm : ownL (AVal.own 0 0 s.length 0 false) = s.length := rfl
  rw [hm, List.drop_zero]
  have ht : (s.map fun c => [AVal.int IntKind.u8 (smM (c.toNat : Int))]).take s.length = s.map fun c => [AVal.int IntKind.u8 (smM (c.toNat : Int))] := List.take_of_length_le (by simp)
  rw [ht, dT (by simp)]
  have ha : ((s.map fun c => [AVal.int IntKind.u8 (smM (c.toNat : Int))]).all fun (r : List AVal) => match r with | [v] => isInt IntKind.u8 v | x => false) = true := by
    rw [List.all_eq_true]
    intro r hr
    obtain ⟨c, _, rfl⟩ := List.mem_map.1 hr
    rfl
  rw [ha, List.map_map]
  rfl
def lowTold : FSp := mkFS [.s] (fun xs => decide ((aS xs 0).length ≤ 1099511627776)) (fun xs k => k (.ret (.str (lowM (aS xs 0))) []))
theorem lowTold_ok : ∀ xs H k out, lowTold xs H k = some out → ∃ o, CallOK Tryz.prog 70 xs H o ∧ k o = some out := mkFS_ok fun ys xs e h => by
  obtain ⟨s, rfl⟩ : ∃ s, xs = [.str s] := ⟨_, e⟩
  have h2 : s.length ≤ 1099511627776 := of_decide_eq_true h
  exact ⟨_, fun k => rfl, layTu_ok.callF (G := []) rfl (fun k => lower_call s h2 k)⟩
end Go.Mu
set_option linter.unusedVariables false
set_option linter.unusedSimpArgs false
set_option maxRecDepth 100000
namespace Go.Mu
open Go Go.Proofs
/- ContainsFunc of octets, by a closure -/
def scP (c : UInt8) : Bool := bif bif (c.toNat : Int) == 47 then true else (c.toNat : Int) == 63 then true else (c.toNat : Int) == 35
def sfP (c : UInt8) : Bool := decide (ibM [60, 62, 38, 39, 34, 47, 33, 45, 96, 10, 13, 0] (c.toNat : Int) ≥ 0)
def cpP (c : UInt8) : Bool :=
  bif bif !bif decide (IntKind.u8.wrap ((BitVec.ofInt 8 (c.toNat : Int) ||| BitVec.ofInt 8 32).toNat : Int) ≥ 97) then decide (IntKind.u8.wrap ((BitVec.ofInt 8 (c.toNat : Int) ||| BitVec.ofInt 8 32).toNat : Int) ≤ 122) else false then
      bif decide ((c.toNat : Int) < 48) then true else decide ((c.toNat : Int) > 57)
    else false then decide (ibM [32, 46, 44, 37, 35, 43, 45] (c.toNat : Int) < 0) else false
def scFH : FH := .of [(2, loopSpec 19 [0,1,7,8] [] [4] [] (idxSp wfB decB scP 69))]
theorem sc_step (full : Bool) (l : List UInt8) (i : Nat) (H : Heap) (D : List (FuncId × List AVal)) (k : Kont) : lturn Tryz.prog layY1 scFH 97 2 [0,1,7,8] [] [4] [] (stL 19 [0,1,7,8] [encL full byteRow 0 l, .func 69 [], .int .i64 l.length, .int .i64 i] [] [] H D) k =
    cond (decide ((i : Int) < l.length)) (cond (decide ((i : Int) < l.length)) (cond (scP (l.getD (i : Int).toNat 0)) (k .ret (stL 19 [4] [.int .i64 i] [] [] H D)) (k .normal (stL 19 [0,1,7,8] [encL full byteRow 0 l, .func 69 [], .int .i64 l.length, .int .i64 (IntKind.i64.wrap ((i : Int) + 1))] [] [] H D))) none)
      (k (.exit 0) (stL 19 [4] [.undef] [] [] H D)) := by kernel_rfl
noncomputable def lay_sc : Lay := layY1.addL 97 scFH
theorem lay_sc_ok : lay_sc.OK Tryz.prog := layY1_ok.loop1 (id := 2) (by kernel_rfl) (by kernel_rfl) (by kernel_rfl) (idxSp_ok wfB_sub sc_step)
def sfFH : FH := .of [(2, loopSpec 19 [0,1,7,8] [] [4] [] (idxSp wfB decB sfP 75))]
theorem sf_step (full : Bool) (l : List UInt8) (i : Nat) (H : Heap) (D : List (FuncId × List AVal)) (k : Kont) : lturn Tryz.prog layY1 sfFH 97 2 [0,1,7,8] [] [4] [] (stL 19 [0,1,7,8] [encL full byteRow 0 l, .func 75 [], .int .i64 l.length, .int .i64 i] [] [] H D) k =
    cond (decide ((i : Int) < l.length)) (cond (decide ((i : Int) < l.length)) (cond (sfP (l.getD (i : Int).toNat 0)) (k .ret (stL 19 [4] [.int .i64 i] [] [] H D)) (k .normal (stL 19 [0,1,7,8] [encL full byteRow 0 l, .func 75 [], .int .i64 l.length, .int .i64 (IntKind.i64.wrap ((i : Int) + 1))] [] [] H D))) none)
      (k (.exit 0) (stL 19 [4] [.undef] [] [] H D)) := by kernel_rfl
noncomputable def lay_sf : Lay := layY1.addL 97 sfFH
theorem lay_sf_ok : lay_sf.OK Tryz.prog := layY1_ok.loop1 (id := 2) (by kernel_rfl) (by kernel_rfl) (by kernel_rfl) (idxSp_ok wfB_sub sf_step)
def cpFH : FH := .of [(2, loopSpec 19 [0,1,7,8] [] [4] [] (idxSp wfB decB cpP 77))]
theorem cp_step (full : Bool) (l : List UInt8) (i : Nat) (H : Heap) (D : List (FuncId × List AVal)) (k : Kont) : lturn Tryz.prog layY1 cpFH 97 2 [0,1,7,8] [] [4] [] (stL 19 [0,1,7,8] [encL full byteRow 0 l, .func 77 [], .int .i64 l.length, .int .i64 i] [] [] H D) k =
    cond (decide ((i : Int) < l.length)) (cond (decide ((i : Int) < l.length)) (cond (cpP (l.getD (i : Int).toNat 0)) (k .ret (stL 19 [4] [.int .i64 i] [] [] H D)) (k .normal (stL 19 [0,1,7,8] [encL full byteRow 0 l, .func 77 [], .int .i64 l.length, .int .i64 (IntKind.i64.wrap ((i : Int) + 1))] [] [] H D))) none)
      (k (.exit 0) (stL 19 [4] [.undef] [] [] H D)) := by kernel_rfl
noncomputable def lay_cp : Lay := layY1.addL 97 cpFH
theorem lay_cp_ok : lay_cp.OK Tryz.prog := layY1_ok.loop1 (id := 2) (by kernel_rfl) (by kernel_rfl) (by kernel_rfl) (idxSp_ok wfB_sub cp_step)
noncomputable def lay_sc2 : Lay := lay_sc.addF 70 lowTold
theorem lay_sc2_ok : lay_sc2.OK Tryz.prog := lay_sc_ok.addF lowTold_ok
theorem scheme_fun (s : List UInt8) (k : Out → Ans) (n0 : Int) (e_n0 : n0 = (ibM s 58))
  (c1 : Bool) (e_c1 : c1 = (decide (0 ≤ n0) && decide (n0 ≤ (↑s.length : Int))))
  (c2 : Bool) (e_c2 : c2 = (decide (n0 < 0)))
  (l3 : List UInt8) (e_l3 : l3 = (List.drop (Int.toNat 0) (List.take n0.toNat s)))
  (m4 : Nat) (e_m4 : m4 = (l3.length))
  (m5 : Nat) (e_m5 : m5 = (lenL
    (AVal.list false m4 fun (i : Nat) =>
      [AVal.int IntKind.u8 (↑((List.drop (Int.toNat 0) (List.take (ibM s 58).toNat s)).getD i 0).toNat : Int)]))) : iFun Tryz.prog (lay_sc2.hd Tryz.prog) lay_sc2.fhs 0 36 [.str s] [] k = (
  bif c1 || !!c2 then
    bif
        wfL
                    (fun (r : List AVal) =>
                      match r with
                      | [AVal.int IntKind.u8 n] => decide (0 ≤ n) && decide (n < 256)
                      | x => false)
                    (AVal.list false m4 fun (i : Nat) =>
                      [AVal.int IntKind.u8
                          (↑((List.drop (Int.toNat 0) (List.take (ibM s 58).toNat s)).getD i 0).toNat : Int)]) &&
                  true &&
                (↑m4 : Int) == (↑m5 : Int) &&
              true &&
            decide (m5 ≤ 1099511627776) &&
          true then
      bif
          (decL (fun (r : List AVal) => byteOf r)
                (AVal.list false m4 fun (i : Nat) =>
                  [AVal.int IntKind.u8
                      (↑((List.drop (Int.toNat 0) (List.take (ibM s 58).toNat s)).getD i 0).toNat : Int)])).any
            scP then
        bif bif c2 then true else true then k (Out.ret (AVal.tuple [AVal.str [], AVal.bool false]) [])
        else
          bif c1 then
            bif decide (m4 ≤ 1099511627776) then k (Out.ret (AVal.tuple [AVal.str (lowM l3), AVal.bool true]) [])
            else none
          else none
      else
        bif bif c2 then true else false then k (Out.ret (AVal.tuple [AVal.str [], AVal.bool false]) [])
        else
          bif c1 then
            bif decide (m4 ≤ 1099511627776) then k (Out.ret (AVal.tuple [AVal.str (lowM l3), AVal.bool true]) [])
            else none
          else none
    else none
  else none) := by
  subst e_n0 e_c1 e_c2 e_l3 e_m4 e_m5
  kernel_rfl
theorem safe_fun (s : List UInt8) (k : Out → Ans) : iFun Tryz.prog (lay_sf.hd Tryz.prog) lay_sf.fhs 0 40 [.str s] [] k = (
 let m0 : Nat := lenL (AVal.list false s.length fun (i : Nat) => [AVal.int IntKind.u8 (↑(s.getD i 0).toNat : Int)]);
  bif
  wfL
  (fun (r : List AVal) =>
  match r with
  | [AVal.int IntKind.u8 n] => decide (0 ≤ n) && decide (n < 256)
  | x => false)
  (AVal.list false s.length fun (i : Nat) => [AVal.int IntKind.u8 (↑(s.getD i 0).toNat : Int)]) &&
  true &&
  (↑s.length : Int) == (↑m0 : Int) &&
  true &&
  decide (m0 ≤ 1099511627776) &&
  true then
  bif
  (decL (fun (r : List AVal) => byteOf r)
  (AVal.list false s.length fun (i : Nat) => [AVal.int IntKind.u8 (↑(s.getD i 0).toNat : Int)])).any
  sfP then
  k (Out.ret (AVal.bool false) [])
  else k (Out.ret (AVal.bool true) [])
  else none) := by kernel_rfl
noncomputable def lay_cp2 : Lay := (lay_cp.addF 70 lowTold).addF 125 idxTold
theorem lay_cp2_ok : lay_cp2.OK Tryz.prog := (lay_cp_ok.addF lowTold_ok).addF idxTold_ok
theorem plain_fun (s : List UInt8) (k : Out → Ans) (c0 : Bool) (e_c0 : c0 = (decide ((lowM s).length < 4294967281)))
  (m1 : Nat) (e_m1 : m1 = (lenL (AVal.list false (lowM s).length fun (i : Nat) => [AVal.int IntKind.u8 (↑((lowM s).getD i 0).toNat : Int)])))
  (c2 : Bool) (e_c2 : c2 = (bif !decide (Lib.index (lowM s) [101, 120, 112, 114, 101, 115, 115, 105, 111, 110] ≥ 0) then
    !decide (Lib.index (lowM s) [117, 114, 108] ≥ 0)
  else false)) : iFun Tryz.prog (lay_cp2.hd Tryz.prog) lay_cp2.fhs 0 41 [.str s] [] k = (
  bif decide ((↑s.length : Int) > 4096) then k (Out.ret (AVal.bool false) [])
  else
  bif decide (s.length ≤ 1099511627776) then
  bif c0 then
  bif c0 then
  bif
  wfL
  (fun (r : List AVal) =>
  match r with
  | [AVal.int IntKind.u8 n] => decide (0 ≤ n) && decide (n < 256)
  | x => false)
  (AVal.list false (lowM s).length fun (i : Nat) =>
  [AVal.int IntKind.u8 (↑((lowM s).getD i 0).toNat : Int)]) &&
  true &&
  (↑(lowM s).length : Int) == (↑m1 : Int) &&
  true &&
  decide (m1 ≤ 1099511627776) &&
  true then
  bif
  (decL (fun (r : List AVal) => byteOf r)
  (AVal.list false (lowM s).length fun (i : Nat) =>
  [AVal.int IntKind.u8 (↑((lowM s).getD i 0).toNat : Int)])).any
  cpP then
  k (Out.ret (AVal.bool (bif c2 then false else false)) [])
  else k (Out.ret (AVal.bool (bif c2 then true else false)) [])
  else none
  else none
  else none
  else none) := by
  subst e_c0 e_m1 e_c2
  kernel_rfl
theorem ixG {l : List UInt8} (hl : l.length ≤ 1099511627776) : (wfL (fun (r : List AVal) => match r with | [AVal.int IntKind.u8 n] => decide (0 ≤ n) && decide (n < 256) | x => false) (AVal.list false l.length fun (i : Nat) => [AVal.int IntKind.u8 ((l.getD i 0).toNat : Int)]) && true && ((l.length : Int) == ((lenL (AVal.list false l.length fun (i : Nat) => [AVal.int IntKind.u8 ((l.getD i 0).toNat : Int)]) : Nat) : Int)) && true && decide (lenL (AVal.list false l.length fun (i : Nat) => [AVal.int IntKind.u8 ((l.getD i 0).toNat : Int)]) ≤ 1099511627776) && true) = true := by
  show (wfL wfB (encL false byteRow 0 l) && true && ((l.length : Int) == l.length) && true && decide (l.length ≤ 1099511627776) && true) = true
  rw [wfL_encL wfB_enc, dT hl]
  simp
def schemeM (s : List UInt8) : List UInt8 × Bool := bif decide (ibM s 58 < 0) || (s.take (ibM s 58).toNat).any scP then ([], false) else (lowM (s.take (ibM s 58).toNat), true)
def safeM (s : List UInt8) : Bool := !s.any sfP
def plainM (s : List UInt8) : Bool := decide (s.length ≤ 4096) && (!decide (Lib.index (lowM s) [101, 120, 112, 114, 101, 115, 115, 105, 111, 110] ≥ 0) && !decide (Lib.index (lowM s) [117, 114, 108] ≥ 0) && !(lowM s).any cpP)
theorem ib_hi (s : List UInt8) (n : Int) : ibM s n < s.length := by
  unfold ibM
  have h := Lib.indexByte_ge s (UInt8.ofNat n.toNat)
  generalize hx : Lib.indexByte s (UInt8.ofNat n.toNat) = x at h
  have : ∀ (l : List UInt8) (c : UInt8), Lib.indexByte l c < l.length := by
    intro l c
    induction l with
    | nil => show (-1 : Int) < 0; decide
    | cons b l ih =>
      rw [Lib.indexByte, List.length_cons]
      split
      · omega
      · split <;> omega
  rw [← hx]; exact this s _
theorem scheme_call (s : List UInt8) (hs : s.length ≤ 1099511627776) (k : Out → Ans) : iFun Tryz.prog (lay_sc2.hd Tryz.prog) lay_sc2.fhs 0 36 [.str s] [] k = k (.ret (.tuple [.str (schemeM s).1, .bool (schemeM s).2]) []) := by
  refine (scheme_fun s k _ rfl _ rfl _ rfl _ rfl _ rfl _ rfl).trans ?_
  have hlt := ib_hi s 58
  have hl : (List.drop (Int.toNat 0) (List.take (ibM s 58).toNat s)).length ≤ 1099511627776 := by simp; omega
  have e0 : List.drop (Int.toNat 0) (List.take (ibM s 58).toNat s) = List.take (ibM s 58).toNat s := rfl
  unfold schemeM
  by_cases h : ibM s 58 < 0
  · rw [dT h, dF (show ¬ 0 ≤ ibM s 58 by omega)]
    simp only [Bool.false_and, Bool.not_true, Bool.not_false, Bool.or_true, Bool.true_or, cond_true]
    refine (congrArg (fun c => cond c _ none) (ixG hl)).trans ?_
    simp only [cond_true]
    generalize List.any _ _ = b
    cases b <;> rfl
  · rw [dF h, dT (show 0 ≤ ibM s 58 by omega), dT (show ibM s 58 ≤ (s.length : Int) by omega)]
    simp only [Bool.and_self, Bool.true_or, cond_true, Bool.false_or]
    refine (congrArg (fun c => cond c _ none) (ixG hl)).trans ?_
    have hl2 : (List.take (ibM s 58).toNat s).length ≤ 1099511627776 := hl
    simp only [cond_true, bytes_back, e0, dT hl2]
    cases (List.take (ibM s 58).toNat s).any scP <;> rfl
def schTold : FSp := mkFS [.s] (fun xs => decide ((aS xs 0).length ≤ 1099511627776)) (fun xs k => k (.ret (.tuple [.str (schemeM (aS xs 0)).1, .bool (schemeM (aS xs 0)).2]) []))
theorem schTold_ok : ∀ xs H k out, schTold xs H k = some out → ∃ o, CallOK Tryz.prog 36 xs H o ∧ k o = some out := mkFS_ok fun ys xs e h => by
  obtain ⟨s, rfl⟩ : ∃ s, xs = [.str s] := ⟨_, e⟩
  exact ⟨_, fun k => rfl, lay_sc2_ok.callF (G := []) rfl (fun k => scheme_call s (of_decide_eq_true h) k)⟩
theorem safe_call (s : List UInt8) (hs : s.length ≤ 1099511627776) (k : Out → Ans) : iFun Tryz.prog (lay_sf.hd Tryz.prog) lay_sf.fhs 0 40 [.str s] [] k = k (.ret (.bool (safeM s)) []) := by
  refine (safe_fun s k).trans ?_
  refine (congrArg (fun c => cond c _ none) (ixG hs)).trans ?_
  simp only [cond_true, bytes_back]
  unfold safeM
  cases s.any sfP <;> rfl
def safTold : FSp := mkFS [.s] (fun xs => decide ((aS xs 0).length ≤ 1099511627776)) (fun xs k => k (.ret (.bool (safeM (aS xs 0))) []))
theorem safTold_ok : ∀ xs H k out, safTold xs H k = some out → ∃ o, CallOK Tryz.prog 40 xs H o ∧ k o = some out := mkFS_ok fun ys xs e h => by
  obtain ⟨s, rfl⟩ : ∃ s, xs = [.str s] := ⟨_, e⟩
  exact ⟨_, fun k => rfl, lay_sf_ok.callF (G := []) rfl (fun k => safe_call s (of_decide_eq_true h) k)⟩
theorem plain_call (s : List UInt8) (hs : s.length ≤ 1099511627776) (k : Out → Ans) : iFun Tryz.prog (lay_cp2.hd Tryz.prog) lay_cp2.fhs 0 41 [.str s] [] k = k (.ret (.bool (plainM s)) []) := by
  refine (plain_fun s k _ rfl _ rfl _ rfl).trans ?_
  have hl : (lowM s).length = s.length := List.length_map _
  unfold plainM
  by_cases h : s.length ≤ 4096
  · rw [dF (show ¬ (s.length : Int) > 4096 by omega), dT hs, dT (show (lowM s).length < 4294967281 by omega), dT h]
    simp only [cond_false, cond_true, Bool.true_and]
    refine (congrArg (fun c => cond c _ none) (ixG (by omega))).trans ?_
    simp only [cond_true, bytes_back, bif_and]
    generalize (!decide (Lib.index (lowM s) [101, 120, 112, 114, 101, 115, 115, 105, 111, 110] ≥ 0) && !decide (Lib.index (lowM s) [117, 114, 108] ≥ 0)) = b
    cases (lowM s).any cpP <;> cases b <;> rfl
  · rw [dT (show (s.length : Int) > 4096 by omega), dF h]; rfl
def plaTold : FSp := mkFS [.s] (fun xs => decide ((aS xs 0).length ≤ 1099511627776)) (fun xs k => k (.ret (.bool (plainM (aS xs 0))) []))
theorem plaTold_ok : ∀ xs H k out, plaTold xs H k = some out → ∃ o, CallOK Tryz.prog 41 xs H o ∧ k o = some out := mkFS_ok fun ys xs e h => by
  obtain ⟨s, rfl⟩ : ∃ s, xs = [.str s] := ⟨_, e⟩
  exact ⟨_, fun k => rfl, lay_cp2_ok.callF (G := []) rfl (fun k => plain_call s (of_decide_eq_true h) k)⟩
end Go.Mu
set_option linter.unusedVariables false
set_option linter.unusedSimpArgs false
set_option maxRecDepth 100000
namespace Go.Mu
open Go Go.Proofs
abbrev b0P (ad b : AVal) (O : Obj) : Heap := [.var [ad, b], .note bdT 2, O, .note bT 0]
structure b0H where
  x : Bld
abbrev b0H.heap (x : b0H) : Heap := b0P x.x.ad x.x.b (.arr 1 x.x.rows x.x.v)
def b0H.dec (H : Heap) : b0H := ⟨bld H 0 2⟩
theorem b0_ws0 (O : Obj) (k : Out → Ans) : iFun Tryz.prog (layW0.hd Tryz.prog) layW0.fhs 0 49 [.ptr (.hp 0) 0, .str []] (b0P .nilptr .nilX O) k = (
  k
  (Out.ret (AVal.tuple [AVal.int IntKind.i64 0, AVal.nilIface])
      [Obj.var [AVal.ptr (Oid.hp 0) 0, AVal.nilX], Obj.note 55 2, O, Obj.note 5 0])) := by kernel_rfl
theorem b0_ws1 (O : Obj) (k : Out → Ans) : iFun Tryz.prog (layW0.hd Tryz.prog) layW0.fhs 0 49 [.ptr (.hp 0) 0, .str []] (b0P (.ptr (.hp 0) 0) .nilX O) k = (
  k
  (Out.ret (AVal.tuple [AVal.int IntKind.i64 0, AVal.nilIface])
      [Obj.var [AVal.ptr (Oid.hp 0) 0, AVal.nilX], Obj.note 55 2, O, Obj.note 5 0])) := by kernel_rfl
theorem b0_ws2 (l : List UInt8) (n v : Nat) (rows : List (List AVal)) (k : Out → Ans) : iFun Tryz.prog (Lay.nil.hd Tryz.prog) Lay.nil.fhs 0 49 [.ptr (.hp 0) 0, .str l] (b0P .nilptr (.own 2 0 n v false) (.arr 1 rows v)) k = (
 let m0 : Nat := n + (List.map (fun (c : UInt8) => [AVal.int IntKind.u8 (↑c.toNat : Int)]) l).length;
 let m1 : Nat := v + 1;
  bif v == v && n == rows.length && decide ((2 * m0 + 1000) * 1 ≤ 281474976710656) && true then
  k
  (Out.ret (AVal.tuple [AVal.int IntKind.i64 (↑l.length : Int), AVal.nilIface])
  [Obj.var [AVal.ptr (Oid.hp 0) 0, AVal.own 2 0 m0 m1 false], Obj.note 55 2,
  Obj.arr 1 (rows.append (List.map (fun (c : UInt8) => [AVal.int IntKind.u8 (↑c.toNat : Int)]) l)) m1,
  Obj.note 5 0])
  else none) := by kernel_rfl
theorem b0_ws3 (l : List UInt8) (n v : Nat) (rows : List (List AVal)) (k : Out → Ans) : iFun Tryz.prog (Lay.nil.hd Tryz.prog) Lay.nil.fhs 0 49 [.ptr (.hp 0) 0, .str l] (b0P (.ptr (.hp 0) 0) (.own 2 0 n v false) (.arr 1 rows v)) k = (
 let m0 : Nat := n + (List.map (fun (c : UInt8) => [AVal.int IntKind.u8 (↑c.toNat : Int)]) l).length;
 let m1 : Nat := v + 1;
  bif v == v && n == rows.length && decide ((2 * m0 + 1000) * 1 ≤ 281474976710656) && true then
  k
  (Out.ret (AVal.tuple [AVal.int IntKind.i64 (↑l.length : Int), AVal.nilIface])
  [Obj.var [AVal.ptr (Oid.hp 0) 0, AVal.own 2 0 m0 m1 false], Obj.note 55 2,
  Obj.arr 1 (rows.append (List.map (fun (c : UInt8) => [AVal.int IntKind.u8 (↑c.toNat : Int)]) l)) m1,
  Obj.note 5 0])
  else none) := by kernel_rfl
theorem b0_wb2 (c : UInt8) (n v : Nat) (rows : List (List AVal)) (k : Out → Ans) : iFun Tryz.prog (Lay.nil.hd Tryz.prog) Lay.nil.fhs 0 50 [.ptr (.hp 0) 0, .int .u8 c.toNat] (b0P .nilptr (.own 2 0 n v false) (.arr 1 rows v)) k = (
 let m0 : Nat := n + 1;
 let m1 : Nat := v + 1;
  bif v == v && n == rows.length && decide ((2 * m0 + 1000) * 1 ≤ 281474976710656) && true then
  k
  (Out.ret AVal.nilIface
  [Obj.var [AVal.ptr (Oid.hp 0) 0, AVal.own 2 0 m0 m1 false], Obj.note 55 2,
  Obj.arr 1 (rows.append [[AVal.int IntKind.u8 (↑c.toNat : Int)]]) m1, Obj.note 5 0])
  else none) := by kernel_rfl
theorem b0_wb3 (c : UInt8) (n v : Nat) (rows : List (List AVal)) (k : Out → Ans) : iFun Tryz.prog (Lay.nil.hd Tryz.prog) Lay.nil.fhs 0 50 [.ptr (.hp 0) 0, .int .u8 c.toNat] (b0P (.ptr (.hp 0) 0) (.own 2 0 n v false) (.arr 1 rows v)) k = (
 let m0 : Nat := n + 1;
 let m1 : Nat := v + 1;
  bif v == v && n == rows.length && decide ((2 * m0 + 1000) * 1 ≤ 281474976710656) && true then
  k
  (Out.ret AVal.nilIface
  [Obj.var [AVal.ptr (Oid.hp 0) 0, AVal.own 2 0 m0 m1 false], Obj.note 55 2,
  Obj.arr 1 (rows.append [[AVal.int IntKind.u8 (↑c.toNat : Int)]]) m1, Obj.note 5 0])
  else none) := by kernel_rfl
theorem b0_ws (x : b0H) (l : List UInt8) (hx : x.x.can 0 2) (h : x.x.t.length + l.length ≤ 1099511627776) : CallOK Tryz.prog 49 [.ptr (.hp 0) 0, .str l] x.heap (.ret (.tuple [.int .i64 l.length, .nilIface]) ({ x with x := x.x.add 0 2 l } : b0H).heap) := by
  obtain ⟨⟨ad, b, rows, v⟩⟩ := x
  obtain ⟨h1, h2, h3⟩ := hx
  unfold Bld.add Bld.t
  simp only [Bld.t] at h h1 h2 h3 ⊢
  generalize bytesOf rows = text at *
  subst h2 h3
  cases text with
  | nil =>
    cases l with
    | nil =>
      refine layW0_ok.call (fun k => ?_)
      rcases h1 with rfl | rfl
      · exact b0_ws0 (.arr 1 [] v) k
      · exact b0_ws1 (.arr 1 [] v) k
    | cons c t =>
      refine relAt_ok (i := 0) (c := 1) (j := 2) ?_
      simp only [List.length_nil] at h
      refine Lay.nil_ok.call (fun k => ?_)
      have e3 : wsV [] (c :: t) v = v + 1 + 1 := rfl
      rw [e3]
      generalize hl : c :: t = l at *
      have e4 : bfB 2 ([] ++ l) (v + 1 + 1) = .own 2 0 l.length (v + 1 + 1) false := by rw [← hl]; rfl
      rw [e4]
      rcases h1 with rfl | rfl
      · rw [show relAt 0 1 2 (b0P .nilptr (bfB 2 [] v) (.arr 1 (([] : List UInt8).map byteRow) v)) = b0P .nilptr (.own 2 0 0 (v + 1) false) (.arr 1 [] (v + 1)) from rfl, b0_ws2]
        simp (disch := omega) only [e_map, List.length_map, dT, beq_self_eq_true, Bool.and_true, cond_true, List.append_eq, List.nil_append, Nat.zero_add, List.length_nil, Nat.mul_one, List.map_nil]
      · rw [show relAt 0 1 2 (b0P (.ptr (.hp 0) 0) (bfB 2 [] v) (.arr 1 (([] : List UInt8).map byteRow) v)) = b0P (.ptr (.hp 0) 0) (.own 2 0 0 (v + 1) false) (.arr 1 [] (v + 1)) from rfl, b0_ws3]
        simp (disch := omega) only [e_map, List.length_map, dT, beq_self_eq_true, Bool.and_true, cond_true, List.append_eq, List.nil_append, Nat.zero_add, List.length_nil, Nat.mul_one, List.map_nil]
  | cons c t =>
    refine Lay.nil_ok.call (fun k => ?_)
    have e3 : wsV (c :: t) l v = v + 1 := rfl
    have e4 : bfB 2 ((c :: t) ++ l) (v + 1) = .own 2 0 ((c :: t) ++ l).length (v + 1) false := rfl
    have e5 : bfB 2 (c :: t) v = .own 2 0 (c :: t).length v false := rfl
    rw [e3, e4, e5]
    generalize c :: t = m at *
    rcases h1 with rfl | rfl
    · rw [b0_ws2]
      simp (disch := omega) only [e_map, List.length_map, dT, beq_self_eq_true, Bool.and_true, cond_true, List.append_eq, List.length_append, Nat.mul_one]
    · rw [b0_ws3]
      simp (disch := omega) only [e_map, List.length_map, dT, beq_self_eq_true, Bool.and_true, cond_true, List.append_eq, List.length_append, Nat.mul_one]
theorem b0_wb (x : b0H) (c : UInt8) (hx : x.x.can 0 2) (h : x.x.t.length ≤ 1073741824) : CallOK Tryz.prog 50 [.ptr (.hp 0) 0, .int .u8 c.toNat] x.heap (.ret .nilIface ({ x with x := x.x.add 0 2 [c] } : b0H).heap) := by
  obtain ⟨⟨ad, b, rows, v⟩⟩ := x
  obtain ⟨h1, h2, h3⟩ := hx
  unfold Bld.add Bld.t
  simp only [Bld.t] at h h1 h2 h3 ⊢
  generalize bytesOf rows = text at *
  subst h2 h3
  have e6 : [c].map byteRow = [[.int .u8 c.toNat]] := rfl
  rw [e6]
  cases text with
  | nil =>
    refine relAt_ok (i := 0) (c := 1) (j := 2) ?_
    refine Lay.nil_ok.call (fun k => ?_)
    have e3 : wsV [] [c] v = v + 1 + 1 := rfl
    have e4 : bfB 2 ([] ++ [c]) (v + 1 + 1) = .own 2 0 1 (v + 1 + 1) false := rfl
    rw [e3, e4]
    rcases h1 with rfl | rfl
    · rw [show relAt 0 1 2 (b0P .nilptr (bfB 2 [] v) (.arr 1 (([] : List UInt8).map byteRow) v)) = b0P .nilptr (.own 2 0 0 (v + 1) false) (.arr 1 [] (v + 1)) from rfl, b0_wb2]
      simp only [beq_self_eq_true]
      rfl
    · rw [show relAt 0 1 2 (b0P (.ptr (.hp 0) 0) (bfB 2 [] v) (.arr 1 (([] : List UInt8).map byteRow) v)) = b0P (.ptr (.hp 0) 0) (.own 2 0 0 (v + 1) false) (.arr 1 [] (v + 1)) from rfl, b0_wb3]
      simp only [beq_self_eq_true]
      rfl
  | cons d t =>
    refine Lay.nil_ok.call (fun k => ?_)
    have e3 : wsV (d :: t) [c] v = v + 1 := rfl
    have e4 : bfB 2 ((d :: t) ++ [c]) (v + 1) = .own 2 0 ((d :: t) ++ [c]).length (v + 1) false := rfl
    have e5 : bfB 2 (d :: t) v = .own 2 0 (d :: t).length v false := rfl
    rw [e3, e4, e5]
    generalize d :: t = m at *
    rcases h1 with rfl | rfl
    · rw [b0_wb2]
      simp (disch := omega) only [e_map, List.length_map, dT, beq_self_eq_true, Bool.and_true, cond_true, List.append_eq, List.length_append, Nat.mul_one, List.length_cons, List.length_nil]
    · rw [b0_wb3]
      simp (disch := omega) only [e_map, List.length_map, dT, beq_self_eq_true, Bool.and_true, cond_true, List.append_eq, List.length_append, Nat.mul_one, List.length_cons, List.length_nil]

theorem b0_str (x : b0H) (hx : x.x.can 0 2) (h : x.x.t.length ≤ 1099511627776) : CallOK Tryz.prog 51 [.ptr (.hp 0) 0] x.heap (.ret (.str x.x.t) ({ x with x := x.x.dead } : b0H).heap) := by
  obtain ⟨⟨ad, b, rows, v⟩⟩ := x
  obtain ⟨h1, h2, h3⟩ := hx
  unfold Bld.dead Bld.t
  simp only [Bld.t] at h h1 h2 h3 ⊢
  generalize bytesOf rows = text at *
  subst h2 h3
  cases text with
  | nil => exact str_ok0 (cs := [ad, .nilX]) rfl rfl
  | cons c t => exact str_ok (i := 0) (off := 0) (j := 2) (u := v) (cs := [ad, .own 2 0 (c :: t).length v false]) (l := c :: t) rfl rfl rfl rfl (by simp) h
noncomputable def b0_wsTold : FSp := mkF (fun xs H => (b0H.dec H, aS xs 1)) (fun x => x.1.x.can 0 2 ∧ x.1.x.t.length + x.2.length ≤ 1099511627776) (fun x => [.ptr (.hp 0) 0, .str x.2]) (fun x => x.1.heap) (fun x k => k (.ret (.tuple [.int .i64 x.2.length, .nilIface]) ({ x.1 with x := x.1.x.add 0 2 x.2 } : b0H).heap))
noncomputable def b0_wbTold : FSp := mkF (fun xs H => (b0H.dec H, UInt8.ofNat (aI xs 1).toNat)) (fun x => x.1.x.can 0 2 ∧ x.1.x.t.length ≤ 1073741824) (fun x => [.ptr (.hp 0) 0, .int .u8 x.2.toNat]) (fun x => x.1.heap) (fun x k => k (.ret .nilIface ({ x.1 with x := x.1.x.add 0 2 [x.2] } : b0H).heap))
noncomputable def b0_strTold : FSp := mkF (fun xs H => b0H.dec H) (fun x => x.x.can 0 2 ∧ x.x.t.length ≤ 1099511627776) (fun x => [.ptr (.hp 0) 0]) (fun x => x.heap) (fun x k => k (.ret (.str x.x.t) ({ x with x := x.x.dead } : b0H).heap))
noncomputable def b0_lay (L : Lay) : Lay := ((L.addF 49 b0_wsTold).addF 50 b0_wbTold).addF 51 b0_strTold
theorem b0_ok {L : Lay} (h : L.OK Tryz.prog) : (b0_lay L).OK Tryz.prog :=
  ((h.addF (mkF_ok fun x h => ⟨_, fun k => rfl, b0_ws x.1 x.2 h.1 h.2⟩)).addF (mkF_ok fun x h => ⟨_, fun k => rfl, b0_wb x.1 x.2 h.1 h.2⟩)).addF (mkF_ok fun x h => ⟨_, fun k => rfl, b0_str x h.1 h.2⟩)
end Go.Mu
set_option linter.unusedVariables false
set_option linter.unusedSimpArgs false
set_option maxRecDepth 100000
namespace Go.Mu
open Go Go.Proofs
end Go.Mu
set_option linter.unusedVariables false
set_option linter.unusedSimpArgs false
set_option maxRecDepth 100000
namespace Go.Mu
open Go Go.Proofs
noncomputable def layY6 (R : Int → List UInt8 → Int) : Lay := layY5.addL 85 (vaFH R)
theorem va_fun (R : Int → List UInt8 → Int) (s : List UInt8) (b : Bool) (k : Out → Ans) : iFun Tryz.prog ((layY6 R).hd Tryz.prog) (layY6 R).fhs 0 85 [.str s, .bool b] [] k = (
 let l0 : List UInt8 :=
  decL (fun (r : List AVal) => byteOf r)
  (AVal.list false s.length fun (i : Nat) => [AVal.int IntKind.u8 (↑(s.getD i 0).toNat : Int)]);
 let m1 : Nat := l0.length;
 let n2 : Int := (↑s.length : Int);
  bif b then k (Out.ret (AVal.int IntKind.i64 (unhexM s).fst) [])
  else
  bif
  tst
  ((Int.toNat 0 ≤ m1 ∧ m1 ≤ 1099511627776 ∧ n2 = (↑m1 : Int)) ∧
  SubTL
  [AVal.int IntKind.i64 0,
  AVal.list false s.length fun (i : Nat) => [AVal.int IntKind.u8 (↑(s.getD i 0).toNat : Int)],
  AVal.int IntKind.i64 n2, AVal.int IntKind.i64 0]
  [AVal.int IntKind.i64 0,
  AVal.list false m1 fun (i : Nat) =>
  [AVal.int IntKind.u8
  (↑((decL (fun (r : List AVal) => byteOf r)
  (AVal.list false s.length fun (i : Nat) =>
  [AVal.int IntKind.u8 (↑(s.getD i 0).toNat : Int)])).getD
  i 0).toNat :
  Int)],
  AVal.int IntKind.i64 n2, AVal.int IntKind.i64 (↑(Int.toNat 0) : Int)] ∧
  ([] : List (List AVal)) = [] ∧ ([] : Heap) = []) then
  k (Out.ret (AVal.int IntKind.i64 (R 0 (List.drop (Int.toNat 0) l0))) [])
  else none) := by kernel_rfl
/- Encode, whatever it tells -/
def Leaf (F : (Out → Ans) → Ans) : Prop := ∃ (t : List UInt8) (e : Int), t.length ≤ 4 ∧ ∀ k, F k = k (.ret (.tuple [.str t, .int .i64 e]) [])
theorem leaf_bif {b : Bool} {F G : (Out → Ans) → Ans} (h1 : Leaf F) (h2 : Leaf G) : Leaf (fun k => bif b then F k else G k) := by
  cases b
  · exact h2
  · exact h1
theorem leaf_k (t : List UInt8) (e : Int) (h : t.length ≤ 4) : Leaf (fun k => k (.ret (.tuple [.str t, .int .i64 e]) [])) := ⟨t, e, h, fun k => rfl⟩
theorem encode_leaf (n : Int) : Leaf (fun k => iFun Tryz.prog (Lay.nil.hd Tryz.prog) Lay.nil.fhs 0 86 [.int .i64 n] [] k) := by
  have e := funext (encode_fun n)
  rw [show (fun k => iFun Tryz.prog (Lay.nil.hd Tryz.prog) Lay.nil.fhs 0 86 [.int .i64 n] [] k) = _ from e]
  dsimp only
  repeat' (first | exact leaf_k _ _ (by simp) | refine leaf_bif ?_ ?_)
noncomputable def encS' (n : Int) : List UInt8 := Classical.choose (encode_leaf n)
noncomputable def encE (n : Int) : Int := Classical.choose (Classical.choose_spec (encode_leaf n))
theorem encS_len (n : Int) : (encS' n).length ≤ 4 := (Classical.choose_spec (Classical.choose_spec (encode_leaf n))).1
theorem encode_is (n : Int) (k : Out → Ans) : iFun Tryz.prog (Lay.nil.hd Tryz.prog) Lay.nil.fhs 0 86 [.int .i64 n] [] k = k (.ret (.tuple [.str (encS' n), .int .i64 (encE n)]) []) := (Classical.choose_spec (Classical.choose_spec (encode_leaf n))).2 k
noncomputable def encTold : FSp := mkFS [.i .i64] (fun _ => true) (fun xs k => k (.ret (.tuple [.str (encS' (aI xs 0)), .int .i64 (encE (aI xs 0))]) []))
theorem encTold_ok : ∀ xs H k out, encTold xs H k = some out → ∃ o, CallOK Tryz.prog 86 xs H o ∧ k o = some out := mkFS_ok fun ys xs e h => by
  obtain ⟨n, rfl⟩ : ∃ n, xs = [.int .i64 n] := ⟨_, e⟩
  exact ⟨_, fun k => rfl, Lay.nil_ok.callF (G := []) rfl (fun k => encode_is n k)⟩
def valA (s : List UInt8) (b : Bool) : Int := bif b then (unhexM s).1 else vaM 0 s
theorem layY6_ok : (layY6 vaM).OK Tryz.prog := layY5_ok.loop1 (id := 6) (by kernel_rfl) (by kernel_rfl) (by kernel_rfl) vaSp_ok
def valTold : FSp := mkFS [.s, .b] (fun xs => decide ((aS xs 0).length ≤ 1099511627776)) (fun xs k => k (.ret (.int .i64 (valA (aS xs 0) (aB xs 1))) []))
theorem valTold_ok : ∀ xs H k out, valTold xs H k = some out → ∃ o, CallOK Tryz.prog 85 xs H o ∧ k o = some out := mkFS_ok fun ys xs e h => by
  obtain ⟨s, b, rfl⟩ : ∃ s b, xs = [.str s, .bool b] := ⟨_, _, e⟩
  replace h : s.length ≤ 1099511627776 := of_decide_eq_true h
  refine ⟨_, fun k => rfl, layY6_ok.callF (G := []) rfl (fun k => (va_fun vaM s b k).trans ?_)⟩
  show _ = k (.ret (.int .i64 (valA s b)) [])
  unfold valA
  simp only [bytes_back]
  cases b with
  | true => rfl
  | false =>
    simp only [cond_false]
    refine (congrArg (fun c => cond c _ none) (tst_true ⟨⟨Nat.zero_le _, h, trivial⟩, .refl _, by trivial⟩)).trans ?_
    simp only [cond_true, Int.toNat_zero, List.drop_zero]
noncomputable def layY7 : Lay := (((Lay.nil.addF 67 ibTold).addF 84 numrTold).addF 85 valTold).addF 86 encTold
theorem layY7_ok : layY7.OK Tryz.prog := (((Lay.nil_ok.addF ibTold_ok).addF numrTold_ok).addF valTold_ok).addF encTold_ok
theorem rone_fun (s : List UInt8) (k : Out → Ans) (n0 : Int) (e_n0 : n0 = ((↑s.length : Int)))
  (c1 : Bool) (e_c1 : c1 = (s == []))
  (n2 : Int) (e_n2 : n2 = (if 16 < n0 then 16 else n0))
  (n3 : Int) (e_n3 : n3 = (ibM (List.drop (Int.toNat 0) (List.take n2.toNat s)) 59))
  (c4 : Bool) (e_c4 : c4 = (decide (1 ≤ n3) && decide (n3 ≤ n0)))
  (l5 : List UInt8) (e_l5 : l5 = (List.drop (Int.toNat 1) (List.take n3.toNat s)))
  (m6 : Nat) (e_m6 : m6 = (l5.length))
  (n7 : Int) (e_n7 : n7 = ((↑m6 : Int)))
  (c8 : Bool) (e_c8 : c8 = (decide (1 ≤ n7)))
  (c9 : Bool) (e_c9 : c9 = (decide (n7 ≥ 1)))
  (l10 : List UInt8) (e_l10 : l10 = (List.drop (Int.toNat 1) (List.take n7.toNat l5)))
  (m11 : Nat) (e_m11 : m11 = (l10.length))
  (n12 : Int) (e_n12 : n12 = ((↑m11 : Int)))
  (c13 : Bool) (e_c13 : c13 = (l10 == []))
  (c14 : Bool) (e_c14 : c14 = (!c13))
  (l15 : List UInt8) (e_l15 : l15 = (List.drop (Int.toNat 1) (List.take n12.toNat l10)))
  (c16 : Bool) (e_c16 : c16 = (decide (l15.length ≤ 1099511627776)))
  (n17 : Int) (e_n17 : n17 = (valA l15 true))
  (c18 : Bool) (e_c18 : c18 = (decide (m11 ≤ 1099511627776)))
  (n19 : Int) (e_n19 : n19 = (valA l10 false)) : iFun Tryz.prog (layY7.hd Tryz.prog) layY7.fhs 0 48 [.str s] [] k = (
  bif decide (0 < n0) || !!c1 then
  bif bif c1 then true else (↑(s.getD 0 0).toNat : Int) != 38 then
  k (Out.ret (AVal.tuple [AVal.str [], AVal.int IntKind.i64 0]) [])
  else
  bif decide (0 ≤ n2) && decide (n2 ≤ n0) then
  bif decide (n3 < 0) then k (Out.ret (AVal.tuple [AVal.str [], AVal.int IntKind.i64 0]) [])
  else
  bif c4 then
  bif l5 == [97, 109, 112] then
  k (Out.ret (AVal.tuple [AVal.str [38], AVal.int IntKind.i64 (IntKind.i64.wrap (n3 + 1))]) [])
  else
  bif l5 == [108, 116] then
  k (Out.ret (AVal.tuple [AVal.str [60], AVal.int IntKind.i64 (IntKind.i64.wrap (n3 + 1))]) [])
  else
  bif l5 == [103, 116] then
  k (Out.ret (AVal.tuple [AVal.str [62], AVal.int IntKind.i64 (IntKind.i64.wrap (n3 + 1))]) [])
  else
  bif l5 == [113, 117, 111, 116] then
  k (Out.ret (AVal.tuple [AVal.str [34], AVal.int IntKind.i64 (IntKind.i64.wrap (n3 + 1))]) [])
  else
  bif l5 == [97, 112, 111, 115] then
  k (Out.ret (AVal.tuple [AVal.str [39], AVal.int IntKind.i64 (IntKind.i64.wrap (n3 + 1))]) [])
  else
  bif c4 then
  bif c8 || !c9 then
  bif !bif c9 then List.drop (Int.toNat 0) (List.take (Int.toNat 1) l5) == [35] else false then
  bif decide (0 < n7) || true then
  bif decide (m6 ≤ 1099511627776) then
  k (Out.ret (AVal.tuple [AVal.str [], AVal.int IntKind.i64 0]) [])
  else none
  else none
  else
  bif c8 && decide (n7 ≤ n7) then
  bif decide (0 < n12) || !c14 then
  bif
  bif c14 then
  IntKind.u8.wrap
  (↑(BitVec.ofInt 8 (↑(l10.getD 0 0).toNat : Int) ||| BitVec.ofInt 8 32).toNat :
  Int) ==
  120
  else false then
  bif decide (1 ≤ n12) && decide (n12 ≤ n12) then
  bif c16 then
  bif bif l15 == [] then true else !numB l15 true then
  k (Out.ret (AVal.tuple [AVal.str [], AVal.int IntKind.i64 0]) [])
  else
  bif c16 then
  bif bif encE n17 != 0 then true else n17 == 0 then
  k
  (Out.ret
  (AVal.tuple
  [AVal.str [239, 191, 189],
  AVal.int IntKind.i64 (IntKind.i64.wrap (n3 + 1))])
  [])
  else
  k
  (Out.ret
  (AVal.tuple
  [AVal.str (encS' n17),
  AVal.int IntKind.i64 (IntKind.i64.wrap (n3 + 1))])
  [])
  else none
  else none
  else none
  else
  bif c18 then
  bif bif c13 then true else !numB l10 false then
  k (Out.ret (AVal.tuple [AVal.str [], AVal.int IntKind.i64 0]) [])
  else
  bif c18 then
  bif bif encE n19 != 0 then true else n19 == 0 then
  k
  (Out.ret
  (AVal.tuple
  [AVal.str [239, 191, 189],
  AVal.int IntKind.i64 (IntKind.i64.wrap (n3 + 1))])
  [])
  else
  k
  (Out.ret
  (AVal.tuple
  [AVal.str (encS' n19), AVal.int IntKind.i64 (IntKind.i64.wrap (n3 + 1))])
  [])
  else none
  else none
  else none
  else none
  else none
  else none
  else none
  else none
  else none) := by
  subst e_n0 e_c1 e_n2 e_n3 e_c4 e_l5 e_m6 e_n7 e_c8 e_c9 e_l10 e_m11 e_n12 e_c13 e_c14 e_l15 e_c16 e_n17 e_c18 e_n19
  kernel_rfl
end Go.Mu
set_option linter.unusedVariables false
set_option linter.unusedSimpArgs false
set_option maxRecDepth 100000
namespace Go.Mu
open Go Go.Proofs
theorem ib_lt : ∀ (l : List UInt8) (c : UInt8), Lib.indexByte l c < l.length
  | [], c => by show (-1 : Int) < 0; decide
  | b :: l, c => by
    have := ib_lt l c
    rw [Lib.indexByte, List.length_cons]
    split
    · omega
    · split <;> omega
def OL (s : List UInt8) (F : (Out → Ans) → Ans) : Prop := ∃ (t : List UInt8) (n : Nat), t.length ≤ 4 ∧ (n = 0 → t = []) ∧ n ≤ s.length ∧ ∀ k, F k = k (.ret (.tuple [.str t, .int .i64 (n : Nat)]) [])
theorem ol_bif {s : List UInt8} {b : Bool} {F G : (Out → Ans) → Ans} (h1 : OL s F) (h2 : OL s G) : OL s (fun k => bif b then F k else G k) := by
  cases b
  · exact h2
  · exact h1
theorem ol_0 (s : List UInt8) : OL s (fun k => k (.ret (.tuple [.str [], .int .i64 0]) [])) := ⟨[], 0, by simp, fun _ => rfl, Nat.zero_le _, fun k => rfl⟩
theorem ol_k {s : List UInt8} (t : List UInt8) (n : Nat) (h : t.length ≤ 4) (h2 : 1 ≤ n ∧ n ≤ s.length) : OL s (fun k => k (.ret (.tuple [.str t, .int .i64 (n : Nat)]) [])) := ⟨t, n, h, fun h0 => by omega, h2.2, fun k => rfl⟩
theorem one_ol (t : List UInt8) (ht : t.length < 1099511627776) : OL (38 :: t) (fun k => iFun Tryz.prog (layY7.hd Tryz.prog) layY7.fhs 0 48 [.str (38 :: t)] [] k) := by
  obtain ⟨s, hs⟩ : ∃ s, s = 38 :: t := ⟨_, rfl⟩
  rw [← hs]
  have hl : s.length = t.length + 1 := by rw [hs]; rfl
  obtain ⟨n0, e0⟩ : ∃ n0 : Int, n0 = s.length := ⟨_, rfl⟩
  obtain ⟨c1, e1⟩ : ∃ c1, c1 = (s == []) := ⟨_, rfl⟩
  obtain ⟨n2, e2⟩ : ∃ n2 : Int, n2 = (if 16 < n0 then 16 else n0) := ⟨_, rfl⟩
  obtain ⟨n3, e3⟩ : ∃ n3, n3 = ibM (List.drop (Int.toNat 0) (List.take n2.toNat s)) 59 := ⟨_, rfl⟩
  obtain ⟨c4, e4⟩ : ∃ c4, c4 = (decide (1 ≤ n3) && decide (n3 ≤ n0)) := ⟨_, rfl⟩
  obtain ⟨l5, e5⟩ : ∃ l5, l5 = List.drop (Int.toNat 1) (List.take n3.toNat s) := ⟨_, rfl⟩
  obtain ⟨m6, e6⟩ : ∃ m6, m6 = l5.length := ⟨_, rfl⟩
  obtain ⟨n7, e7⟩ : ∃ n7 : Int, n7 = m6 := ⟨_, rfl⟩
  obtain ⟨c8, e8⟩ : ∃ c8, c8 = decide (1 ≤ n7) := ⟨_, rfl⟩
  obtain ⟨c9, e9⟩ : ∃ c9, c9 = decide (n7 ≥ 1) := ⟨_, rfl⟩
  obtain ⟨l10, e10⟩ : ∃ l10, l10 = List.drop (Int.toNat 1) (List.take n7.toNat l5) := ⟨_, rfl⟩
  obtain ⟨m11, e11⟩ : ∃ m11, m11 = l10.length := ⟨_, rfl⟩
  obtain ⟨n12, e12⟩ : ∃ n12 : Int, n12 = m11 := ⟨_, rfl⟩
  obtain ⟨c13, e13⟩ : ∃ c13, c13 = (l10 == []) := ⟨_, rfl⟩
  obtain ⟨c14, e14⟩ : ∃ c14, c14 = !c13 := ⟨_, rfl⟩
  obtain ⟨l15, e15⟩ : ∃ l15, l15 = List.drop (Int.toNat 1) (List.take n12.toNat l10) := ⟨_, rfl⟩
  obtain ⟨c16, e16⟩ : ∃ c16, c16 = decide (l15.length ≤ 1099511627776) := ⟨_, rfl⟩
  obtain ⟨n17, e17⟩ : ∃ n17, n17 = valA l15 true := ⟨_, rfl⟩
  obtain ⟨c18, e18⟩ : ∃ c18, c18 = decide (m11 ≤ 1099511627776) := ⟨_, rfl⟩
  obtain ⟨n19, e19⟩ : ∃ n19, n19 = valA l10 false := ⟨_, rfl⟩
  have key := funext (fun k => rone_fun s k n0 e0 c1 e1 n2 e2 n3 e3 c4 e4 l5 e5 m6 e6 n7 e7 c8 e8 c9 e9 l10 e10 m11 e11 n12 e12 c13 e13 c14 e14 l15 e15 c16 e16 n17 e17 c18 e18 n19 e19)
  rw [key]
  clear key
  have h1 : c1 = false := by rw [e1, hs]; rfl
  have hc : (((s.getD 0 0).toNat : Int) != 38) = false := by rw [hs]; rfl
  have g0 : decide (0 < n0) = true := dT (by omega)
  have h2 : 0 ≤ n2 ∧ n2 ≤ n0 := by rw [e2]; split <;> omega
  have h5 : l5.length ≤ s.length := by rw [e5]; simp; omega
  have h10 : l10.length ≤ s.length := by rw [e10]; simp; omega
  have h15 : l15.length ≤ s.length := by rw [e15]; simp; omega
  have g16 : c16 = true := by rw [e16]; exact dT (by omega)
  have g18 : c18 = true := by rw [e18]; exact dT (by omega)
  have g6 : decide (m6 ≤ 1099511627776) = true := dT (by omega)
  have g77 : decide (n7 ≤ n7) = true := dT (Int.le_refl _)
  have g1212 : decide (n12 ≤ n12) = true := dT (Int.le_refl _)
  simp only [h1, hc, g0, dT h2.1, dT h2.2, Bool.true_or, cond_true, cond_false, Bool.and_self]
  by_cases h3 : n3 < 0
  · simp only [dT h3, cond_true]; exact ol_0 s
  have h31 : 1 ≤ n3 ∧ n3 < n2 := by
    have hlt := ib_lt (List.drop (Int.toNat 0) (List.take n2.toNat s)) 59
    have hd : (List.drop (Int.toNat 0) (List.take n2.toNat s)).length = n2.toNat := by simp; omega
    have e3' : n3 = Lib.indexByte (List.drop (Int.toNat 0) (List.take n2.toNat s)) 59 := e3
    refine ⟨?_, by omega⟩
    have hp : 0 < n2.toNat := by rw [e2]; split <;> omega
    obtain ⟨q, hq⟩ : ∃ q, n2.toNat = q + 1 := ⟨n2.toNat - 1, by omega⟩
    rw [hq, hs, List.take_succ_cons] at e3'
    have : n3 = if ((38 : UInt8) == 59) = true then 0 else if (Lib.indexByte (t.take q) 59 == -1) = true then -1 else Lib.indexByte (t.take q) 59 + 1 := e3'
    rw [if_neg (by decide)] at this
    have hge := Lib.indexByte_ge (t.take q) 59
    split at this
    · omega
    · rename_i hne
      have : Lib.indexByte (t.take q) 59 ≠ -1 := by simpa using hne
      omega
  have g4 : c4 = true := by rw [e4, dT h31.1, dT (show n3 ≤ n0 by omega)]; rfl
  have hw : IntKind.i64.wrap (n3 + 1) = (((n3 + 1).toNat : Nat) : Int) := by rw [wrap_of (by omega) (by omega)]; omega
  have hn : 1 ≤ (n3 + 1).toNat ∧ (n3 + 1).toNat ≤ s.length := by omega
  simp only [dF h3, g4, hw, g6, g16, g18, g77, g1212, Bool.and_true, Bool.or_true, cond_true, cond_false]
  by_cases h7 : 1 ≤ n7
  case neg =>
    have g8 : c8 = false := by rw [e8]; exact dF h7
    have g9 : c9 = false := by rw [e9]; exact dF h7
    simp only [g8, g9, Bool.not_false, Bool.or_true, cond_true, cond_false]
    repeat' (first | exact ol_0 s | exact ol_k _ _ (by simp) hn | refine ol_bif ?_ ?_)
  have g8 : c8 = true := by rw [e8]; exact dT h7
  have g9 : c9 = true := by rw [e9]; exact dT h7
  by_cases he : l10 = []
  case pos =>
    have g13 : c13 = true := by rw [e13, he]; rfl
    have g14 : c14 = false := by rw [e14, g13]; rfl
    simp only [g8, g9, g13, g14, Bool.not_false, Bool.or_true, Bool.true_or, cond_true, cond_false]
    repeat' (first | exact ol_0 s | exact ol_k _ _ (by simp) hn | exact ol_k _ _ (encS_len _) hn | refine ol_bif ?_ ?_)
  have hp : 0 < l10.length := List.length_pos_iff.2 he
  have g13 : c13 = false := by rw [e13]; simpa using he
  have g14 : c14 = true := by rw [e14, g13]; rfl
  have g12 : decide (0 < n12) = true := dT (by omega)
  have g12' : decide (1 ≤ n12) = true := dT (by omega)
  simp only [g8, g9, g13, g14, g12, g12', Bool.not_false, Bool.not_true, Bool.or_true, Bool.true_or, cond_true, cond_false]
  repeat' (first | exact ol_0 s | exact ol_k _ _ (by simp) hn | exact ol_k _ _ (encS_len _) hn | refine ol_bif ?_ ?_)
theorem one_any (s : List UInt8) (hs : s.length ≤ 1099511627776) : OL s (fun k => iFun Tryz.prog (layY7.hd Tryz.prog) layY7.fhs 0 48 [.str s] [] k) ∧ ((s.getD 0 0 == 38) = false → ∀ k, iFun Tryz.prog (layY7.hd Tryz.prog) layY7.fhs 0 48 [.str s] [] k = k (.ret (.tuple [.str [], .int .i64 0]) [])) := by
  cases h : s.getD 0 0 == 38 with
  | true =>
    cases s with
    | nil => cases h
    | cons c t =>
      obtain rfl : c = 38 := by simpa using h
      exact ⟨one_ol t (by rw [List.length_cons] at hs; omega), (fun h => by cases h)⟩
  | false =>
    have key : ∀ k, iFun Tryz.prog (layY7.hd Tryz.prog) layY7.fhs 0 48 [.str s] [] k = k (.ret (.tuple [.str [], .int .i64 0]) []) := fun k => by
      refine (rone_fun s k _ rfl _ rfl _ rfl _ rfl _ rfl _ rfl _ rfl _ rfl _ rfl _ rfl _ rfl _ rfl _ rfl _ rfl _ rfl _ rfl _ rfl _ rfl _ rfl _ rfl).trans ?_
      have hc : (((s.getD 0 0).toNat : Int) != 38) = true := by
        have : (((s.getD 0 0).toNat : Int) == 38) = false := by rw [eqc (show 38 < 256 by decide)]; exact h
        show (!((s.getD 0 0).toNat : Int) == 38) = true
        rw [this]; rfl
      cases s with
      | nil => rfl
      | cons c t =>
        rw [dT (show (0 : Int) < ((c :: t).length : Int) by simp), hc]
        rfl
    refine ⟨?_, fun _ => key⟩
    rw [show (fun k => iFun Tryz.prog (layY7.hd Tryz.prog) layY7.fhs 0 48 [.str s] [] k) = _ from funext key]
    exact ol_0 s
open Classical in
noncomputable def oneP (s : List UInt8) : List UInt8 × Nat := if h : s.length ≤ 1099511627776 then (Classical.choose (one_any s h).1, Classical.choose (Classical.choose_spec (one_any s h).1)) else ([], 0)
theorem oneP_is (s : List UInt8) (h : s.length ≤ 1099511627776) : (oneP s).1.length ≤ 4 ∧ ((oneP s).2 = 0 → (oneP s).1 = []) ∧ (oneP s).2 ≤ s.length ∧ ∀ k, iFun Tryz.prog (layY7.hd Tryz.prog) layY7.fhs 0 48 [.str s] [] k = k (.ret (.tuple [.str (oneP s).1, .int .i64 ((oneP s).2 : Nat)]) []) := by
  have := Classical.choose_spec (Classical.choose_spec (one_any s h).1)
  unfold oneP
  rw [dif_pos h]
  exact this
theorem oneP_eq {s t : List UInt8} {n : Nat} (h : s.length ≤ 1099511627776) (hk : ∀ k, iFun Tryz.prog (layY7.hd Tryz.prog) layY7.fhs 0 48 [.str s] [] k = k (.ret (.tuple [.str t, .int .i64 (n : Nat)]) [])) : oneP s = (t, n) := by
  have h2 := (oneP_is s h).2.2.2
  have h3 := fun k => (h2 k).symm.trans (hk k)
  have h4 := h3 some
  simp only [Option.some.injEq, Out.ret.injEq, AVal.tuple.injEq, List.cons.injEq, AVal.str.injEq, AVal.int.injEq, and_true, true_and] at h4
  rw [← h4.1, ← Int.ofNat.inj h4.2]
theorem oneP_no {s : List UInt8} (h : s.length ≤ 1099511627776) (hc : (s.getD 0 0 == 38) = false) : oneP s = ([], 0) := oneP_eq h ((one_any s h).2 hc)
theorem oneP_lt : oneP [38, 108, 116, 59] = ([60], 4) := oneP_eq (by decide) (fun k => by kernel_rfl)
noncomputable def onePTold : FSp := mkFS [.s] (fun xs => decide ((aS xs 0).length ≤ 1099511627776)) (fun xs k => k (.ret (.tuple [.str (oneP (aS xs 0)).1, .int .i64 ((oneP (aS xs 0)).2 : Nat)]) []))
theorem onePTold_ok : ∀ xs H k out, onePTold xs H k = some out → ∃ o, CallOK Tryz.prog 48 xs H o ∧ k o = some out := mkFS_ok fun ys xs e h => by
  obtain ⟨s, rfl⟩ : ∃ s, xs = [.str s] := ⟨_, e⟩
  exact ⟨_, fun k => rfl, layY7_ok.callF (G := []) rfl (fun k => (oneP_is s (of_decide_eq_true h)).2.2.2 k)⟩
end Go.Mu
set_option linter.unusedVariables false
set_option linter.unusedSimpArgs false
set_option maxRecDepth 100000
namespace Go.Mu
open Go Go.Proofs
noncomputable def layY8 : Lay := b0_lay (Lay.nil.addF 48 onePTold)
theorem layY8_ok : layY8.OK Tryz.prog := b0_ok (Lay.nil_ok.addF onePTold_ok)
noncomputable def decX : Nat → List UInt8 → Bld → Bld
  | 0, _, x => x
  | m + 1, s, x => bif s == [] then x else bif decide (0 < (oneP s).2) then decX m (s.drop (oneP s).2) (x.add 0 2 (oneP s).1) else decX m (s.drop 1) (x.add 0 2 [s.getD 0 0])
noncomputable def decR : Nat → List UInt8 → List UInt8
  | 0, _ => []
  | m + 1, s => bif s == [] then [] else bif decide (0 < (oneP s).2) then (oneP s).1 ++ decR m (s.drop (oneP s).2) else s.getD 0 0 :: decR m (s.drop 1)
noncomputable def dcSp (R : List UInt8 → Bld → Bld) : LSp := mkL (fun vs _ H => (bld H 0 2, aS vs 0)) (fun x => x.1.can 0 2 ∧ x.1.t.length + 4 * x.2.length ≤ 1073741824) (fun x => [.str x.2, .ptr (.hp 0) 0]) (fun _ => []) (fun x => (b0H.mk x.1).heap)
  (fun x k => k (.exit 0) [.ptr (.hp 0) 0] [] (b0H.mk (R x.2 x.1)).heap)
noncomputable def dcFH (R : List UInt8 → Bld → Bld) : FH := { FH.of [(2, loopSpec 26 [0,3] [] [3] [] (dcSp R))] with heap := [3], typed := [(3, [(0, bT)])], exact := true }
theorem dc_step (R : List UInt8 → Bld → Bld) (x : Bld) (s : List UInt8) (D : List (FuncId × List AVal)) (k : Kont) (n0 : Int) (e_n0 : n0 = ((↑(oneP s).snd : Int)))
  (l1 : List UInt8) (e_l1 : l1 = ((Bld.mk x.ad x.b x.rows x.v).t))
  (m2 : Nat) (e_m2 : m2 = (l1.length))
  (l3 : List UInt8) (e_l3 : l3 = ((oneP s).fst))
  (n4 : Int) (e_n4 : n4 = ((↑s.length : Int)))
  (c5 : Bool) (e_c5 : c5 = (decide (n4 ≤ n4)))
  (l6 : List UInt8) (e_l6 : l6 = (List.take n4.toNat s))
  (m7 : Nat) (e_m7 : m7 = (wsV l1 l3 x.v))
  (n8 : Int) (e_n8 : n8 = ((↑(s.getD 0 0).toNat : Int)))
  (v9 : UInt8) (e_v9 : v9 = (UInt8.ofNat n8.toNat))
  (l10 : List UInt8) (e_l10 : l10 = ([v9]))
  (m11 : Nat) (e_m11 : m11 = (wsV l1 l10 x.v)) : lturn Tryz.prog layY8 (dcFH R) 20 2 [0,3] [] [3] [] (stL 26 [0,3] [.str s, .ptr (.hp 0) 0] [] [] (b0H.mk x).heap D) k = (
  bif !s == [] then
  bif decide (s.length ≤ 1099511627776) then
  bif decide (n0 > 0) then
  bif
  tst
  ((Bld.can 0 2 (Bld.mk x.ad x.b x.rows x.v) ∧ m2 + l3.length ≤ 1099511627776) ∧
  SubL [AVal.ptr (Oid.hp 0) 0, AVal.str l3] [AVal.ptr (Oid.hp 0) 0, AVal.str l3] ∧
  (b0H.mk x).heap = (b0H.mk (Bld.mk x.ad x.b x.rows x.v)).heap) then
  bif decide (n0 ≤ n4) && c5 then
  k AExit.normal
  (stL 26 [0, 3] [AVal.str (List.drop n0.toNat l6), AVal.ptr (Oid.hp 0) 0] [] []
  (b0H.mk
  (Bld.mk (AVal.ptr (Oid.hp 0) 0) (bfB 2 (l1.append l3) m7)
  (x.rows.append (List.map (fun (c : UInt8) => [AVal.int IntKind.u8 (↑c.toNat : Int)]) l3)) m7)).heap
  D)
  else none
  else none
  else
  bif decide (0 < n4) then
  bif
  tst
  ((Bld.can 0 2 (Bld.mk x.ad x.b x.rows x.v) ∧ m2 ≤ 1073741824) ∧
  SubL [AVal.ptr (Oid.hp 0) 0, AVal.int IntKind.u8 n8]
  [AVal.ptr (Oid.hp 0) 0, AVal.int IntKind.u8 (↑v9.toNat : Int)] ∧
  (b0H.mk x).heap = (b0H.mk (Bld.mk x.ad x.b x.rows x.v)).heap) then
  bif decide (1 ≤ n4) && c5 then
  k AExit.normal
  (stL 26 [0, 3] [AVal.str (List.drop (Int.toNat 1) l6), AVal.ptr (Oid.hp 0) 0] [] []
  (b0H.mk
  (Bld.mk (AVal.ptr (Oid.hp 0) 0) (bfB 2 (l1.append l10) m11)
  (x.rows.append [[AVal.int IntKind.u8 (↑v9.toNat : Int)]]) m11)).heap
  D)
  else none
  else none
  else none
  else none
  else k (AExit.exit 0) (stL 26 [3] [AVal.ptr (Oid.hp 0) 0] [] [] (b0H.mk x).heap D)) := by
  subst e_n0 e_l1 e_m2 e_l3 e_n4 e_c5 e_l6 e_m7 e_n8 e_v9 e_l10 e_m11
  kernel_rfl
noncomputable def layY9 (R : List UInt8 → Bld → Bld) : Lay := layY8.addL 20 (dcFH R)
theorem dc_fun (R : List UInt8 → Bld → Bld) (s : List UInt8) (k : Out → Ans) (m0 : Nat) (e_m0 : m0 = ((R s (Bld.mk AVal.nilptr AVal.nilX [] 0)).v))
  (l1 : List UInt8) (e_l1 : l1 = ((Bld.mk (R s (Bld.mk AVal.nilptr AVal.nilX [] 0)).ad (R s (Bld.mk AVal.nilptr AVal.nilX [] 0)).b
      (R s (Bld.mk AVal.nilptr AVal.nilX [] 0)).rows m0).t)) : iFun Tryz.prog ((layY9 R).hd Tryz.prog) (layY9 R).fhs 0 20 [.str s] [] k = (
  bif
      tst
        ((Bld.can 0 2 (Bld.mk AVal.nilptr AVal.nilX [] 0) ∧ 0 + 4 * s.length ≤ 1073741824) ∧
          SubTL [AVal.str s, AVal.ptr (Oid.hp 0) 0] [AVal.str s, AVal.ptr (Oid.hp 0) 0] ∧
            ([] : List (List AVal)) = [] ∧
              [Obj.var [AVal.nilptr, AVal.nilX], Obj.note 55 2, Obj.arr 1 [] 0, Obj.note 5 0] =
                (b0H.mk (Bld.mk AVal.nilptr AVal.nilX [] 0)).heap) then
    bif
        tst
          ((Bld.can 0 2
                (Bld.mk (R s (Bld.mk AVal.nilptr AVal.nilX [] 0)).ad (R s (Bld.mk AVal.nilptr AVal.nilX [] 0)).b
                  (R s (Bld.mk AVal.nilptr AVal.nilX [] 0)).rows m0) ∧
              l1.length ≤ 1099511627776) ∧
            SubL [AVal.ptr (Oid.hp 0) 0] [AVal.ptr (Oid.hp 0) 0] ∧
              (b0H.mk (R s (Bld.mk AVal.nilptr AVal.nilX [] 0))).heap =
                (b0H.mk
                    (Bld.mk (R s (Bld.mk AVal.nilptr AVal.nilX [] 0)).ad (R s (Bld.mk AVal.nilptr AVal.nilX [] 0)).b
                      (R s (Bld.mk AVal.nilptr AVal.nilX [] 0)).rows m0)).heap) then
      k
        (Out.ret (AVal.str l1)
          (b0H.mk
              (Bld.mk (R s (Bld.mk AVal.nilptr AVal.nilX [] 0)).ad (R s (Bld.mk AVal.nilptr AVal.nilX [] 0)).b []
                (bif l1 == [] then m0 else m0 + 1))).heap)
    else none
  else none) := by
  subst e_m0 e_l1
  kernel_rfl
noncomputable abbrev dcTurn (R : List UInt8 → Bld → Bld) := lturn Tryz.prog layY8 (dcFH R) 20 2 [0,3] [] [3] []
theorem dc_runs (R : List UInt8 → Bld → Bld) : ∀ (m : Nat) (s : List UInt8) (x : Bld), s.length ≤ m → x.can 0 2 → x.t.length + 4 * s.length ≤ 1073741824 →
    LoopRuns (dcTurn R) 26 [0,3] [] [3] [] [.str s, .ptr (.hp 0) 0] [] (b0H.mk x).heap (.exit 0) [.ptr (.hp 0) 0] [] (b0H.mk (decX m s x)).heap := by
  intro m
  induction m with
  | zero =>
    intro s x hm hx ht
    obtain rfl : s = [] := List.eq_nil_of_length_eq_zero (by omega)
    exact .stop (by simp) (fun D k => dc_step R x [] D k _ rfl _ rfl _ rfl _ rfl _ rfl _ rfl _ rfl _ rfl _ rfl _ rfl _ rfl _ rfl)
  | succ m ih =>
    intro s x hm hx ht
    cases h0 : s == [] with
    | true =>
      obtain rfl : s = [] := by simpa using h0
      exact .stop (by simp) (fun D k => dc_step R x [] D k _ rfl _ rfl _ rfl _ rfl _ rfl _ rfl _ rfl _ rfl _ rfl _ rfl _ rfl _ rfl)
    | false =>
      have hne : s ≠ [] := by simpa using h0
      have hl : 0 < s.length := List.length_pos_iff.2 hne
      obtain ⟨o1, o2, o3, _⟩ := oneP_is s (by omega)
      rw [decX, h0, cond_false]
      have key := fun D k => dc_step R x s D k ((oneP s).2 : Nat) rfl x.t rfl _ rfl (oneP s).1 rfl (s.length : Nat) rfl _ rfl s (by rw [Int.toNat_natCast, List.take_length]) _ rfl ((s.getD 0 0).toNat : Int) rfl (s.getD 0 0) (by simp) _ rfl _ rfl
      simp (disch := omega) only [h0, dT, Bool.not_false, cond_true, Bool.and_self, Int.toNat_natCast] at key
      by_cases hn : 0 < (oneP s).2
      · simp only [dT (show (((oneP s).2 : Nat) : Int) > 0 by omega), dT (show (((oneP s).2 : Nat) : Int) ≤ (s.length : Int) by omega), cond_true, Bool.and_true] at key
        replace key := fun D k => (key D k).trans ((congrArg (fun c => cond c _ none) (tst_true ⟨⟨hx, by omega⟩, .refl _, by trivial⟩)).trans rfl)
        rw [dT hn, cond_true]
        have hd : (s.drop (oneP s).2).length = s.length - (oneP s).2 := List.length_drop
        exact .step key (ih (s.drop (oneP s).2) (x.add 0 2 (oneP s).1) (by omega) (Bld.add_can hx _) (by rw [Bld.add_t, List.length_append]; omega))
      · simp only [dF (show ¬ (((oneP s).2 : Nat) : Int) > 0 by omega), cond_false] at key
        replace key := fun D k => (key D k).trans ((congrArg (fun c => cond c _ none) (tst_true ⟨⟨hx, by omega⟩, .refl _, by trivial⟩)).trans rfl)
        rw [dF hn, cond_false]
        have hd : (s.drop 1).length = s.length - 1 := List.length_drop
        exact .step key (ih (s.drop 1) (x.add 0 2 [s.getD 0 0]) (by omega) (Bld.add_can hx _) (by rw [Bld.add_t, List.length_append, List.length_singleton]; omega))
theorem dcSp_ok : SpOK (dcTurn (fun s x => decX s.length s x)) 26 [0,3] [] [3] [] (dcSp (fun s x => decX s.length s x)) := mkL_ok fun a h => ⟨_, _, _, _, fun k => rfl, dc_runs _ a.2.length a.2 a.1 (Nat.le_refl _) h.1 h.2⟩
theorem layY9_ok : (layY9 (fun s x => decX s.length s x)).OK Tryz.prog := layY8_ok.loop1 (id := 2) (by kernel_rfl) (by kernel_rfl) (by kernel_rfl) dcSp_ok
theorem decX_is : ∀ (m : Nat) (s : List UInt8) (x : Bld), x.can 0 2 → (decX m s x).can 0 2 ∧ (decX m s x).t = x.t ++ decR m s
  | 0, s, x, h => ⟨h, by rw [decX, decR, List.append_nil]⟩
  | m + 1, s, x, h => by
    rw [decX, decR]
    cases s == [] with
    | true => exact ⟨h, by simp⟩
    | false =>
      simp only [cond_false]
      cases decide (0 < (oneP s).2) with
      | true =>
        obtain ⟨h1, h2⟩ := decX_is m (s.drop (oneP s).2) _ (Bld.add_can h (oneP s).1)
        exact ⟨h1, by simp only [cond_true]; rw [h2, Bld.add_t, List.append_assoc]⟩
      | false =>
        obtain ⟨h1, h2⟩ := decX_is m (s.drop 1) _ (Bld.add_can h [s.getD 0 0])
        exact ⟨h1, by simp only [cond_false]; rw [h2, Bld.add_t, List.append_assoc]; rfl⟩
theorem decR_len : ∀ (m : Nat) (s : List UInt8), s.length ≤ 1099511627776 → (decR m s).length ≤ 4 * s.length
  | 0, s, _ => Nat.zero_le _
  | m + 1, s, hs => by
    rw [decR]
    cases h0 : s == [] with
    | true => exact Nat.zero_le _
    | false =>
      have hne : s ≠ [] := by simpa using h0
      have hl : 0 < s.length := List.length_pos_iff.2 hne
      obtain ⟨o1, o2, o3, _⟩ := oneP_is s hs
      simp only [cond_false]
      by_cases hn : 0 < (oneP s).2
      · rw [dT hn, cond_true, List.length_append]
        have hd : (s.drop (oneP s).2).length = s.length - (oneP s).2 := List.length_drop
        have := decR_len m (s.drop (oneP s).2) (by omega)
        omega
      · rw [dF hn, cond_false, List.length_cons]
        have hd : (s.drop 1).length = s.length - 1 := List.length_drop
        have := decR_len m (s.drop 1) (by omega)
        omega
noncomputable def decP (s : List UInt8) : List UInt8 := decR s.length s
theorem decP_ok (s : List UInt8) (hs : s.length ≤ 268435456) : CallOK Tryz.prog 20 [.str s] [] (.ret (.str (decP s)) []) := by
  obtain ⟨c1, t1⟩ := decX_is s.length s Bld.new (Bld.new_can 0 2)
  have hl := decR_len s.length s (by omega)
  have t2 : (decX s.length s Bld.new).t = decP s := by rw [t1]; rfl
  have key := fun k => (dc_fun (fun s x => decX s.length s x) s k _ rfl (decX s.length s Bld.new).t rfl).trans
    ((congrArg (fun c => cond c _ none) (tst_true ⟨⟨Bld.new_can 0 2, by omega⟩, .refl _, by trivial⟩)).trans ((cond_true _ _).trans
    ((congrArg (fun c => cond c _ none) (tst_true ⟨⟨c1, by rw [t2]; unfold decP; omega⟩, .refl _, by trivial⟩)).trans (cond_true _ _))))
  rw [← t2]
  exact layY9_ok.callF rfl key
noncomputable def decTold : FSp := mkFS [.s] (fun xs => decide ((aS xs 0).length ≤ 268435456)) (fun xs k => k (.ret (.str (decP (aS xs 0))) []))
theorem decTold_ok : ∀ xs H k out, decTold xs H k = some out → ∃ o, CallOK Tryz.prog 20 xs H o ∧ k o = some out := mkFS_ok fun ys xs e h => by
  obtain ⟨s, rfl⟩ : ∃ s, xs = [.str s] := ⟨_, e⟩
  exact ⟨_, fun k => rfl, decP_ok s (of_decide_eq_true h)⟩
/- Clean -/
structure ClA where
  s : List UInt8
  f : Bool
  l : List UInt8
  n : Int
  i : Nat
  H : Heap
end Go.Mu
set_option linter.unusedVariables false
set_option maxRecDepth 100000
namespace Go.Proofs
open Go.Shelf
def Tryz.uRen : Ren := {
  f := fun x => match x with
    | 168 => 62
    | 169 => 51
    | 197 => 109
    | 240 => 87
    | 242 => 94
    | 260 => 128
    | 276 => 108
    | 278 => 110
    | n => n,
  t := fun x => match x with
    | 0 => 0
    | 3 => 3
    | 4 => 4
    | 5 => 5
    | 9 => 9
    | 20 => 20
    | 21 => 21
    | 37 => 43
    | 46 => 91
    | 51 => 115
    | 70 => 53
    | 72 => 55
    | 75 => 57
    | 80 => 61
    | 105 => 113
    | 119 => 128
    | 127 => 89
    | 138 => 130
    | 139 => 131
    | 164 => 111
    | n => n,
  g := fun x => match x with
    | 3 => 1
    | 4 => 2
    | n => n }
theorem Tryz.uRen_168 : Lays.n168 Tryz.prog Tryz.uRen := {
  mixed := by kernel_rfl
  f168 := Tryz.func62.trans (congrArg some (by kernel_rfl))
  f240 := Tryz.func87.trans (congrArg some (by kernel_rfl))
  f242 := Tryz.func94.trans (congrArg some (by kernel_rfl))
  f276 := Tryz.func108.trans (congrArg some (by kernel_rfl))
  f278 := Tryz.func110.trans (congrArg some (by kernel_rfl))
  t0 := Tryz.underlying0
  a0 := Tryz.isAgg0
  z0 := Tryz.sizeOf0
  v0 := Tryz.zeroValue0
  t3 := Tryz.underlying3
  a3 := Tryz.isAgg3
  z3 := Tryz.sizeOf3
  v3 := Tryz.zeroValue3
  t4 := Tryz.underlying4
  a4 := Tryz.isAgg4
  z4 := Tryz.sizeOf4
  v4 := Tryz.zeroValue4
  t5 := Tryz.underlying5
  a5 := Tryz.isAgg5
  z5 := Tryz.sizeOf5
  v5 := Tryz.zeroValue5
  t9 := Tryz.underlying9
  a9 := Tryz.isAgg9
  z9 := Tryz.sizeOf9
  v9 := Tryz.zeroValue9
  t20 := Tryz.underlying20
  a20 := Tryz.isAgg20
  z20 := Tryz.sizeOf20
  v20 := Tryz.zeroValue20
  t21 := Tryz.underlying21
  a21 := Tryz.isAgg21
  z21 := Tryz.sizeOf21
  v21 := Tryz.zeroValue21
  t37 := Tryz.underlying43
  a37 := Tryz.isAgg43
  z37 := Tryz.sizeOf43
  v37 := Tryz.zeroValue43
  t46 := Tryz.underlying91
  a46 := Tryz.isAgg91
  z46 := Tryz.sizeOf91
  v46 := Tryz.zeroValue91
  t51 := Tryz.underlying115
  a51 := Tryz.isAgg115
  z51 := Tryz.sizeOf115
  v51 := Tryz.zeroValue115
  t70 := Tryz.underlying53
  a70 := Tryz.isAgg53
  z70 := Tryz.sizeOf53
  v70 := Tryz.zeroValue53
  t72 := Tryz.underlying55
  a72 := Tryz.isAgg55
  z72 := Tryz.sizeOf55
  v72 := Tryz.zeroValue55
  t75 := Tryz.underlying57
  a75 := Tryz.isAgg57
  z75 := Tryz.sizeOf57
  v75 := Tryz.zeroValue57
  t164 := Tryz.underlying111
  a164 := Tryz.isAgg111
  z164 := Tryz.sizeOf111
  v164 := Tryz.zeroValue111
}
theorem Tryz.uRen_169 : Lays.n169 Tryz.prog Tryz.uRen := {
  mixed := by kernel_rfl
  f169 := Tryz.func51.trans (congrArg some (by kernel_rfl))
  t0 := Tryz.underlying0
  a0 := Tryz.isAgg0
  z0 := Tryz.sizeOf0
  v0 := Tryz.zeroValue0
  t3 := Tryz.underlying3
  a3 := Tryz.isAgg3
  z3 := Tryz.sizeOf3
  v3 := Tryz.zeroValue3
  t9 := Tryz.underlying9
  a9 := Tryz.isAgg9
  z9 := Tryz.sizeOf9
  v9 := Tryz.zeroValue9
  t37 := Tryz.underlying43
  a37 := Tryz.isAgg43
  z37 := Tryz.sizeOf43
  v37 := Tryz.zeroValue43
  t70 := Tryz.underlying53
  a70 := Tryz.isAgg53
  z70 := Tryz.sizeOf53
  v70 := Tryz.zeroValue53
  t72 := Tryz.underlying55
  a72 := Tryz.isAgg55
  z72 := Tryz.sizeOf55
  v72 := Tryz.zeroValue55
  t127 := Tryz.underlying89
  a127 := Tryz.isAgg89
  z127 := Tryz.sizeOf89
  v127 := Tryz.zeroValue89
}
theorem Tryz.uRen_197 : Lays.n197 Tryz.prog Tryz.uRen := {
  mixed := by kernel_rfl
  f197 := Tryz.func109.trans (congrArg some (by kernel_rfl))
  f260 := Tryz.func128.trans (congrArg some (by kernel_rfl))
  t0 := Tryz.underlying0
  a0 := Tryz.isAgg0
  z0 := Tryz.sizeOf0
  v0 := Tryz.zeroValue0
  t3 := Tryz.underlying3
  a3 := Tryz.isAgg3
  z3 := Tryz.sizeOf3
  v3 := Tryz.zeroValue3
  t4 := Tryz.underlying4
  a4 := Tryz.isAgg4
  z4 := Tryz.sizeOf4
  v4 := Tryz.zeroValue4
  t5 := Tryz.underlying5
  a5 := Tryz.isAgg5
  z5 := Tryz.sizeOf5
  v5 := Tryz.zeroValue5
  t9 := Tryz.underlying9
  a9 := Tryz.isAgg9
  z9 := Tryz.sizeOf9
  v9 := Tryz.zeroValue9
  t21 := Tryz.underlying21
  a21 := Tryz.isAgg21
  z21 := Tryz.sizeOf21
  v21 := Tryz.zeroValue21
  t46 := Tryz.underlying91
  a46 := Tryz.isAgg91
  z46 := Tryz.sizeOf91
  v46 := Tryz.zeroValue91
  t105 := Tryz.underlying113
  a105 := Tryz.isAgg113
  z105 := Tryz.sizeOf113
  v105 := Tryz.zeroValue113
  t119 := Tryz.underlying128
  a119 := Tryz.isAgg128
  z119 := Tryz.sizeOf128
  t138 := Tryz.underlying130
  a138 := Tryz.isAgg130
  z138 := Tryz.sizeOf130
  v138 := Tryz.zeroValue130
  t139 := Tryz.underlying131
  a139 := Tryz.isAgg131
  z139 := Tryz.sizeOf131
  v139 := Tryz.zeroValue131
  g3 := by kernel_rfl
  g4 := by kernel_rfl
}

theorem Tryz.uExtra : Builder.Extra Tryz.prog Tryz.uRen where
  sizeBuilder := by kernel_rfl
  liesBuilder := by kernel_rfl
  t5 := Tryz.underlying5
  a5 := Tryz.isAgg5
  z5 := Tryz.sizeOf5
  v5 := Tryz.zeroValue5
  infoByte := by kernel_rfl
  cellsByte := by kernel_rfl
  sizeByte := by kernel_rfl
  neB5 := by decide
end Go.Proofs
set_option linter.unusedVariables false
set_option linter.unusedSimpArgs false
set_option maxRecDepth 100000
namespace Go.Proofs
open Go.RowKit Go.Shelf
attribute [local go_sem] Oper.semAt_some
theorem uB_kept {T e : TypeId} {B b k : Nat} {bs : List Value} {W W' : World} {o : Obj} (h : Lib.IsBuilderF T e B b bs W) (hg : W.grownBy W' (some k)) (hk : k ≠ b) (ho : W.heap[k]? = some o) (hx : ∀ c fz, o ≠ .cells c e fz) : Lib.IsBuilderF T e B b bs W' := by
  have one : ∀ p, Lib.BuilderAtF T e B b p bs W → Lib.BuilderAtF T e B b p bs W' := fun p h => by
    have hlt := h.lt
    obtain ⟨hB, v, hb, hown, hne⟩ := h
    have hv : v.ownBlock ≠ some k := fun hv => by
      obtain ⟨c, fz, hc⟩ := Lib.ownsRowF_kind hown k hv
      rw [ho] at hc
      exact hx c fz (Option.some.inj hc)
    exact ⟨hB, v, (hg.block b hlt (fun e => hk (Option.some.inj e).symm)).trans hb, hown.kept hg (Or.inr hv), hne⟩
  exact h.elim (fun x => .inl (one _ x)) (fun x => .inr (one _ x))
theorem uEach (s : ByteArray) (w : World) : CallsIn Fence.wide 3 Tryz.prog 61 #[.string s] w fun e w' => e = .returned (.func (.func 92) #[] #[.pointer (some ⟨w.heap.size, 0, none⟩)]) ∧ w' = w.alloc (.cells #[.string s] 9) := by
  refine callsIn_of_wp Tryz.func61 rfl trivial ?_ rfl
  simp only [Tryz.ntmps61, List.size_toArray, List.length_cons, List.length_nil, Nat.reduceAdd, Nat.reduceSub, Array.replicate_succ, Array.replicate_zero, List.push_toArray, List.append_toArray, List.nil_append, List.cons_append]
  gi_wp2
  go_ret
  exact ⟨rfl, rfl⟩
theorem decGo_le (t : ByteArray) : (Lib.decodeGo t).1 ≤ 1114111 := by
  unfold Lib.decodeGo
  split
  · show 65533 ≤ 1114111; omega
  · exact Lib.rune_le t 0
def decC (t : ByteArray) : Int := if (Lib.decodeGo t).1 = 65533 ∧ (Lib.decodeGo t).2 < 2 then -1 else (Lib.decodeGo t).1
def DecAt (W : World) (t : ByteArray) : Prop := Calls Tryz.prog 109 #[.string t] W fun e W' => e = .returned (.tuple #[.int .i32 (Lib.decodeGo t).1, .int .i64 (Lib.decodeGo t).2]) ∧ Below W.heap.size W W'
theorem uDecode (t : ByteArray) (W : World) (hd : DecAt W t) : CallsIn Fence.wide 2 Tryz.prog 93 #[.string t] W fun e W' => e = .returned (.tuple #[.int .i64 (decC t), .int .i64 (Lib.decodeGo t).2]) ∧ Below W.heap.size W W' := by
  refine callsIn_of_wp Tryz.func93 rfl trivial ?_ rfl
  simp only [Tryz.ntmps93, List.size_toArray, List.length_cons, List.length_nil, Nat.reduceAdd, Nat.reduceSub, Array.replicate_succ, Array.replicate_zero, List.push_toArray, List.append_toArray, List.nil_append, List.cons_append]
  unfold DecAt at hd
  generalize hx : ((Lib.decodeGo t).1 : Int) = x at hd
  generalize hy : ((Lib.decodeGo t).2 : Int) = y at hd ⊢
  have hC : decC t = if x = 65533 ∧ y < 2 then -1 else x := by unfold decC; rw [← hx, ← hy]; congr 1; simp only [eq_iff_iff]; omega
  rw [hC]
  by_cases h1 : x = 65533
  · by_cases h2 : y < 2
    · rw [if_pos ⟨h1, h2⟩]
      subst h1
      gi_wp2_with (refine ⟨trivial, ?_⟩; gi_at_call 109; refine (callsIn_wide.2 hd).mono ?_; rintro e W1 ⟨rfl, hb⟩)
      gi_wp2
      go_ret2
      exact ⟨rfl, hb⟩
    · rw [if_neg (fun h => h2 h.2)]
      subst h1
      gi_wp2_with (refine ⟨trivial, ?_⟩; gi_at_call 109; refine (callsIn_wide.2 hd).mono ?_; rintro e W1 ⟨rfl, hb⟩)
      gi_wp2
      go_ret2
      exact ⟨rfl, hb⟩
  · rw [if_neg (fun h => h1 h.1)]
    gi_wp2_with (refine ⟨trivial, ?_⟩; gi_at_call 109; refine (callsIn_wide.2 hd).mono ?_; rintro e W1 ⟨rfl, hb⟩)
    gi_wp2
    go_ret2
    have hle := decGo_le t
    have hw : wrap64 x = x := by simp [wrap64]; omega
    exact ⟨by simp [hw], hb⟩
def repC (t : ByteArray) : Int := if (Lib.decodeGo t).1 = 0 then 65533 else (Lib.decodeGo t).1
def repF : Nat → ByteArray → List UInt8
  | 0, _ => []
  | m + 1, t => if t.size = 0 then [] else Lib.encodeRune (repC t) ++ repF m (t.extract (Lib.decodeGo t).2 t.size)
def chF : Nat → ByteArray → List Int
  | 0, _ => []
  | m + 1, t => if t.size = 0 then [] else repC t :: chF m (t.extract (Lib.decodeGo t).2 t.size)
theorem repF_ch : ∀ m t, repF m t = (chF m t).flatMap Lib.encodeRune
  | 0, _ => rfl
  | m + 1, t => by
    rw [repF, chF]
    split
    · rfl
    · rw [List.flatMap_cons, repF_ch m]
theorem enc_len (l : List Int) : (l.flatMap Lib.encodeRune).length ≤ 4 * l.length := by
  induction l with
  | nil => simp
  | cons c l ih =>
    have hcl := (Lib.runeCells_le c).2
    rw [Lib.runeCells_length] at hcl
    rw [List.flatMap_cons, List.length_append, List.length_cons]
    omega
def strSz (W : World) (B : Nat) : Nat := match W.cell? ⟨B, 0, none⟩ with
  | some (.string t) => t.size
  | _ => 0
abbrev strO (t : ByteArray) : Obj := .cells #[.string t] 9 (0, 0)
set_option maxHeartbeats 1000000 in
theorem uEach1 (l Bs N : Nat) (J : List Int → World → Prop) (good : ByteArray → Prop) (hgood : ∀ t, good t → t.size ≠ 0 → good (t.extract (Lib.decodeGo t).2 t.size))
    (hdec : ∀ t W acc, good t → t.size ≠ 0 → J acc W → DecAt W t) (hJd : ∀ acc W W', J acc W → Below W.heap.size W W' → J acc W')
    (hJs : ∀ acc W t t', J acc W → W.heap[Bs]? = some (strO t) → J acc (W.setCell ⟨Bs, 0, none⟩ (.string t')))
    (hY : ∀ acc W c t, J acc W → W.heap[Bs]? = some (strO t) → acc.length ≤ N → 0 < c → c ≤ 1114111 → YieldAt Fence.wide 2 Tryz.prog l #[.int .i64 c] W fun e W' => e = .returned (.bool true) ∧ J (acc ++ [c]) W' ∧ W'.heap[Bs]? = some (strO t))
    (s : ByteArray) (W : World) (hBs : W.heap[Bs]? = some (strO s)) (hg : good s) (h0 : J [] W) (hs : s.size ≤ N) :
    CallsIn Fence.wide 3 Tryz.prog 92 #[.func (.yield l) #[] #[], .pointer (some ⟨Bs, 0, none⟩)] W fun e W' => (∃ v, e = .returned v) ∧ J (chF s.size s) W' := by
  refine callsIn_of_wp Tryz.func92 rfl trivial ?_ rfl
  simp only [Tryz.ntmps92, List.size_toArray, List.length_cons, List.length_nil, Nat.reduceAdd, Nat.reduceSub, Array.replicate_succ, Array.replicate_zero, List.push_toArray, List.append_toArray, List.nil_append, List.cons_append]
  gi_wp2
  gi_loopw [] (fun wr => ∃ (acc : List Int) (rest : ByteArray) (fuel : Nat), wr.heap[Bs]? = some (strO rest) ∧ J acc wr ∧ good rest ∧ acc ++ chF fuel rest = chF s.size s ∧ rest.size ≤ fuel ∧ acc.length + rest.size ≤ s.size)
    (fun wr => strSz wr Bs)
  case atStart =>
    exact ⟨[], s, s.size, hBs, h0, hg, rfl, Nat.le_refl _, by simp⟩
  case round =>
    obtain ⟨acc, rest, fuel, hb, hJ, hgr, hacc, hfu, hlen⟩ := hrel
    have hcell : wr.cell? ⟨Bs, 0, none⟩ = some (.string rest) := by simp [World.cell?, hb]
    have hfr : wr.frozen? ⟨Bs, 0, none⟩ = false := by simp [World.frozen?, hb]
    by_cases hz : rest.size = 0
    · obtain rfl : rest = ⟨#[]⟩ := ByteArray.ext (Array.eq_empty_of_size_eq_zero hz)
      have hrr : acc = chF s.size s := by
        rw [← hacc]
        cases fuel with
        | zero => rw [chF, List.append_nil]
        | succ m => rw [chF, if_pos hz, List.append_nil]
      gi_wp2
      go_end0
      exact ⟨⟨_, rfl⟩, by rw [← hrr]; exact hJ⟩
    · have hemp : rest.toList.isEmpty = false := by
        rw [Go.ByteArray.toList_eq]
        cases hr : rest.data.toList with
        | cons c t => rfl
        | nil =>
          exfalso; apply hz
          show rest.data.size = 0
          rw [← Array.length_toList, hr]; rfl
      have hpos : 0 < rest.size := Nat.pos_of_ne_zero hz
      have hdG : Lib.decodeGo rest = Utf8.decode rest 0 := by unfold Lib.decodeGo; rw [if_neg hz]
      have hw1 : 1 ≤ (Utf8.decode rest 0).2 := Lib.width_pos rest 0
      have hw2 : (Utf8.decode rest 0).2 ≤ rest.size := Lib.width_le rest hpos
      have hr1 := decGo_le rest
      obtain ⟨f, rfl⟩ : ∃ f, fuel = f + 1 := ⟨fuel - 1, by omega⟩
      have hsz : (rest.extract (Utf8.decode rest 0).2 rest.size).size = rest.size - (Utf8.decode rest 0).2 := by simp
      have hg2 := hgood rest hgr hz
      rw [chF, if_neg hz] at hacc
      rw [hdG] at hacc hg2
      have h1 : 1 ≤ (3 : Nat) - 1 := by omega
      have hblt : Bs < wr.heap.size := (Array.getElem?_eq_some_iff.1 hb).1
      have hmu : strSz wr Bs = rest.size := by unfold strSz; rw [hcell]
      by_cases hc : decC rest ≤ 0
      · have hC : repC rest = 65533 := by
          unfold decC at hc; unfold repC
          split at hc
          · rename_i h; rw [h.1]; rfl
          · rw [if_pos (by omega)]
        rw [hC] at hacc
        gi_wp2_with (refine ⟨trivial, ?_⟩; gi_at_call 93; refine (uDecode rest wr (hdec rest wr acc hgr hz hJ)).mono ?_; rintro e W2 ⟨rfl, hb2⟩; obtain ⟨fn, tmps, assign, body, hy, hR⟩ := hY acc W2 65533 rest (hJd _ _ _ hJ hb2) ((hb2.block Bs hblt).trans hb) (by omega) (by omega) (by omega))
        refine hR.mono ?_
        rintro e W3 ⟨rfl, hJ3, hb3⟩
        have hcell3 : W3.cell? ⟨Bs, 0, none⟩ = some (.string rest) := by simp [World.cell?, hb3]
        have hfr3 : W3.frozen? ⟨Bs, 0, none⟩ = false := by simp [World.frozen?, hb3]
        have hnew : ∀ t', (W3.setCell ⟨Bs, 0, none⟩ (.string t')).heap[Bs]? = some (strO t') := fun t' => by simp [World.setCell, Array.getElem?_modify, hb3]
        have hcn : ∀ t', strSz (W3.setCell ⟨Bs, 0, none⟩ (.string t')) Bs = t'.size := fun t' => by unfold strSz World.cell?; rw [hnew]; rfl
        gi_wp2
        refine ⟨⟨acc ++ [65533], _, f, hnew _, hJs _ _ _ _ hJ3 hb3, hg2, by rw [List.append_assoc]; exact hacc, by omega, by rw [List.length_append, List.length_singleton]; omega⟩, ?_⟩
        rw [hcn, hmu]
        omega
      · have hC : repC rest = decC rest := by
          unfold decC at hc ⊢; unfold repC
          split at hc
          · omega
          · rename_i h; rw [if_neg h, if_neg (by omega)]
        have hC2 : decC rest ≤ 1114111 := by rw [← hC]; unfold repC; split <;> omega
        rw [hC] at hacc
        gi_wp2_with (refine ⟨trivial, ?_⟩; gi_at_call 93; refine (uDecode rest wr (hdec rest wr acc hgr hz hJ)).mono ?_; rintro e W2 ⟨rfl, hb2⟩; obtain ⟨fn, tmps, assign, body, hy, hR⟩ := hY acc W2 (decC rest) rest (hJd _ _ _ hJ hb2) ((hb2.block Bs hblt).trans hb) (by omega) (by omega) (by omega))
        refine hR.mono ?_
        rintro e W3 ⟨rfl, hJ3, hb3⟩
        have hcell3 : W3.cell? ⟨Bs, 0, none⟩ = some (.string rest) := by simp [World.cell?, hb3]
        have hfr3 : W3.frozen? ⟨Bs, 0, none⟩ = false := by simp [World.frozen?, hb3]
        have hnew : ∀ t', (W3.setCell ⟨Bs, 0, none⟩ (.string t')).heap[Bs]? = some (strO t') := fun t' => by simp [World.setCell, Array.getElem?_modify, hb3]
        have hcn : ∀ t', strSz (W3.setCell ⟨Bs, 0, none⟩ (.string t')) Bs = t'.size := fun t' => by unfold strSz World.cell?; rw [hnew]; rfl
        gi_wp2
        refine ⟨⟨acc ++ [decC rest], _, f, hnew _, hJs _ _ _ _ hJ3 hb3, hg2, by rw [List.append_assoc]; exact hacc, by omega, by rw [List.length_append, List.length_singleton]; omega⟩, ?_⟩
        rw [hcn, hmu]
        omega
theorem wpIn_eachU {g : Operand} {ps : Array Tmp} {assign body : Code} {Q : Exit → Act → World → Prop} {a : Act} {w : World} (Bs : Nat) (hg : a.eval g = .func (.func 92) #[] #[.pointer (some ⟨Bs, 0, none⟩)]) (hps : ps.size = 1)
    (good : ByteArray → Prop) (hgood : ∀ t, good t → t.size ≠ 0 → good (t.extract (Lib.decodeGo t).2 t.size)) (s : ByteArray) (hgs : good s) (hBs : w.heap[Bs]? = some (strO s))
    (I : List Int → World → Prop) (hdec : ∀ t W acc, good t → t.size ≠ 0 → I acc W → DecAt W t) (hId : ∀ acc A B, I acc A → Below A.heap.size A B → I acc B)
    (hIs : ∀ acc A t t', I acc A → A.heap[Bs]? = some (strO t) → I acc (A.setCell ⟨Bs, 0, none⟩ (.string t')))
    (hIp : ∀ acc A l r r', I acc A → w.heap.size ≤ l → A.heap[l]? = some (.loop r) → I acc (A.putObj l (.loop r'))) (h0 : I [] w) (a₁ : Int → Act)
    (hassign : ∀ (l : Nat) (c : Int) (W : World) (K : Act → World → Prop), K (a₁ c) W → assign.wpIn (Fence.wide.inRound l) 2 Tryz.prog (Exit.then K (fun _ _ _ => False)) { tmps := (ps.zip #[Value.int .i64 c]).foldl (fun t (p, v) => t.setIfInBounds p v) a.tmps, defers := [] } W)
    (hbody : ∀ (l : Nat) (acc : List Int) (c : Int) (W : World), I acc W → acc.length ≤ s.size → 0 < c → c ≤ 1114111 → body.wpIn (Fence.wide.inRound l) 2 Tryz.prog
      (fun e _ W' => e = .normal ∧ I (acc ++ [c]) W' ∧ (∀ t, W.heap[Bs]? = some (strO t) → W'.heap[Bs]? = some (strO t)) ∧ ∀ k o, w.heap.size ≤ k → W.heap[k]? = some o → o.isCells = false → W'.heap[k]? = some o) (a₁ c) W)
    (hdone : ∀ (D : Nat) (W : World), w.heap.size ≤ D → I (chF s.size s) W → W.heap[D]? = some (.deferred (some [])) → Q .normal { a with defers := { target := .collected D, args := #[] } :: a.defers } W) :
    (Code.rangeFunc g ps assign body).wpIn Fence.wide 4 Tryz.prog Q a w := by
  refine wpIn_rangeFunc ?_
  intro fn hfn
  have hBlt : Bs < w.heap.size := (Array.getElem?_eq_some_iff.1 hBs).1
  have hro : Fence.wide.round = none := rfl
  rw [hro]
  obtain ⟨rec, hrec⟩ : ∃ rec : LoopState → Option Code → Loop, rec = fun st pe => { state := st, pending := pe, fn, tmps := a.tmps, params := ps, assign, body, defers := w.heap.size } := ⟨_, rfl⟩
  obtain ⟨W1, hW1⟩ : ∃ W1, (w.alloc (.deferred (some []))).alloc (.loop (rec .ready none)) = W1 := ⟨_, rfl⟩
  have hL1 : W1.heap[w.heap.size + 1]? = some (.loop (rec .ready none)) := by
    rw [← hW1]; have := World.alloc_heap_new (w.alloc (.deferred (some []))) (.loop (rec .ready none)); rwa [World.size_alloc] at this
  have hK1 : W1.heap[w.heap.size]? = some (.deferred (some [])) := by
    rw [← hW1]; exact (Below.heap_alloc _ _ _ (by simp)).trans (World.alloc_heap_new w _)
  have hb1 : Below w.heap.size w W1 := by
    rw [← hW1]; exact ((Below.refl _ w).alloc (Nat.le_refl _) _).alloc (by simp) _
  have hI1 : I [] W1 := hId _ _ _ h0 hb1
  have hBs1 : W1.heap[Bs]? = some (strO s) := (hb1.block Bs hBlt).trans hBs
  have eg := enters_of (P := Tryz.prog) Tryz.func92 (by kernel_rfl) rfl
  refine ⟨w.heap.size + 1, [{ target := .collected w.heap.size, args := #[] }], W1, { target := .fn (.func 92) #[.pointer (some ⟨Bs, 0, none⟩)], args := #[.func (.yield (w.heap.size + 1)) #[] #[]] }, W1, 92,
    #[.func (.yield (w.heap.size + 1)) #[] #[], .pointer (some ⟨Bs, 0, none⟩)], W1, ?_, ?_, ?_, ?_, fun _ => by omega, ?_⟩
  · rw [← hW1, hrec]; exact run_enterLoop_outer _ _ _ _ _
  · simp only [resolve, hg]
    simp [go_sem]
  · intro f' hf'; trivial
  · simp [invoke, go_sem, eg]
  · refine (uEach1 (w.heap.size + 1) Bs s.size (fun acc W => I acc W ∧ W.heap[w.heap.size + 1]? = some (.loop (rec .ready none)) ∧ W.heap[w.heap.size]? = some (.deferred (some []))) good hgood (fun t W acc hgt h0 hJ => hdec t W acc hgt h0 hJ.1)
      (fun acc A B hJ hb => ⟨hId _ _ _ hJ.1 hb, (hb.block _ (Array.getElem?_eq_some_iff.1 hJ.2.1).1).trans hJ.2.1, (hb.block _ (Array.getElem?_eq_some_iff.1 hJ.2.2).1).trans hJ.2.2⟩)
      (fun acc A t t' hJ hA => ⟨hIs _ _ _ _ hJ.1 hA, (Below.heap_setCell _ _ _ _ (by show w.heap.size + 1 ≠ Bs; omega)).trans hJ.2.1, (Below.heap_setCell _ _ _ _ (by show w.heap.size ≠ Bs; omega)).trans hJ.2.2⟩)
      ?_ s W1 hBs1 hgs ⟨hI1, hL1, hK1⟩ (Nat.le_refl _)).mono ?_
    · rintro acc W c t ⟨hi, hl, hk⟩ hbt hlen hc0 hc1
      have hlt : w.heap.size + 1 < W.heap.size := (Array.getElem?_eq_some_iff.1 hl).1
      have hy := run_yield (P := Tryz.prog) (args := #[Value.int .i64 c]) hl (by rw [hrec]; exact hps.symm)
      rw [hrec] at hy
      refine ⟨fn, _, assign, body, hy, roundIn_of_wpIn trivial (hassign _ c W _ ⟨_, run_beginRound hl (by rw [hrec]), ?_⟩)⟩
      have hl2 : (W.putObj (w.heap.size + 1) (.loop { rec .ready none with state := .busy })).heap[w.heap.size + 1]? = some (.loop { rec .ready none with state := .busy }) := World.putObj_heap_same hlt
      have hk2 : (W.putObj (w.heap.size + 1) (.loop { rec .ready none with state := .busy })).heap[w.heap.size]? = some (.deferred (some [])) := (World.putObj_heap_other (by omega)).trans hk
      have hb2 : (W.putObj (w.heap.size + 1) (.loop { rec .ready none with state := .busy })).heap[Bs]? = some (strO t) := (World.putObj_heap_other (by omega)).trans hbt
      refine wpIn_mono (hbody _ acc c _ (hIp _ _ _ _ _ hi (by omega) hl) hlen hc0 hc1) ?_
      rintro e a3 W3 ⟨rfl, hi3, hb3, hoth⟩
      have hl3 := hoth _ _ (by omega) hl2 rfl
      have hk3 := hoth _ _ (Nat.le_refl _) hk2 rfl
      have hr := run_endRound (P := Tryz.prog) none hl3
      refine ⟨_, _, hr, rfl, ⟨hIp _ _ _ _ _ hi3 (by omega) hl3, ?_, (World.putObj_heap_other (by omega)).trans hk3⟩, (World.putObj_heap_other (by omega)).trans (hb3 t hb2)⟩
      rw [World.putObj_heap_same (Array.getElem?_eq_some_iff.1 hl3).1, hrec]
      rfl
    · rintro e W2 ⟨⟨v, rfl⟩, hi, hl, hk⟩
      refine ⟨none, _, run_endLoop (P := Tryz.prog) hl (by rw [hrec]; simp) |>.trans (by rw [hrec]), hdone _ _ (Nat.le_refl _) (hIp _ _ _ _ _ hi (by omega) hl) ((World.putObj_heap_other (by omega)).trans hk)⟩

set_option maxHeartbeats 2000000 in
theorem uRepair (good : ByteArray → Prop) (hgood : ∀ t, good t → t.size ≠ 0 → good (t.extract (Lib.decodeGo t).2 t.size)) (s : ByteArray) (w : World) (hg : good s) (hs : s.size ≤ 17592186044416)
    (hdec : ∀ t W, good t → t.size ≠ 0 → Below w.heap.size w W → DecAt W t) :
    Calls Tryz.prog 30 #[.string s] w fun e w' => e = .returned (.string ⟨(repF s.size s).toArray⟩) ∧ Below w.heap.size w w' := by
  rw [repF_ch]
  refine (callsIn_wide (n := 4)).1 ?_
  refine callsIn_of_wp_marks Tryz.func30 rfl trivial ?_ rfl
  simp only [Tryz.ntmps30, List.size_toArray, List.length_cons, List.length_nil, Nat.reduceAdd, Nat.reduceSub, Array.replicate_succ, Array.replicate_zero, List.push_toArray, List.append_toArray, List.nil_append, List.cons_append]
  gi_wp2_with (refine ⟨trivial, ?_⟩; gi_at_call 61; refine (uEach s _).mono ?_; rintro e w' ⟨rfl, rfl⟩)
  obtain ⟨w0, hw0⟩ : ∃ w0, (w.alloc (Obj.cells #[Value.pointer none, Value.slice none 0 0] 55)).alloc (Obj.cells #[Value.string s] 9) = w0 := ⟨_, rfl⟩
  rw [hw0]
  have hsz0 : w0.heap.size = w.heap.size + 2 := by rw [← hw0]; simp
  have hBs0 : w0.heap[w.heap.size + 1]? = some (strO s) := by
    rw [← hw0]
    have := World.alloc_heap_new (w.alloc (Obj.cells #[Value.pointer none, Value.slice none 0 0] 55)) (strO s)
    rwa [World.size_alloc] at this
  have hb0 : Below w.heap.size w w0 := by rw [← hw0]; exact ((Below.refl _ w).alloc (Nat.le_refl _) _).alloc (by simp) _
  have hI0 : Lib.IsBuilderF 55 5 w.heap.size w.heap.size (Lib.byteCells []) w0 := by
    rw [← hw0]
    exact (Lib.IsBuilderF.of (Lib.fresh_isBuilder 55 5 w)).alloc _
  refine wpIn_eachU (w.heap.size + 1) rfl rfl good hgood s hg hBs0 (fun acc W => Lib.IsBuilderF 55 5 w.heap.size w.heap.size (Lib.byteCells (acc.flatMap Lib.encodeRune)) W ∧ Below w.heap.size w W) (fun t W acc hgt h0 hJ => hdec t W hgt h0 hJ.2)
    (fun acc A B hJ hb => ⟨hJ.1.below hb, hJ.2.trans (hb.mono hJ.2.size)⟩)
    (fun acc A t t' hJ hA => ⟨uB_kept hJ.1 (k := w.heap.size + 1) ⟨rfl, rfl, rfl, by simp [World.setCell], fun k _ hk => Below.heap_setCell _ _ _ _ (fun e => hk (by simp [e]))⟩ (by omega) hA (fun c fz h => by cases h), hJ.2.setCell (p := ⟨w.heap.size + 1, 0, none⟩) (by show w.heap.size ≤ w.heap.size + 1; omega) _⟩)
    (fun acc A l r r' hJ hl hA => ⟨uB_kept hJ.1 (grownBy_putObj' A l _) (by omega) hA (fun c fz h => by cases h), hJ.2.grown (grownBy_putObj' A l _) hJ.2.size (fun k e => by cases e; omega)⟩)
    ⟨hI0, hb0⟩ (fun c => { tmps := #[.string s, undef, .string ⟨#[]⟩, .pointer (some ⟨w.heap.size, 0, none⟩), .int .i64 c, .string s, .func (.func 92) #[] #[.pointer (some ⟨w.heap.size + 1, 0, none⟩)], .int .i64 c, undef, undef, undef, undef], defers := [] }) ?assign ?body ?done
  case assign =>
    intro l c W K hK
    gi_wp2
    exact hK
  case body =>
    rintro l acc c W ⟨hi, hb⟩ hlen hc0 hc1
    have hsz : w.heap.size ≤ W.heap.size := hb.size
    have hd : 1 ≤ (2 : Nat) - 1 := by omega
    gi_wp2_with (refine ⟨trivial, ?_⟩; gi_at_call 62; refine (CallsIn.inRound l (callsIn_wide.2 (Any.Builder_WriteRune_k Tryz.uRen_168 Tryz.uExtra w.heap.size w.heap.size _ c (by omega) (by omega) W hi (by rw [Lib.byteCells_length]; have := enc_len acc; omega) hsz))).mono ?_; rintro e W1 ⟨rfl, h1, b1, k1⟩)
    refine ⟨⟨by rw [Lib.byteCells_append (acc.flatMap Lib.encodeRune), Lib.byteCells_encodeRune]; exact .inr h1, hb.trans b1⟩, fun t ht => k1 _ _ ht (by simp) (fun c fz h => by cases h), fun k o hk ho hc => k1 _ _ ho (by simp; omega) (fun c fz h => by subst h; cases hc)⟩
  case done =>
    rintro D W hD ⟨hi, hb⟩ hK
    gi_wp2_with (refine ⟨trivial, ?_⟩; gi_at_call 51; refine (callsIn_wide.2 (Any.Builder_String_any_k Tryz.uRen_169 Tryz.uExtra w.heap.size w.heap.size _ W hi hb.size)).mono ?_; rintro e W1 ⟨rfl, _, b1, k1⟩)
    have hK1 := k1 D _ hK (by simp; omega) (fun c fz h => by cases h)
    refine ⟨by simp, .inl ⟨_, _, rfl, run_takeDeferred hK1, ?_⟩⟩
    refine ⟨_, results_tmp rfl _ _ _, rfl, ?_⟩
    exact (hb.trans b1).grown (grownBy_putObj' W1 D _) (hb.trans b1).size (fun k e => by cases e; omega)
def asciiB (t : ByteArray) : Prop := ∀ b ∈ t.data.toList, b.toNat < 128
theorem dec_cons (c : UInt8) (l : List UInt8) (h : c.toNat < 128) : Lib.decodeGo ⟨(c :: l).toArray⟩ = (c.toNat, 1) := by
  have hsz : (⟨(c :: l).toArray⟩ : ByteArray).size = l.length + 1 := by simp [ByteArray.size]
  have hp : 0 < (⟨(c :: l).toArray⟩ : ByteArray).size := by omega
  have hx : (⟨(c :: l).toArray⟩ : ByteArray)[0]'hp = c := rfl
  unfold Lib.decodeGo
  rw [if_neg (by omega), decode_ascii _ 0 hp (by rw [hx]; exact h), hx]
theorem ext_cons (c : UInt8) (l : List UInt8) : (⟨(c :: l).toArray⟩ : ByteArray).extract 1 (⟨(c :: l).toArray⟩ : ByteArray).size = ⟨l.toArray⟩ := by
  apply ByteArray.ext
  rw [ByteArray.data_extract]
  apply Array.ext'
  simp [ByteArray.size]
theorem uB_list (t : ByteArray) : ∃ l : List UInt8, t = ⟨l.toArray⟩ ∧ l = t.data.toList := ⟨t.data.toList, by cases t; rfl, rfl⟩
theorem ascii_step : ∀ t, asciiB t → t.size ≠ 0 → asciiB (t.extract (Lib.decodeGo t).2 t.size) := fun t h hz => by
  obtain ⟨l, rfl, _⟩ := uB_list t
  cases l with
  | nil => exact absurd rfl hz
  | cons c l =>
    have hc : c.toNat < 128 := h c (by simp)
    rw [dec_cons c l hc, ext_cons]
    exact fun b hb => h b (by simp at hb ⊢; exact .inr hb)
theorem ascii_dec (t : ByteArray) (W : World) (h : asciiB t) (hz : t.size ≠ 0) : DecAt W t := by
  obtain ⟨l, rfl, _⟩ := uB_list t
  cases l with
  | nil => exact absurd rfl hz
  | cons c l =>
    have hc : c.toNat < 128 := h c (by simp)
    unfold DecAt
    rw [dec_cons c l hc]
    exact (Any.utf8_DecodeRuneInString_ascii Tryz.uRen_197 ⟨(c :: l).toArray⟩ c W rfl hc).mono fun e w' ⟨he, hw⟩ => ⟨he, by rw [hw]; exact Below.refl _ _⟩
theorem repF_ascii : ∀ (l : List UInt8) (m : Nat), l.length ≤ m → (∀ c ∈ l, 1 ≤ c.toNat ∧ c.toNat < 128) → repF m ⟨l.toArray⟩ = l
  | [], m, _, _ => by
    cases m with
    | zero => rfl
    | succ m => rw [repF, if_pos (by rfl)]
  | c :: l, m, hm, h => by
    obtain ⟨m, rfl⟩ : ∃ q, m = q + 1 := ⟨m - 1, by rw [List.length_cons] at hm; omega⟩
    obtain ⟨h1, h2⟩ := h c (by simp)
    have hsz : (⟨(c :: l).toArray⟩ : ByteArray).size = l.length + 1 := by simp [ByteArray.size]
    have ih := repF_ascii l m (by rw [List.length_cons] at hm; omega) (fun d hd => h d (by simp [hd]))
    rw [repF, if_neg (by omega), dec_cons c l h2, ext_cons, ih]
    have hC : repC ⟨(c :: l).toArray⟩ = (c.toNat : Int) := by unfold repC; rw [dec_cons c l h2, if_neg (by show c.toNat ≠ 0; omega)]
    rw [hC]
    unfold Lib.encodeRune
    rw [Lib.encodeRuneZ_one (by omega) (by omega)]
    show [((c.toNat : Int)).toNat.toUInt8] ++ l = c :: l
    rw [Int.toNat_natCast]
    show [UInt8.ofNat c.toNat] ++ l = _
    rw [UInt8.ofNat_toNat]; rfl
theorem uRepairA (s : List UInt8) (w : World) (h : ∀ c ∈ s, 1 ≤ c.toNat ∧ c.toNat < 128) (hs : s.length ≤ 17592186044416) :
    Calls Tryz.prog 30 #[.string ⟨s.toArray⟩] w fun e w' => e = .returned (.string ⟨s.toArray⟩) ∧ Below w.heap.size w w' := by
  have hsz : (⟨s.toArray⟩ : ByteArray).size = s.length := by simp [ByteArray.size]
  refine (uRepair asciiB ascii_step ⟨s.toArray⟩ w (fun b hb => (h b (by simpa using hb)).2) (by omega) (fun t W hg hz _ => ascii_dec t W hg hz)).mono fun e w' ⟨he, hb⟩ => ⟨?_, hb⟩
  rw [he, repF_ascii s _ (by omega) h]
end Go.Proofs
set_option linter.unusedVariables false
set_option linter.unusedSimpArgs false
set_option maxRecDepth 100000
namespace Go.Proofs
open Go.Shelf
end Go.Proofs
namespace Go.Mu
open Go Go.Proofs Go.RowKit
section
variable {P : Program} {w w' : World} {E : Env} {H : Heap}
def ba (s : List UInt8) : ByteArray := ⟨⟨s⟩⟩
theorem ba_size (s : List UInt8) : (ba s).size = s.length := rfl
theorem ba_eq {b : ByteArray} {s : List UInt8} (h : b.data.toList = s) : b = ba s := by
  subst h
  cases b with | mk d => cases d with | mk l => rfl
end
end Go.Mu
set_option linter.unusedVariables false
set_option linter.unusedSimpArgs false
set_option maxRecDepth 100000
namespace Go.Proofs
open Go.RowKit Go.Shelf
attribute [local go_sem] Oper.semAt_some
def Tryz.cRen : Ren := {
  f := fun x => match x with
    | 137 => 67
    | 217 => 96
    | 266 => 112
    | n => n,
  t := fun x => match x with
    | 3 => 3
    | 5 => 5
    | 9 => 9
    | n => n,
  g := fun x => match x with
    | n => n }
theorem Tryz.cRen_137 : Lays.n137 Tryz.prog Tryz.cRen := {
  mixed := by kernel_rfl
  f137 := Tryz.func67.trans (congrArg some (by kernel_rfl))
  f217 := Tryz.func96.trans (congrArg some (by kernel_rfl))
  f266 := Tryz.func112.trans (congrArg some (by kernel_rfl))
  t3 := Tryz.underlying3
  a3 := Tryz.isAgg3
  z3 := Tryz.sizeOf3
  v3 := Tryz.zeroValue3
  t5 := Tryz.underlying5
  a5 := Tryz.isAgg5
  z5 := Tryz.sizeOf5
  v5 := Tryz.zeroValue5
  t9 := Tryz.underlying9
  a9 := Tryz.isAgg9
  z9 := Tryz.sizeOf9
  v9 := Tryz.zeroValue9
}

def cleanC (l : List UInt8) (c : UInt8) : Bool := decide (Lib.indexByte l c ≥ 0)
def cleanM (l : List UInt8) : Bool := !(cleanC l 60 || cleanC l 62 || cleanC l 34 || cleanC l 39)
abbrev blkC : Obj := .cells #[.int .u8 60, .int .u8 62, .int .u8 34, .int .u8 39] 5 (4, 5)
set_option maxHeartbeats 2000000 in
theorem uClean (s : ByteArray) (w : World) : Calls Tryz.prog 35 #[.string s] w fun e w' => e = .returned (.bool (cleanM s.data.toList)) ∧ Below w.heap.size w w' := by
  refine (callsIn_wide (n := 3)).1 ?_
  have kc := fun (w : World) (C : Array Value) (n c : Nat) => Lib.run_convert_bytes_const (P := Tryz.prog) w 43 5 C n c Tryz.underlying43 Tryz.underlying5
  have hcell : ∀ i c, (#[Value.int .u8 60, Value.int .u8 62, Value.int .u8 34, Value.int .u8 39] : Array Value)[i]? = some c → (w.alloc blkC).cell? ⟨w.heap.size, i, none⟩ = some c := fun i c h => by
    have := World.alloc_heap_new w blkC
    simp only [World.cell?, this]
    simpa using h
  have hc0 := hcell 0 _ rfl
  have hc1 := hcell 1 _ rfl
  have hc2 := hcell 2 _ rfl
  have hc3 := hcell 3 _ rfl
  unfold blkC at hc0 hc1 hc2 hc3
  refine callsIn_of_wp Tryz.func35 rfl trivial ?_ rfl
  simp only [Tryz.ntmps35, List.size_toArray, List.length_cons, List.length_nil, Nat.reduceAdd, Nat.reduceSub, Array.replicate_succ, Array.replicate_zero, List.push_toArray, List.append_toArray, List.nil_append, List.cons_append]
  have hbw : Below w.heap.size w (w.alloc blkC) := (Below.refl _ w).alloc (Nat.le_refl _) _
  unfold blkC at hbw
  gi_wp2
  gi_loopw [8] (fun p wr => ∃ i : Nat, p = .int .i64 i ∧ i ≤ 4 ∧ wr = w.alloc blkC ∧ ∀ k, k < i → cleanC s.data.toList (([60, 62, 34, 39] : List UInt8).getD k 0) = false) (fun p wr => 4 - (intOf p).toNat)
  case atStart =>
    exact ⟨0, rfl, by omega, rfl, fun k hk => by omega⟩
  case round =>
    obtain ⟨i, rfl, hi, rfl, hk⟩ := hrel
    unfold blkC
    rcases (show i = 0 ∨ i = 1 ∨ i = 2 ∨ i = 3 ∨ i = 4 by omega) with rfl | rfl | rfl | rfl | rfl
    · have cB : ∀ w', Calls Tryz.prog 67 #[.string s, .int .u8 60] w' fun e w'' => e = .returned (.int .i64 (Lib.indexByte s.data.toList 60)) ∧ w'' = w' := fun w' => Any.strings_IndexByte Tryz.cRen_137 s 60 w'
      have hd : cleanC s.data.toList 60 = decide (Lib.indexByte s.data.toList 60 ≥ 0) := rfl
      generalize Lib.indexByte s.data.toList 60 = x at cB hd
      by_cases hb : x ≥ 0
      · rw [decide_eq_true hb] at hd
        have hM : cleanM s.data.toList = false := by unfold cleanM; rw [hd]; simp
        gi_wp2_with (refine ⟨trivial, ?_⟩; gi_at_call 67; refine (callsIn_wide.2 (cB _)).mono ?_; rintro e w' ⟨rfl, rfl⟩)
        go_ret
        exact ⟨congrArg (fun b => Ending.returned (Value.bool b)) hM.symm, hbw⟩
      · rw [decide_eq_false hb] at hd
        gi_wp2_with (refine ⟨trivial, ?_⟩; gi_at_call 67; refine (callsIn_wide.2 (cB _)).mono ?_; rintro e w' ⟨rfl, rfl⟩)
        refine ⟨⟨1, by first | rfl | trivial, by omega, by first | rfl | trivial, fun k hk' => ?_⟩, by simp [intOf]⟩
        by_cases he : k = 0
        · subst he; exact hd
        · exact hk k (by omega)
    · have cB : ∀ w', Calls Tryz.prog 67 #[.string s, .int .u8 62] w' fun e w'' => e = .returned (.int .i64 (Lib.indexByte s.data.toList 62)) ∧ w'' = w' := fun w' => Any.strings_IndexByte Tryz.cRen_137 s 62 w'
      have hd : cleanC s.data.toList 62 = decide (Lib.indexByte s.data.toList 62 ≥ 0) := rfl
      generalize Lib.indexByte s.data.toList 62 = x at cB hd
      by_cases hb : x ≥ 0
      · rw [decide_eq_true hb] at hd
        have hM : cleanM s.data.toList = false := by unfold cleanM; rw [hd]; simp
        gi_wp2_with (refine ⟨trivial, ?_⟩; gi_at_call 67; refine (callsIn_wide.2 (cB _)).mono ?_; rintro e w' ⟨rfl, rfl⟩)
        go_ret
        exact ⟨congrArg (fun b => Ending.returned (Value.bool b)) hM.symm, hbw⟩
      · rw [decide_eq_false hb] at hd
        gi_wp2_with (refine ⟨trivial, ?_⟩; gi_at_call 67; refine (callsIn_wide.2 (cB _)).mono ?_; rintro e w' ⟨rfl, rfl⟩)
        refine ⟨⟨2, by first | rfl | trivial, by omega, by first | rfl | trivial, fun k hk' => ?_⟩, by simp [intOf]⟩
        by_cases he : k = 1
        · subst he; exact hd
        · exact hk k (by omega)
    · have cB : ∀ w', Calls Tryz.prog 67 #[.string s, .int .u8 34] w' fun e w'' => e = .returned (.int .i64 (Lib.indexByte s.data.toList 34)) ∧ w'' = w' := fun w' => Any.strings_IndexByte Tryz.cRen_137 s 34 w'
      have hd : cleanC s.data.toList 34 = decide (Lib.indexByte s.data.toList 34 ≥ 0) := rfl
      generalize Lib.indexByte s.data.toList 34 = x at cB hd
      by_cases hb : x ≥ 0
      · rw [decide_eq_true hb] at hd
        have hM : cleanM s.data.toList = false := by unfold cleanM; rw [hd]; simp
        gi_wp2_with (refine ⟨trivial, ?_⟩; gi_at_call 67; refine (callsIn_wide.2 (cB _)).mono ?_; rintro e w' ⟨rfl, rfl⟩)
        go_ret
        exact ⟨congrArg (fun b => Ending.returned (Value.bool b)) hM.symm, hbw⟩
      · rw [decide_eq_false hb] at hd
        gi_wp2_with (refine ⟨trivial, ?_⟩; gi_at_call 67; refine (callsIn_wide.2 (cB _)).mono ?_; rintro e w' ⟨rfl, rfl⟩)
        refine ⟨⟨3, by first | rfl | trivial, by omega, by first | rfl | trivial, fun k hk' => ?_⟩, by simp [intOf]⟩
        by_cases he : k = 2
        · subst he; exact hd
        · exact hk k (by omega)
    · have cB : ∀ w', Calls Tryz.prog 67 #[.string s, .int .u8 39] w' fun e w'' => e = .returned (.int .i64 (Lib.indexByte s.data.toList 39)) ∧ w'' = w' := fun w' => Any.strings_IndexByte Tryz.cRen_137 s 39 w'
      have hd : cleanC s.data.toList 39 = decide (Lib.indexByte s.data.toList 39 ≥ 0) := rfl
      generalize Lib.indexByte s.data.toList 39 = x at cB hd
      by_cases hb : x ≥ 0
      · rw [decide_eq_true hb] at hd
        have hM : cleanM s.data.toList = false := by unfold cleanM; rw [hd]; simp
        gi_wp2_with (refine ⟨trivial, ?_⟩; gi_at_call 67; refine (callsIn_wide.2 (cB _)).mono ?_; rintro e w' ⟨rfl, rfl⟩)
        go_ret
        exact ⟨congrArg (fun b => Ending.returned (Value.bool b)) hM.symm, hbw⟩
      · rw [decide_eq_false hb] at hd
        gi_wp2_with (refine ⟨trivial, ?_⟩; gi_at_call 67; refine (callsIn_wide.2 (cB _)).mono ?_; rintro e w' ⟨rfl, rfl⟩)
        refine ⟨⟨4, by first | rfl | trivial, by omega, by first | rfl | trivial, fun k hk' => ?_⟩, by simp [intOf]⟩
        by_cases he : k = 3
        · subst he; exact hd
        · exact hk k (by omega)
    · have hM : cleanM s.data.toList = true := by
        have h0 := hk 0 (by omega)
        have h1 := hk 1 (by omega)
        have h2 := hk 2 (by omega)
        have h3 := hk 3 (by omega)
        simp only [List.getD_cons_zero, List.getD_cons_succ] at h0 h1 h2 h3
        unfold cleanM
        rw [h0, h1, h2, h3]; rfl
      gi_wp2
      go_ret
      exact ⟨congrArg (fun b => Ending.returned (Value.bool b)) hM.symm, hbw⟩
end Go.Proofs
namespace Go.Mu
open Go Go.Proofs
theorem clean_ok (s : List UInt8) : CallOK Tryz.prog 35 [.str s] [] (.ret (.bool (cleanM s)) []) := by
  refine CallOK.below (fun w E cs sim hl hr => ?_)
  obtain ⟨x, rfl⟩ : ∃ x, cs = [x] := by
    match cs, hl with
    | [x], _ => exact ⟨x, rfl⟩
  obtain ⟨b, e1, e2⟩ := rep_str (hr 0 (by simp))
  replace e1 : x = .string b := e1
  subst e1
  refine ⟨.bool (cleanM s), ?_, .pure _ _ (.bool _)⟩
  rw [← e2]
  exact uClean b w
def cleanTold : FSp := mkFS [.s] (fun _ => true) (fun xs k => k (.ret (.bool (cleanM (aS xs 0))) []))
theorem cleanTold_ok : ∀ xs H k out, cleanTold xs H k = some out → ∃ o, CallOK Tryz.prog 35 xs H o ∧ k o = some out := mkFS_ok fun ys xs e h => by
  obtain ⟨s, rfl⟩ : ∃ s, xs = [.str s] := ⟨_, e⟩
  exact ⟨_, fun k => rfl, clean_ok s⟩
end Go.Mu
set_option linter.unusedVariables false
set_option linter.unusedSimpArgs false
set_option maxRecDepth 100000
namespace Go.Mu
open Go Go.Proofs
theorem repA_ok (s : List UInt8) (h : ∀ c ∈ s, 1 ≤ c.toNat ∧ c.toNat < 128) (hs : s.length ≤ 17592186044416) : CallOK Tryz.prog 30 [.str s] [] (.ret (.str s) []) := by
  refine CallOK.below (fun w E cs sim hl hr => ?_)
  obtain ⟨x, rfl⟩ : ∃ x, cs = [x] := by
    match cs, hl with
    | [x], _ => exact ⟨x, rfl⟩
  obtain ⟨b, e1, e2⟩ := rep_str (hr 0 (by simp))
  replace e1 : x = .string b := e1
  subst e1
  rw [ba_eq e2]
  exact ⟨.string (ba s), uRepairA s w h hs, .pure _ _ (.str (ba s))⟩
def repATold : FSp := mkFS [.s] (fun xs => (aS xs 0).all (fun c => decide (1 ≤ c.toNat) && decide (c.toNat < 128)) && decide ((aS xs 0).length ≤ 17592186044416)) (fun xs k => k (.ret (.str (aS xs 0)) []))
theorem repATold_ok : ∀ xs H k out, repATold xs H k = some out → ∃ o, CallOK Tryz.prog 30 xs H o ∧ k o = some out := mkFS_ok fun ys xs e h => by
  obtain ⟨s, rfl⟩ : ∃ s, xs = [.str s] := ⟨_, e⟩
  rw [Bool.and_eq_true, decide_eq_true_eq, List.all_eq_true] at h
  refine ⟨_, fun k => rfl, repA_ok s (fun c hc => ?_) h.2⟩
  have := h.1 c hc
  rw [Bool.and_eq_true, decide_eq_true_eq, decide_eq_true_eq] at this
  exact this
end Go.Mu
set_option linter.unusedVariables false
set_option linter.unusedSimpArgs false
set_option maxRecDepth 100000
namespace Go.Mu
open Go Go.Proofs
noncomputable def layFa : Lay := (((((Lay.nil.addF 35 cleanTold).addF 20 decTold).addF 36 schTold).addF 40 safTold).addF 41 plaTold).addF 30 repATold
theorem layFa_ok : layFa.OK Tryz.prog := (((((Lay.nil_ok.addF cleanTold_ok).addF decTold_ok).addF schTold_ok).addF safTold_ok).addF plaTold_ok).addF repATold_ok
theorem alive35_fun (k : Out → Ans) : iFun Tryz.prog (layFa.hd Tryz.prog) layFa.fhs 0 6 [] [] k = (
  k (Out.ret (AVal.bool (bif bif decP [38, 108, 116, 59] == [60] then true else false then true else false)) [])) := by kernel_rfl
theorem decP_lt : decP [38, 108, 116, 59] = [60] := by
  unfold decP
  show decR 4 [38, 108, 116, 59] = [60]
  rw [decR, oneP_lt]
  show [60] ++ decR 3 [] = [60]
  rw [decR]; rfl
theorem alive35_ok : CallOK Tryz.prog 6 [] [] (.ret (.bool true) []) := layFa_ok.callF (G := []) rfl (fun k => (alive35_fun k).trans (by rw [decP_lt]; rfl))
def alive35Told : FSp := mkFS [] (fun _ => true) (fun _ k => k (.ret (.bool true) []))
theorem alive35Told_ok : ∀ xs H k out, alive35Told xs H k = some out → ∃ o, CallOK Tryz.prog 6 xs H o ∧ k o = some out := mkFS_ok fun ys xs e h => by
  obtain rfl : xs = [] := e
  exact ⟨_, fun k => rfl, alive35_ok⟩
end Go.Mu
set_option linter.unusedVariables false
set_option linter.unusedSimpArgs false
set_option maxRecDepth 100000
namespace Go.Mu
open Go Go.Proofs
def enO (b x : Int) : UInt8 := byteOf [AVal.int IntKind.u8 (IntKind.u8.wrap (((BitVec.ofInt 8 b ||| BitVec.ofInt 8 (IntKind.u8.wrap x)).toNat : Nat) : Int))]
def enT (x : Int) : UInt8 := byteOf [AVal.int IntKind.u8 (IntKind.u8.wrap (((BitVec.ofInt 8 128 ||| BitVec.ofInt 8 (IntKind.u8.wrap (((BitVec.ofInt 8 (IntKind.u8.wrap x) &&& BitVec.ofInt 8 63).toNat : Nat) : Int))).toNat : Nat) : Int))]
theorem wrap8 (x : Int) : IntKind.u8.wrap x = x % 256 := by simp [IntKind.wrap, IntKind.signed, IntKind.bits]
theorem enT_eq (x : Int) : enT x = (128 + x % 64).toNat.toUInt8 := by
  have h : ∀ m : Fin 256, byteOf [AVal.int IntKind.u8 (IntKind.u8.wrap (((BitVec.ofInt 8 128 ||| BitVec.ofInt 8 (IntKind.u8.wrap (((BitVec.ofInt 8 (m.val : Int) &&& BitVec.ofInt 8 63).toNat : Nat) : Int))).toNat : Nat) : Int))] = (128 + (m.val : Int) % 64).toNat.toUInt8 := by decide +kernel
  unfold enT
  rw [wrap8 x]
  have hm : 0 ≤ x % 256 ∧ x % 256 < 256 := by omega
  have := h ⟨(x % 256).toNat, by omega⟩
  simp only [Int.toNat_of_nonneg hm.1] at this
  rw [this, show x % 256 % 64 = x % 64 by omega]
theorem enO_192 (x : Int) (h : 0 ≤ x ∧ x < 32) : enO 192 x = (192 + x).toNat.toUInt8 := by
  have h2 : ∀ m : Fin 32, enO 192 (m.val : Int) = (192 + (m.val : Int)).toNat.toUInt8 := by decide +kernel
  have := h2 ⟨x.toNat, by omega⟩
  simpa only [Int.toNat_of_nonneg h.1] using this
theorem enO_224 (x : Int) (h : 0 ≤ x ∧ x < 16) : enO 224 x = (224 + x).toNat.toUInt8 := by
  have h2 : ∀ m : Fin 16, enO 224 (m.val : Int) = (224 + (m.val : Int)).toNat.toUInt8 := by decide +kernel
  have := h2 ⟨x.toNat, by omega⟩
  simpa only [Int.toNat_of_nonneg h.1] using this
theorem enO_240 (x : Int) (h : 0 ≤ x ∧ x < 8) : enO 240 x = (240 + x).toNat.toUInt8 := by
  have h2 : ∀ m : Fin 8, enO 240 (m.val : Int) = (240 + (m.val : Int)).toNat.toUInt8 := by decide +kernel
  have := h2 ⟨x.toNat, by omega⟩
  simpa only [Int.toNat_of_nonneg h.1] using this
def badR (n : Int) : Bool := decide (n < 0) || decide (n > 1114111) || (decide (55296 ≤ n) && decide (n ≤ 57343))
def encX (n : Int) : List UInt8 := bif badR n then [] else Lib.encodeRune n
def encXE (n : Int) : Int := bif badR n then 4 else 0
theorem encode_exact (n : Int) (h0 : 0 ≤ n) (h : n ≤ 2147483647) (k : Out → Ans) : iFun Tryz.prog (Lay.nil.hd Tryz.prog) Lay.nil.fhs 0 86 [.int .i64 n] [] k = k (.ret (.tuple [.str (encX n), .int .i64 (encXE n)]) []) := by
  have w1 : IntKind.i32.wrap n = n := by simp [IntKind.wrap, IntKind.signed, IntKind.bits]; omega
  have w2 : IntKind.u32.wrap n = n := by simp [IntKind.wrap, IntKind.signed, IntKind.bits]; omega
  have f64 : n.fdiv 64 = n / 64 := Int.fdiv_eq_ediv_of_nonneg _ (by decide)
  have f4 : n.fdiv 4096 = n / 4096 := Int.fdiv_eq_ediv_of_nonneg _ (by decide)
  have f26 : n.fdiv 262144 = n / 262144 := Int.fdiv_eq_ediv_of_nonneg _ (by decide)
  refine (encode_fun n k).trans ?_
  simp only [w1, w2, f64, f4, f26]
  unfold encX encXE badR
  by_cases hb : n > 1114111
  · simp (disch := omega) only [dT, dF, cond_true, cond_false, Bool.or_true, Bool.true_or, Bool.false_or, Bool.or_false]
  by_cases hs : 55296 ≤ n ∧ n ≤ 57343
  · obtain ⟨hs1, hs2⟩ := hs
    simp (disch := omega) only [dT, dF, cond_true, cond_false, Bool.or_true, Bool.true_or, Bool.false_or, Bool.or_false, Bool.and_self]
  have hsb : (decide (55296 ≤ n) && decide (n ≤ 57343)) = false := by
    by_cases h1 : 55296 ≤ n
    · rw [dF (show ¬ n ≤ 57343 by omega), Bool.and_false]
    · rw [dF h1, Bool.false_and]
  rw [hsb, dF (show ¬ n < 0 by omega), dF hb]
  have fin : ∀ (t : List UInt8), t = Lib.encodeRune n → k (Out.ret (AVal.tuple [AVal.str t, AVal.int IntKind.i64 0]) []) = k (Out.ret (AVal.tuple [AVal.str (bif false || false || false then [] else Lib.encodeRune n), AVal.int IntKind.i64 (bif false || false || false then 4 else 0)]) []) := fun t e => by rw [e]; rfl
  by_cases h1 : n ≤ 127
  · simp (disch := omega) only [dT, dF, cond_true, cond_false]
    refine fin _ ?_
    unfold Lib.encodeRune
    rw [Lib.encodeRuneZ_one h0 h1]
    show [UInt8.ofNat (IntKind.u8.wrap n).toNat] = [n.toNat.toUInt8]
    rw [wrap8, show n % 256 = n by omega, Nat.toUInt8]
  by_cases h2 : n ≤ 2047
  · simp (disch := omega) only [dT, dF, cond_true, cond_false]
    refine fin _ ?_
    unfold Lib.encodeRune
    rw [Lib.encodeRuneZ_two (by omega) h2]
    show [enO 192 (n / 64), enT n] = [(192 + n / 64).toNat.toUInt8, (128 + n % 64).toNat.toUInt8]
    rw [enO_192 _ (by omega), enT_eq]
  by_cases h3 : n ≤ 65535
  · have key : (k (Out.ret (AVal.tuple [AVal.str [enO 224 (n / 4096), enT (n / 64), enT n], AVal.int IntKind.i64 0]) [])) = k (Out.ret (AVal.tuple [AVal.str (bif false || false || false then [] else Lib.encodeRune n), AVal.int IntKind.i64 (bif false || false || false then 4 else 0)]) []) := by
      refine fin _ ?_
      unfold Lib.encodeRune
      rw [Lib.encodeRuneZ_three (by omega), enO_224 _ (by omega), enT_eq, enT_eq]
      rfl
    by_cases h4 : n < 55296
    · simp (disch := omega) only [dT, dF, cond_true, cond_false]
      exact key
    · simp (disch := omega) only [dT, dF, cond_true, cond_false]
      exact key
  simp (disch := omega) only [dT, dF, cond_true, cond_false]
  refine fin _ ?_
  unfold Lib.encodeRune
  rw [Lib.encodeRuneZ_four (by omega) (by omega)]
  show [enO 240 (n / 262144), enT (n / 4096), enT (n / 64), enT n] = _
  rw [enO_240 _ (by omega), enT_eq, enT_eq, enT_eq]
  rfl
theorem enc_exact {n : Int} (h0 : 0 ≤ n) (h : n ≤ 2147483647) : encS' n = encX n ∧ encE n = encXE n := by
  have h3 := fun k => (encode_is n k).symm.trans (encode_exact n h0 h k)
  have h4 := h3 some
  simp only [Option.some.injEq, Out.ret.injEq, AVal.tuple.injEq, List.cons.injEq, AVal.str.injEq, AVal.int.injEq, and_true, true_and] at h4
  exact h4
end Go.Mu
set_option linter.unusedVariables false
set_option linter.unusedSimpArgs false
set_option maxRecDepth 100000
namespace Go.Mu
open Go Go.Proofs
def isX (c : UInt8) : Bool := IntKind.u8.wrap (((BitVec.ofInt 8 (c.toNat : Int) ||| BitVec.ofInt 8 32).toNat : Nat) : Int) == 120
noncomputable def onW4 (t : List UInt8) (hex : Bool) (n : Nat) : List UInt8 × Nat := bif t == [] || !numB t hex then ([], 0) else (bif encE (valA t hex) != 0 || valA t hex == 0 then [239, 191, 189] else encS' (valA t hex), n)
noncomputable def onW3 (v : List UInt8) (n : Nat) : List UInt8 × Nat := bif !(v == []) && isX (v.getD 0 0) then onW4 (v.drop 1) true n else onW4 v false n
noncomputable def onW2 (w : List UInt8) (n : Nat) : List UInt8 × Nat :=
  bif w == [97, 109, 112] then ([38], n) else bif w == [108, 116] then ([60], n) else bif w == [103, 116] then ([62], n) else bif w == [113, 117, 111, 116] then ([34], n) else bif w == [97, 112, 111, 115] then ([39], n) else
  bif !(w.take 1 == [35]) then ([], 0) else onW3 (w.drop 1) n
noncomputable def oneW (s : List UInt8) : List UInt8 × Nat :=
  bif !(s.getD 0 0 == 38) then ([], 0) else bif decide (ibM (s.take 16) 59 < 0) then ([], 0) else onW2 ((s.take (ibM (s.take 16) 59).toNat).drop 1) (ibM (s.take 16) 59 + 1).toNat
theorem oneP_W38 (t : List UInt8) (ht : t.length < 1099511627776) : oneP (38 :: t) = oneW (38 :: t) := by
  obtain ⟨s, hs⟩ : ∃ s, s = 38 :: t := ⟨_, rfl⟩
  have hl : s.length = t.length + 1 := by rw [hs]; rfl
  obtain ⟨n0, e0⟩ : ∃ n0 : Int, n0 = s.length := ⟨_, rfl⟩
  obtain ⟨c1, e1⟩ : ∃ c1, c1 = (s == []) := ⟨_, rfl⟩
  obtain ⟨n2, e2⟩ : ∃ n2 : Int, n2 = (if 16 < n0 then 16 else n0) := ⟨_, rfl⟩
  obtain ⟨n3, e3⟩ : ∃ n3, n3 = ibM (List.drop (Int.toNat 0) (List.take n2.toNat s)) 59 := ⟨_, rfl⟩
  obtain ⟨c4, e4⟩ : ∃ c4, c4 = (decide (1 ≤ n3) && decide (n3 ≤ n0)) := ⟨_, rfl⟩
  obtain ⟨l5, e5⟩ : ∃ l5, l5 = List.drop (Int.toNat 1) (List.take n3.toNat s) := ⟨_, rfl⟩
  obtain ⟨m6, e6⟩ : ∃ m6, m6 = l5.length := ⟨_, rfl⟩
  obtain ⟨n7, e7⟩ : ∃ n7 : Int, n7 = m6 := ⟨_, rfl⟩
  obtain ⟨c8, e8⟩ : ∃ c8, c8 = decide (1 ≤ n7) := ⟨_, rfl⟩
  obtain ⟨c9, e9⟩ : ∃ c9, c9 = decide (n7 ≥ 1) := ⟨_, rfl⟩
  obtain ⟨l10, e10⟩ : ∃ l10, l10 = List.drop (Int.toNat 1) (List.take n7.toNat l5) := ⟨_, rfl⟩
  obtain ⟨m11, e11⟩ : ∃ m11, m11 = l10.length := ⟨_, rfl⟩
  obtain ⟨n12, e12⟩ : ∃ n12 : Int, n12 = m11 := ⟨_, rfl⟩
  obtain ⟨c13, e13⟩ : ∃ c13, c13 = (l10 == []) := ⟨_, rfl⟩
  obtain ⟨c14, e14⟩ : ∃ c14, c14 = !c13 := ⟨_, rfl⟩
  obtain ⟨l15, e15⟩ : ∃ l15, l15 = List.drop (Int.toNat 1) (List.take n12.toNat l10) := ⟨_, rfl⟩
  obtain ⟨c16, e16⟩ : ∃ c16, c16 = decide (l15.length ≤ 1099511627776) := ⟨_, rfl⟩
  obtain ⟨n17, e17⟩ : ∃ n17, n17 = valA l15 true := ⟨_, rfl⟩
  obtain ⟨c18, e18⟩ : ∃ c18, c18 = decide (m11 ≤ 1099511627776) := ⟨_, rfl⟩
  obtain ⟨n19, e19⟩ : ∃ n19, n19 = valA l10 false := ⟨_, rfl⟩
  have key := (fun k : Out → Ans => rone_fun s k n0 e0 c1 e1 n2 e2 n3 e3 c4 e4 l5 e5 m6 e6 n7 e7 c8 e8 c9 e9 l10 e10 m11 e11 n12 e12 c13 e13 c14 e14 l15 e15 c16 e16 n17 e17 c18 e18 n19 e19)
  rw [← hs]
  have fin : (∀ k : Out → Ans, iFun Tryz.prog (layY7.hd Tryz.prog) layY7.fhs 0 48 [.str s] [] k = k (.ret (.tuple [.str (oneW s).1, .int .i64 ((oneW s).2 : Nat)]) [])) → oneP s = oneW s := fun h => oneP_eq (by omega) h
  refine fin (fun k => (key k).trans ?_)
  clear key fin
  have h1 : c1 = false := by rw [e1, hs]; rfl
  have hc : (((s.getD 0 0).toNat : Int) != 38) = false := by rw [hs]; rfl
  have g0 : decide (0 < n0) = true := dT (by omega)
  have h2 : 0 ≤ n2 ∧ n2 ≤ n0 := by rw [e2]; split <;> omega
  have h5 : l5.length ≤ s.length := by rw [e5]; simp; omega
  have h10 : l10.length ≤ s.length := by rw [e10]; simp; omega
  have h15 : l15.length ≤ s.length := by rw [e15]; simp; omega
  have g16 : c16 = true := by rw [e16]; exact dT (by omega)
  have g18 : c18 = true := by rw [e18]; exact dT (by omega)
  have g6 : decide (m6 ≤ 1099511627776) = true := dT (by omega)
  have g77 : decide (n7 ≤ n7) = true := dT (Int.le_refl _)
  have g1212 : decide (n12 ≤ n12) = true := dT (Int.le_refl _)
  have e16 : List.drop (Int.toNat 0) (List.take n2.toNat s) = s.take 16 := by
    show List.take n2.toNat s = s.take 16
    rw [e2]
    split
    · rfl
    · rw [List.take_of_length_le (by omega), List.take_of_length_le (by omega)]
  have hW : oneW s = bif decide (n3 < 0) then ([], 0) else onW2 l5 (n3 + 1).toNat := by
    unfold oneW
    rw [show (s.getD 0 0 == 38) = true by rw [hs]; rfl, ← e16, ← e3, e5]
    rfl
  rw [hW]
  simp only [h1, hc, g0, dT h2.1, dT h2.2, Bool.true_or, cond_true, cond_false, Bool.and_self]
  by_cases h3 : n3 < 0
  · simp only [dT h3, cond_true]; rfl
  have h31 : 1 ≤ n3 ∧ n3 < n2 := by
    have hlt := ib_lt (List.drop (Int.toNat 0) (List.take n2.toNat s)) 59
    have hd : (List.drop (Int.toNat 0) (List.take n2.toNat s)).length = n2.toNat := by simp; omega
    have e3' : n3 = Lib.indexByte (List.drop (Int.toNat 0) (List.take n2.toNat s)) 59 := e3
    refine ⟨?_, by omega⟩
    have hp : 0 < n2.toNat := by rw [e2]; split <;> omega
    obtain ⟨q, hq⟩ : ∃ q, n2.toNat = q + 1 := ⟨n2.toNat - 1, by omega⟩
    rw [hq, hs, List.take_succ_cons] at e3'
    have : n3 = if ((38 : UInt8) == 59) = true then 0 else if (Lib.indexByte (t.take q) 59 == -1) = true then -1 else Lib.indexByte (t.take q) 59 + 1 := e3'
    rw [if_neg (by decide)] at this
    have hge := Lib.indexByte_ge (t.take q) 59
    split at this
    · omega
    · rename_i hne
      have : Lib.indexByte (t.take q) 59 ≠ -1 := by simpa using hne
      omega
  have g4 : c4 = true := by rw [e4, dT h31.1, dT (show n3 ≤ n0 by omega)]; rfl
  have hw : IntKind.i64.wrap (n3 + 1) = (((n3 + 1).toNat : Nat) : Int) := by rw [wrap_of (by omega) (by omega)]; omega
  simp only [dF h3, g4, hw, g6, g16, g18, g77, g1212, Bool.and_true, Bool.or_true, cond_true, cond_false]
  generalize hN : (n3 + 1).toNat = N
  unfold onW2
  cases l5 == [97, 109, 112] with
  | true => rfl
  | false =>
  cases l5 == [108, 116] with
  | true => rfl
  | false =>
  cases l5 == [103, 116] with
  | true => rfl
  | false =>
  cases l5 == [113, 117, 111, 116] with
  | true => rfl
  | false =>
  cases l5 == [97, 112, 111, 115] with
  | true => rfl
  | false =>
  simp only [cond_false]
  have eT : List.drop (Int.toNat 0) (List.take (Int.toNat 1) l5) = l5.take 1 := rfl
  have eD : List.drop (Int.toNat 1) (List.take n7.toNat l5) = l5.drop 1 := by rw [List.take_of_length_le (by omega)]; rfl
  have eD2 : List.drop (Int.toNat 1) (List.take n12.toNat l10) = l10.drop 1 := by rw [List.take_of_length_le (by omega)]; rfl
  rw [eT]
  by_cases h7 : 1 ≤ n7
  case neg =>
    have g8 : c8 = false := by rw [e8]; exact dF h7
    have g9 : c9 = false := by rw [e9]; exact dF h7
    have hn : l5 = [] := List.eq_nil_of_length_eq_zero (by omega)
    simp only [g8, g9, Bool.not_false, Bool.or_true, cond_true, cond_false]
    rw [hn]; rfl
  have g8 : c8 = true := by rw [e8]; exact dT h7
  have g9 : c9 = true := by rw [e9]; exact dT h7
  simp only [g8, g9, Bool.true_or, cond_true]
  rw [eD] at e10
  cases l5.take 1 == [35] with
  | false => simp only [Bool.not_false, cond_true, Bool.or_true]; rfl
  | true =>
  simp only [Bool.not_true, cond_false, cond_true]
  rw [← e10]
  unfold onW3
  rw [eD2] at e15
  by_cases he : l10 = []
  case pos =>
    have g13 : c13 = true := by rw [e13, he]; rfl
    have g14 : c14 = false := by rw [e14, g13]; rfl
    simp only [g13, g14, Bool.not_false, Bool.or_true, Bool.true_or, cond_true, cond_false]
    rw [he]; rfl
  have hp : 0 < l10.length := List.length_pos_iff.2 he
  have hb : (l10 == []) = false := by simpa using he
  have g13 : c13 = false := by rw [e13]; exact hb
  have g14 : c14 = true := by rw [e14, g13]; rfl
  have g12 : decide (0 < n12) = true := dT (by omega)
  have g12' : decide (1 ≤ n12) = true := dT (by omega)
  simp only [g13, g14, g12, g12', hb, Bool.not_false, Bool.not_true, Bool.or_true, Bool.true_or, Bool.true_and, cond_true, cond_false]
  show (bif isX (l10.getD 0 0) then _ else _) = _
  rw [← e15]
  unfold onW4
  cases isX (l10.getD 0 0) with
  | true =>
    simp only [cond_true, ← e17]
    cases l15 == [] with
    | true => rfl
    | false =>
      cases numB l15 true with
      | false => rfl
      | true =>
        cases encE n17 != 0 with
        | true => rfl
        | false => cases n17 == 0 <;> rfl
  | false =>
    simp only [cond_false, ← e19, hb]
    cases numB l10 false with
    | false => rfl
    | true =>
      cases encE n19 != 0 with
      | true => rfl
      | false => cases n19 == 0 <;> rfl
theorem oneP_W (s : List UInt8) (hs : s.length ≤ 1099511627776) : oneP s = oneW s := by
  cases h : s.getD 0 0 == 38 with
  | false => rw [oneP_no hs h]; unfold oneW; rw [h]; rfl
  | true =>
    cases s with
    | nil => cases h
    | cons c t =>
      obtain rfl : c = 38 := by simpa using h
      exact oneP_W38 t (by rw [List.length_cons] at hs; omega)
end Go.Mu
set_option linter.unusedVariables false
set_option linter.unusedSimpArgs false
set_option maxRecDepth 100000
namespace Go.Mu
open Go Go.Proofs
def hexc (c : UInt8) : Bool := anyI [97, 98, 99, 100, 101, 102, 65, 66, 67, 68, 69, 70] (c.toNat : Int)
def dgt (hex : Bool) (c : UInt8) : Bool := dig c || (hex && hexc c)
def dvl (c : UInt8) : Nat := bif dig c then c.toNat - 48 else bif decide (97 ≤ c.toNat) && decide (c.toNat ≤ 102) then c.toNat - 87 else bif decide (65 ≤ c.toNat) && decide (c.toNat ≤ 70) then c.toNat - 55 else 0
def bas (hex : Bool) : Nat := bif hex then 16 else 10
def numN (hex : Bool) (n : Nat) (l : List UInt8) : Nat := l.foldl (fun n c => n * bas hex + dvl c) n
theorem numN_cons (hex : Bool) (n : Nat) (c : UInt8) (l : List UInt8) : numN hex n (c :: l) = numN hex (n * bas hex + dvl c) l := rfl
def runQ (hex : Bool) (t : List UInt8) : Nat := (t.takeWhile (dgt hex)).length
def refC (n : Nat) : List UInt8 := bif badR (n : Int) || n == 0 then [239, 191, 189] else Lib.encodeRune (n : Int)
def onQ (s : List UInt8) (at_ : Nat) (hex : Bool) : List UInt8 × Nat :=
  bif !(decide (1 ≤ runQ hex (s.drop at_)) && decide (runQ hex (s.drop at_) ≤ 7) && decide (at_ + runQ hex (s.drop at_) < s.length) && s.getD (at_ + runQ hex (s.drop at_)) 0 == 59) then ([], 0)
  else (refC (numN hex 0 ((s.drop at_).take (runQ hex (s.drop at_)))), at_ + runQ hex (s.drop at_) + 1)
def hxQ (s : List UInt8) : Bool := decide (2 < s.length) && (s.getD 2 0 == 120 || s.getD 2 0 == 88)
def oneQ (s : List UInt8) : List UInt8 × Nat :=
  bif [38, 97, 109, 112, 59].isPrefixOf s then ([38], 5) else bif [38, 108, 116, 59].isPrefixOf s then ([60], 4) else bif [38, 103, 116, 59].isPrefixOf s then ([62], 4) else
  bif [38, 113, 117, 111, 116, 59].isPrefixOf s then ([34], 6) else bif [38, 97, 112, 111, 115, 59].isPrefixOf s then ([39], 6) else
  bif !([38, 35].isPrefixOf s) then ([], 0) else bif hxQ s then onQ s 3 true else onQ s 2 false
theorem oct256 {p : UInt8 → Prop} [DecidablePred p] (h : ∀ n : Fin 256, p (UInt8.ofNat n)) (c : UInt8) : p c := by
  have := h ⟨c.toNat, c.toNat_lt⟩
  simpa using this
theorem isX_eq (c : UInt8) : isX c = (c == 120 || c == 88) := oct256 (p := fun c => isX c = (c == 120 || c == 88)) (by decide +kernel) c
theorem inD (c : UInt8) : (!decide (ibM octDg (c.toNat : Int) < 0)) = dgt false c := oct256 (p := fun c => (!decide (ibM octDg (c.toNat : Int) < 0)) = dgt false c) (by decide +kernel) c
theorem inX (c : UInt8) : (!decide (ibM octHx (c.toNat : Int) < 0)) = dgt true c := oct256 (p := fun c => (!decide (ibM octHx (c.toNat : Int) < 0)) = dgt true c) (by decide +kernel) c
theorem hexD_eq (c : UInt8) : dgt true c = true → hexD c = (dvl c : Nat) ∧ dvl c < 16 := oct256 (p := fun c => dgt true c = true → hexD c = (dvl c : Nat) ∧ dvl c < 16) (by decide +kernel) c
theorem dg_eq (c : UInt8) : dgt false c = true → dvl c < 10 ∧ IntKind.i64.wrap (IntKind.u8.wrap ((c.toNat : Int) - 48)) = (dvl c : Nat) := oct256 (p := fun c => dgt false c = true → dvl c < 10 ∧ IntKind.i64.wrap (IntKind.u8.wrap ((c.toNat : Int) - 48)) = (dvl c : Nat)) (by decide +kernel) c
theorem dg59 (hex : Bool) : dgt hex 59 = false := by cases hex <;> decide
theorem numB_eq (t : List UInt8) (hex : Bool) : numB t hex = (t.all (dgt hex) && decide (t.length ≤ 7)) := by
  unfold numB nmrM
  cases hex with
  | true => simp only [cond_true]; rw [List.all_congr rfl (fun c => inX c)]
  | false => simp only [cond_false]; rw [List.all_congr rfl (fun c => inD c)]
theorem ib_split : ∀ (l : List UInt8) (c : UInt8), (Lib.indexByte l c = -1 ∧ c ∉ l) ∨ ∃ p q, l = p ++ c :: q ∧ c ∉ p ∧ Lib.indexByte l c = (p.length : Nat)
  | [], c => .inl ⟨rfl, by simp⟩
  | b :: l, c => by
    rw [Lib.indexByte]
    by_cases hb : b = c
    · subst hb
      exact .inr ⟨[], l, rfl, by simp, by simp⟩
    · have hb2 : (b == c) = false := by simpa using hb
      rw [hb2, if_neg (by decide)]
      rcases ib_split l c with ⟨h1, h2⟩ | ⟨p, q, rfl, h2, h3⟩
      · rw [h1]
        exact .inl ⟨rfl, by simp [h2, Ne.symm hb]⟩
      · refine .inr ⟨b :: p, q, rfl, by simp [h2, Ne.symm hb], ?_⟩
        rw [h3]
        have : ((p.length : Int) == -1) = false := by simp only [beq_eq_false_iff_ne, ne_eq]; omega
        rw [this, if_neg (by decide)]
        simp
theorem pre_name : ∀ (nm w r : List UInt8), (59 : UInt8) ∉ nm → (59 : UInt8) ∉ w → (nm ++ [59]).isPrefixOf (w ++ 59 :: r) = (w == nm)
  | [], [], r, _, _ => rfl
  | [], c :: w, r, _, h => by
    have hc : ((59 : UInt8) == c) = false := by
      simp only [beq_eq_false_iff_ne, ne_eq]
      intro e; exact h (by simp [e])
    show ((59 : UInt8) == c && _) = false
    rw [hc]; rfl
  | d :: nm, [], r, h, _ => by
    have hc : (d == (59 : UInt8)) = false := by
      simp only [beq_eq_false_iff_ne, ne_eq]
      intro e; exact h (by simp [e])
    show (d == (59 : UInt8) && _) = false
    rw [hc]; rfl
  | d :: nm, c :: w, r, h1, h2 => by
    have := pre_name nm w r (fun h => h1 (by simp [h])) (fun h => h2 (by simp [h]))
    show (d == c && (nm ++ [59]).isPrefixOf (w ++ 59 :: r)) = (c == d && (w == nm))
    rw [this, Bool.beq_comm]
theorem runQ_all : ∀ (hex : Bool) (t r : List UInt8), t.all (dgt hex) = true → runQ hex (t ++ 59 :: r) = t.length
  | hex, [], r, _ => by
    unfold runQ
    rw [List.nil_append, List.takeWhile_cons, dg59]
    rfl
  | hex, c :: t, r, h => by
    rw [List.all_cons, Bool.and_eq_true] at h
    have := runQ_all hex t r h.2
    unfold runQ at this ⊢
    rw [List.cons_append, List.takeWhile_cons, h.1, if_pos rfl, List.length_cons, this, List.length_cons]
theorem runQ_not : ∀ (hex : Bool) (t r : List UInt8), t.all (dgt hex) = false → (59 : UInt8) ∉ t → runQ hex (t ++ 59 :: r) < t.length ∧ (t ++ 59 :: r).getD (runQ hex (t ++ 59 :: r)) 0 ≠ 59
  | hex, [], r, h, _ => by cases h
  | hex, c :: t, r, h, h59 => by
    unfold runQ
    rw [List.cons_append, List.takeWhile_cons]
    cases hc : dgt hex c with
    | false =>
      refine ⟨by simp, ?_⟩
      show c ≠ 59
      intro e; exact h59 (by simp [e])
    | true =>
      rw [List.all_cons, hc, Bool.true_and] at h
      obtain ⟨h1, h2⟩ := runQ_not hex t r h (fun h => h59 (by simp [h]))
      unfold runQ at h1 h2
      rw [if_pos rfl, List.length_cons, List.length_cons, List.getD_cons_succ]
      exact ⟨by omega, h2⟩
theorem vaM_num : ∀ (l : List UInt8) (n m : Nat), l.all (dgt false) = true → n < 10 ^ m → m + l.length ≤ 7 → vaM (n : Int) l = (numN false n l : Nat) ∧ numN false n l < 10 ^ (m + l.length)
  | [], n, m, _, hn, _ => ⟨rfl, hn⟩
  | c :: l, n, m, h, hn, hm => by
    rw [List.all_cons, Bool.and_eq_true] at h
    rw [List.length_cons] at hm
    obtain ⟨d1, d2⟩ := dg_eq c h.1
    have hp : 10 ^ m ≤ 10 ^ 6 := Nat.pow_le_pow_right (by decide) (by omega)
    have h6 : (10 : Nat) ^ 6 = 1000000 := by decide
    have e : vaS (n : Int) c = ((n * 10 + dvl c : Nat) : Int) := by
      unfold vaS
      rw [d2, wrap_of (n := (n : Int) * 10) (by omega) (by omega), wrap_of (by omega) (by omega)]
      omega
    have hn2 : n * 10 + dvl c < 10 ^ (m + 1) := by rw [Nat.pow_succ]; omega
    obtain ⟨g1, g2⟩ := vaM_num l (n * 10 + dvl c) (m + 1) h.2 hn2 (by omega)
    refine ⟨?_, ?_⟩
    · show vaM (vaS (n : Int) c) l = _
      rw [e, g1]; rfl
    · rw [numN_cons]
      show numN false (n * 10 + dvl c) l < _
      rw [List.length_cons, show m + (l.length + 1) = m + 1 + l.length by omega]
      exact g2
theorem hexS_num (n d : Nat) (hn : n < 268435456) (hd : d < 16) : hexS (n : Int) (d : Int) = ((n * 16 + d : Nat) : Int) := by
  unfold hexS
  rw [wrap_of (n := (n : Int) * 16) (by omega) (by omega)]
  have e1 : BitVec.ofInt 64 ((n : Int) * 16) = BitVec.ofNat 64 (n * 16) := by
    rw [show ((n : Int) * 16) = ((n * 16 : Nat) : Int) by omega, BitVec.ofInt_natCast]
  have e2 : BitVec.ofInt 64 (d : Int) = BitVec.ofNat 64 d := BitVec.ofInt_natCast _ _
  rw [e1, e2, ← BitVec.ofNat_or]
  have e3 : n * 16 ||| d = n * 16 + d := by
    have := Nat.shiftLeft_add_eq_or_of_lt (show d < 2 ^ 4 by omega) n
    rw [Nat.shiftLeft_eq] at this
    exact this.symm
  rw [e3, BitVec.toNat_ofNat, Nat.mod_eq_of_lt (by omega), wrap_of (by omega) (by omega)]
theorem uhM_num : ∀ (l : List UInt8) (n m : Nat), l.all (dgt true) = true → n < 16 ^ m → m + l.length ≤ 7 → uhM (n : Int) l = (true, ((numN true n l : Nat) : Int)) ∧ numN true n l < 16 ^ (m + l.length)
  | [], n, m, _, hn, _ => ⟨rfl, hn⟩
  | c :: l, n, m, h, hn, hm => by
    rw [List.all_cons, Bool.and_eq_true] at h
    rw [List.length_cons] at hm
    obtain ⟨d1, d2⟩ := hexD_eq c h.1
    have hp : 16 ^ m ≤ 16 ^ 6 := Nat.pow_le_pow_right (by decide) (by omega)
    have h6 : (16 : Nat) ^ 6 = 16777216 := by decide
    have e : hexS (n : Int) (hexD c) = ((n * 16 + dvl c : Nat) : Int) := by rw [d1]; exact hexS_num n _ (by omega) d2
    have hn2 : n * 16 + dvl c < 16 ^ (m + 1) := by rw [Nat.pow_succ]; omega
    obtain ⟨g1, g2⟩ := uhM_num l (n * 16 + dvl c) (m + 1) h.2 hn2 (by omega)
    refine ⟨?_, ?_⟩
    · rw [uhM, dF (show ¬ hexD c < 0 by rw [d1]; omega), cond_false, e, g1]; rfl
    · rw [numN_cons]
      show numN true (n * 16 + dvl c) l < _
      rw [List.length_cons, show m + (l.length + 1) = m + 1 + l.length by omega]
      exact g2
theorem valA_num (t : List UInt8) (hex : Bool) (ht : t ≠ []) (h : t.all (dgt hex) = true) (hl : t.length ≤ 7) : valA t hex = (numN hex 0 t : Nat) ∧ numN hex 0 t < 2147483648 := by
  have hb : (t == []) = false := by simpa using ht
  cases hex with
  | true =>
    obtain ⟨g1, g2⟩ := uhM_num t 0 0 h (by decide) (by omega)
    have hp : 16 ^ (0 + t.length) ≤ 16 ^ 7 := Nat.pow_le_pow_right (by decide) (by omega)
    have h7 : (16 : Nat) ^ 7 = 268435456 := by decide
    refine ⟨?_, by omega⟩
    unfold valA unhexM
    have g1' : uhM 0 t = (true, ((numN true 0 t : Nat) : Int)) := g1
    rw [hb, dF (show ¬ (t.length : Int) > 8 by omega), g1']; rfl
  | false =>
    obtain ⟨g1, g2⟩ := vaM_num t 0 0 h (by decide) (by omega)
    have hp : 10 ^ (0 + t.length) ≤ 10 ^ 7 := Nat.pow_le_pow_right (by decide) (by omega)
    have h7 : (10 : Nat) ^ 7 = 10000000 := by decide
    exact ⟨g1, by omega⟩
theorem onW4_Q (s t r : List UInt8) (at_ : Nat) (hex : Bool) (N : Nat) (h59 : (59 : UInt8) ∉ t) (hd : s.drop at_ = t ++ 59 :: r) (hN : N = at_ + t.length + 1) : onW4 t hex N = onQ s at_ hex := by
  have hlen : s.length = at_ + t.length + 1 + r.length := by
    have h1 := congrArg List.length hd
    rw [List.length_drop, List.length_append, List.length_cons] at h1
    omega
  have hg : ∀ n, s.getD (at_ + n) 0 = (t ++ 59 :: r).getD n 0 := fun n => by rw [← hd, List.getD_drop]
  unfold onW4 onQ
  rw [hg, hd, numB_eq]
  cases ha : t.all (dgt hex) with
  | false =>
    obtain ⟨g1, g2⟩ := runQ_not hex t r ha h59
    have e : ((t ++ 59 :: r).getD (runQ hex (t ++ 59 :: r)) 0 == 59) = false := by simpa using g2
    rw [e]
    simp
  | true =>
    rw [runQ_all hex t r ha]
    have e : ((t ++ 59 :: r).getD t.length 0 == 59) = true := by
      rw [List.getD_eq_getElem?_getD, List.getElem?_append_right (Nat.le_refl _), Nat.sub_self]; rfl
    rw [e, dT (show at_ + t.length < s.length by omega)]
    by_cases ht : t = []
    · subst ht; rfl
    have hp : 0 < t.length := List.length_pos_iff.2 ht
    have hb : (t == []) = false := by simpa using ht
    rw [hb, dT (show 1 ≤ t.length by omega)]
    by_cases h7 : t.length ≤ 7
    · rw [dT h7]
      obtain ⟨v1, v2⟩ := valA_num t hex ht ha h7
      have e2 : (t ++ 59 :: r).take t.length = t := List.take_left
      obtain ⟨x1, x2⟩ := enc_exact (n := ((numN hex 0 t : Nat) : Int)) (by omega) (by omega)
      rw [e2, v1, x1, x2, hN]
      unfold refC encXE encX
      have e3 : (((numN hex 0 t : Nat) : Int) == 0) = (numN hex 0 t == 0) := by
        rw [Bool.eq_iff_iff]; simp
      rw [e3]
      cases badR ((numN hex 0 t : Nat) : Int) with
      | true => rfl
      | false => cases numN hex 0 t == 0 <;> rfl
    · rw [dF h7]; simp
theorem pre_in {nm s : List UInt8} {c : UInt8} {k : Nat} (h : nm.isPrefixOf s = true) (hc : c ∈ nm) (hk : nm.length ≤ k) : c ∈ s.take k := by
  have hp : nm <+: s := List.isPrefixOf_iff_prefix.1 h
  obtain ⟨r, rfl⟩ := hp
  rw [List.take_append, List.take_of_length_le hk]
  exact List.mem_append_left _ hc
theorem isN (nm w r : List UInt8) (h1 : (59 : UInt8) ∉ nm) (h2 : (59 : UInt8) ∉ w) : (38 :: (nm ++ [59])).isPrefixOf (38 :: (w ++ 59 :: r)) = (w == nm) := by
  show ((38 : UInt8) == 38 && (nm ++ [59]).isPrefixOf (w ++ 59 :: r)) = _
  rw [pre_name nm w r h1 h2]; rfl
theorem oneW_Q (s : List UInt8) : oneW s = oneQ s := by
  cases h38 : s.getD 0 0 == 38 with
  | false =>
    unfold oneW oneQ
    rw [h38]
    have hp : ∀ l : List UInt8, (38 :: l).isPrefixOf s = false := fun l => by
      cases s with
      | nil => rfl
      | cons c u =>
        have hc : ((38 : UInt8) == c) = false := by
          rw [Bool.beq_comm]; exact h38
        show ((38 : UInt8) == c && _) = false
        rw [hc]; rfl
    rw [hp, hp, hp, hp, hp, hp]
    rfl
  | true =>
    obtain ⟨u, rfl⟩ : ∃ u, s = 38 :: u := by
      cases s with
      | nil => cases h38
      | cons c u => exact ⟨u, by rw [show c = 38 by simpa using h38]⟩
    have hW : oneW (38 :: u) = bif decide (ibM ((38 :: u).take 16) 59 < 0) then ([], 0) else onW2 (((38 :: u).take (ibM ((38 :: u).take 16) 59).toNat).drop 1) (ibM ((38 :: u).take 16) 59 + 1).toNat := rfl
    have hib : ibM ((38 :: u).take 16) 59 = Lib.indexByte ((38 :: u).take 16) 59 := rfl
    rw [hW, hib]
    rcases ib_split ((38 :: u).take 16) 59 with ⟨h1, h2⟩ | ⟨p, q, h1, h2, h3⟩
    · -- no end within sixteen
      rw [h1, dT (by decide), cond_true]
      have hno : ∀ nm : List UInt8, (59 : UInt8) ∈ nm → nm.length ≤ 16 → nm.isPrefixOf (38 :: u) = false := fun nm hm hl => by
        cases hp : nm.isPrefixOf (38 :: u) with
        | false => rfl
        | true => exact absurd (pre_in hp hm hl) h2
      unfold oneQ
      rw [hno _ (by decide) (by decide), hno _ (by decide) (by decide), hno _ (by decide) (by decide), hno _ (by decide) (by decide), hno _ (by decide) (by decide)]
      have hon : ∀ at_ hex, at_ ≤ 3 → onQ (38 :: u) at_ hex = ([], 0) := fun at_ hex hat => by
        unfold onQ
        generalize runQ hex ((38 :: u).drop at_) = n
        by_cases h7 : n ≤ 7
        · by_cases hlt : at_ + n < (38 :: u).length
          · have hne : ((38 :: u).getD (at_ + n) 0 == 59) = false := by
              simp only [beq_eq_false_iff_ne, ne_eq]
              intro e
              apply h2
              have hm : ((38 :: u).take 16)[at_ + n]? = some 59 := by
                rw [List.getElem?_take_of_lt (by omega), List.getElem?_eq_getElem hlt]
                rw [List.getD_eq_getElem?_getD, List.getElem?_eq_getElem hlt] at e
                simpa using e
              exact List.mem_of_getElem? hm
            rw [hne]; simp
          · rw [dF hlt]; simp
        · rw [dF h7]; simp
      rw [hon 3 true (by omega), hon 2 false (by omega)]
      simp only [cond_false]
      cases [38, 35].isPrefixOf (38 :: u) <;> cases hxQ (38 :: u) <;> rfl
    · -- the name
      obtain ⟨w, rfl⟩ : ∃ w, p = 38 :: w := by
        cases p with
        | nil => rw [List.nil_append, List.take_succ_cons, List.cons.injEq] at h1; exact absurd h1.1 (by decide)
        | cons c w => rw [List.cons_append, List.take_succ_cons, List.cons.injEq] at h1; exact ⟨w, by rw [h1.1]⟩
      have h59 : (59 : UInt8) ∉ w := fun h => h2 (by simp [h])
      obtain ⟨r, hr⟩ : ∃ r, u = w ++ 59 :: r := by
        refine ⟨q ++ (38 :: u).drop 16, ?_⟩
        have := (List.take_append_drop 16 (38 :: u)).symm
        rw [h1] at this
        simpa using this
      subst hr
      rw [h3, dF (by omega), cond_false, Int.toNat_natCast]
      have e1 : ((38 :: (w ++ 59 :: r)).take (38 :: w).length).drop 1 = w := by
        rw [List.length_cons, List.take_succ_cons, List.take_left]; rfl
      have e2 : (((38 :: w).length : Int) + 1).toNat = w.length + 2 := by rw [List.length_cons]; omega
      rw [e1, e2]
      unfold onW2 oneQ
      have i1 : [38, 97, 109, 112, 59].isPrefixOf (38 :: (w ++ 59 :: r)) = (w == [97, 109, 112]) := isN [97, 109, 112] w r (by decide) h59
      have i2 : [38, 108, 116, 59].isPrefixOf (38 :: (w ++ 59 :: r)) = (w == [108, 116]) := isN [108, 116] w r (by decide) h59
      have i3 : [38, 103, 116, 59].isPrefixOf (38 :: (w ++ 59 :: r)) = (w == [103, 116]) := isN [103, 116] w r (by decide) h59
      have i4 : [38, 113, 117, 111, 116, 59].isPrefixOf (38 :: (w ++ 59 :: r)) = (w == [113, 117, 111, 116]) := isN [113, 117, 111, 116] w r (by decide) h59
      have i5 : [38, 97, 112, 111, 115, 59].isPrefixOf (38 :: (w ++ 59 :: r)) = (w == [97, 112, 111, 115]) := isN [97, 112, 111, 115] w r (by decide) h59
      rw [i1, i2, i3, i4, i5]
      by_cases n1 : w = [97, 109, 112]
      · subst n1; rfl
      by_cases n2 : w = [108, 116]
      · subst n2; rfl
      by_cases n3 : w = [103, 116]
      · subst n3; rfl
      by_cases n4 : w = [113, 117, 111, 116]
      · subst n4; rfl
      by_cases n5 : w = [97, 112, 111, 115]
      · subst n5; rfl
      have m1 : (w == [97, 109, 112]) = false := by simpa using n1
      have m2 : (w == [108, 116]) = false := by simpa using n2
      have m3 : (w == [103, 116]) = false := by simpa using n3
      have m4 : (w == [113, 117, 111, 116]) = false := by simpa using n4
      have m5 : (w == [97, 112, 111, 115]) = false := by simpa using n5
      rw [m1, m2, m3, m4, m5]
      simp only [cond_false]
      have hsh : [38, 35].isPrefixOf (38 :: (w ++ 59 :: r)) = (w.take 1 == [35]) := by
        cases w with
        | nil => rfl
        | cons c v =>
          show ((38 : UInt8) == 38 && ((35 : UInt8) == c && true)) = (c == 35 && true)
          rw [Bool.and_true, Bool.and_true, Bool.beq_comm (a := (35 : UInt8))]; rfl
      rw [hsh]
      cases hs : w.take 1 == [35] with
      | false => rfl
      | true =>
        obtain ⟨v, rfl⟩ : ∃ v, w = 35 :: v := by
          cases w with
          | nil => cases hs
          | cons c v => exact ⟨v, by rw [show c = 35 by simpa using hs]⟩
        simp only [Bool.not_true, cond_false]
        have hv : (59 : UInt8) ∉ v := fun h => h59 (by simp [h])
        show onW3 v ((35 :: v).length + 2) = _
        unfold onW3
        have hx : hxQ (38 :: (35 :: v ++ 59 :: r)) = (!(v == []) && isX (v.getD 0 0)) := by
          unfold hxQ
          rw [isX_eq, dT (by simp; omega), Bool.true_and]
          cases v with
          | nil => rfl
          | cons c t => rfl
        rw [hx]
        cases hc : !(v == []) && isX (v.getD 0 0) with
        | true =>
          cases v with
          | nil => cases hc
          | cons c t =>
            simp only [cond_true]
            exact onW4_Q _ t r 3 true _ (fun h => hv (by simp [h])) rfl (by simp only [List.length_cons]; omega)
        | false =>
          simp only [cond_false]
          exact onW4_Q _ v r 2 false _ hv rfl (by simp only [List.length_cons]; omega)
end Go.Mu
set_option linter.unusedVariables false
set_option linter.unusedSimpArgs false
set_option maxRecDepth 100000
namespace Go.Mu
open Go Go.Proofs
end Go.Mu
set_option linter.unusedVariables false
set_option linter.unusedSimpArgs false
set_option maxRecDepth 100000
namespace Go.Mu
open Go Go.Proofs Go.RowKit Go.Shelf
theorem tabs_of {w : World} {imm : Nat → Prop} (h : GlobOK w imm) : Lib.Utf8Tabs 1 2 w := by
  have key : ∀ g (cells : List AVal) (f : Nat → Nat) n, gvals g = some cells → cells.length = n → (∀ j, j < n → cells.getD j .undef = .int .u8 (f j)) → ∀ j, j < n → w.cell? ⟨g, j, none⟩ = some (.int .u8 (f j)) := by
    intro g cells f n hg hl hc j hj
    have hr := h.2 g cells hg
    obtain ⟨cs, h1, h2⟩ : ∃ cs : Nat → Value, (∀ j, j < cells.length → w.cell? ⟨g, 0 + j, none⟩ = some (cs j) ∧ (cs j).oneCell' = true) ∧ (∀ j, j < cells.length → RepP w imm (cells.getD j .undef) (cs j)) := by
      cases hr with
      | rptr _ _ _ cs _ h2 h3 => exact ⟨cs, h2, h3⟩
    have hx := (h1 j (by omega)).1
    have hy := h2 j (by omega)
    rw [hc j hj] at hy
    rw [Nat.zero_add] at hx
    rw [hx]
    generalize cs j = c at hy
    cases hy
    rfl
  refine ⟨fun c hc => ?_, fun i hi => ?_⟩
  · refine key 1 _ Lib.firstT 256 (by rfl) (by simp) (fun j hj => ?_) c hc
    simp [List.getD, hj]
  · have k2 := key 2 _ (fun j => if j % 2 = 0 then Lib.accLo (j / 2) else Lib.accHi (j / 2)) 32 (by rfl) (by simp) (fun j hj => by
      simp only [List.getD, List.getElem?_map, List.getElem?_range hj, Option.map_some, Option.getD_some]
      split <;> rfl)
    have a := k2 (2 * i) (by omega)
    have b := k2 (2 * i + 1) (by omega)
    simp only [show 2 * i % 2 = 0 by omega, show 2 * i / 2 = i by omega, show (2 * i + 1) % 2 ≠ 0 by omega, show (2 * i + 1) / 2 = i by omega, if_true, if_false] at a b
    exact ⟨a, by simpa using b⟩
theorem uDec (t : ByteArray) (w W : World) {imm : Nat → Prop} (h : GlobOK w imm) (hi : ∀ b, imm b → b < w.heap.size) (hb : Below w.heap.size w W) : DecAt W t := by
  have hT := Utf8Tabs_below (tabs_of h) hb
  exact Any.utf8_DecodeRuneInString Tryz.uRen_197 t W hT
theorem rep_ok (s : List UInt8) (hs : s.length ≤ 17592186044416) : CallOK Tryz.prog 30 [.str s] [] (.ret (.str (repF s.length ⟨s.toArray⟩)) []) := by
  refine CallOK.below (fun w E cs sim hl hr => ?_)
  obtain ⟨x, rfl⟩ : ∃ x, cs = [x] := by
    match cs, hl with
    | [x], _ => exact ⟨x, rfl⟩
  obtain ⟨b, e1, e2⟩ := rep_str (hr 0 (by simp))
  replace e1 : x = .string b := e1
  subst e1
  rw [ba_eq e2]
  have hsz : (ba s).size = s.length := by simp [ba, ByteArray.size]
  refine ⟨.string ⟨(repF s.length (ba s)).toArray⟩, ?_, .pure _ _ (.str (ba (repF s.length (ba s))))⟩
  have := uRepair (fun _ => True) (fun _ _ _ => trivial) (ba s) w trivial (by omega) (fun t W _ _ hb => uDec t w W sim.glob sim.immLt hb)
  rwa [hsz] at this
def repB (s : List UInt8) : List UInt8 := repF s.length ⟨s.toArray⟩
end Go.Mu
set_option linter.unusedVariables false
set_option linter.unusedSimpArgs false
set_option maxRecDepth 100000
namespace Go.Mu
open Go Go.Proofs
theorem rEn_fun (n : Int) (k : Out → Ans) : iFun Tryz.prog (Lay.nil.hd Tryz.prog) Lay.nil.fhs 0 29 [.int .i64 n] [] k = (
 let c0 : Bool := !(n == n && false);
 let n1 : Int := IntKind.i64.wrap (n.tdiv 64);
 let l2 : List UInt8 := [byteOf [AVal.int IntKind.u8 (IntKind.u8.wrap (IntKind.i64.wrap (128 + n.tmod 64)))]];
 let c3 : Bool := !(n1 == n1 && false);
 let n4 : Int := IntKind.i64.wrap (n.tdiv 4096);
 let l5 : List UInt8 := byteOf [AVal.int IntKind.u8 (IntKind.u8.wrap (IntKind.i64.wrap (128 + n1.tmod 64)))] :: l2;
  bif
  bif bif decide (n < 0) then true else decide (n > 1114111) then true
  else bif decide (n ≥ 55296) then decide (n ≤ 57343) else false then
  k (Out.ret (AVal.tuple [AVal.str [], AVal.int IntKind.i64 4]) [])
  else
  bif decide (n < 128) then
  k (Out.ret (AVal.tuple [AVal.str [byteOf [AVal.int IntKind.u8 (IntKind.u8.wrap n)]], AVal.int IntKind.i64 0]) [])
  else
  bif decide (n < 2048) then
  bif c0 then
  bif c0 then
  k
  (Out.ret
  (AVal.tuple
  [AVal.str (byteOf [AVal.int IntKind.u8 (IntKind.u8.wrap (IntKind.i64.wrap (192 + n1)))] :: l2),
  AVal.int IntKind.i64 0])
  [])
  else none
  else none
  else
  bif decide (n < 65536) then
  bif c0 then
  bif c0 then
  bif c3 then
  bif c0 then
  k
  (Out.ret
  (AVal.tuple
  [AVal.str (byteOf [AVal.int IntKind.u8 (IntKind.u8.wrap (IntKind.i64.wrap (224 + n4)))] :: l5),
  AVal.int IntKind.i64 0])
  [])
  else none
  else none
  else none
  else none
  else
  bif c0 then
  bif c0 then
  bif !(n4 == n4 && false) then
  bif c0 then
  bif c3 then
  bif c0 then
  k
  (Out.ret
  (AVal.tuple
  [AVal.str
  (byteOf
  [AVal.int IntKind.u8
  (IntKind.u8.wrap (IntKind.i64.wrap (240 + IntKind.i64.wrap (n.tdiv 262144))))] ::
  byteOf [AVal.int IntKind.u8 (IntKind.u8.wrap (IntKind.i64.wrap (128 + n4.tmod 64)))] ::
  l5),
  AVal.int IntKind.i64 0])
  [])
  else none
  else none
  else none
  else none
  else none
  else none) := by kernel_rfl
/- Decode -/
def encrTold (X : Int → List UInt8) (E : Int → Int) : FSp := mkFS [.i .i64] (fun xs => decide (0 ≤ aI xs 0 ∧ aI xs 0 ≤ 2147483647)) (fun xs k => k (.ret (.tuple [.str (X (aI xs 0)), .int .i64 (E (aI xs 0))]) []))
def layRd0 (X : Int → List UInt8) (E : Int → Int) : Lay := Lay.nil.addF 29 (encrTold X E)
theorem rdec_fun (X : Int → List UInt8) (E : Int → Int) (s : List UInt8) (k : Out → Ans) (n0 : Int) (e_n0 : n0 = ((↑s.length : Int)))
  (c1 : Bool) (e_c1 : c1 = (decide (0 < n0)))
  (n2 : Int) (e_n2 : n2 = ((↑(s.getD 0 0).toNat : Int)))
  (n3 : Int) (e_n3 : n3 = (IntKind.i64.wrap (↑(BitVec.ofInt 64 (IntKind.i64.wrap n2) &&& BitVec.ofInt 64 127).toNat : Int)))
  (c4 : Bool) (e_c4 : c4 = (E n3 != 0))
  (c5 : Bool) (e_c5 : c5 = (decide (1 < n0)))
  (n6 : Int) (e_n6 : n6 = ((↑(s.getD 1 0).toNat : Int)))
  (c7 : Bool) (e_c7 : c7 = (decide (n6 < 128)))
  (c8 : Bool) (e_c8 : c8 = (c5 || !!c7))
  (c9 : Bool) (e_c9 : c9 = (bif c7 then true else decide (n6 > 191)))
  (n10 : Int) (e_n10 : n10 = (IntKind.i64.wrap n6))
  (n11 : Int) (e_n11 : n11 = (IntKind.i64.wrap
    (IntKind.i64.wrap
        (IntKind.i64.wrap
            (IntKind.i64.wrap (↑(BitVec.ofInt 64 (IntKind.i64.wrap n2) &&& BitVec.ofInt 64 31).toNat : Int) * 64) +
          n10) -
      128)))
  (c12 : Bool) (e_c12 : c12 = (E n11 != 0))
  (c13 : Bool) (e_c13 : c13 = (decide (2 < n0)))
  (n14 : Int) (e_n14 : n14 = ((↑(s.getD 2 0).toNat : Int)))
  (c15 : Bool) (e_c15 : c15 = (decide (n14 < 128)))
  (c16 : Bool) (e_c16 : c16 = (c13 || !!c15))
  (c17 : Bool) (e_c17 : c17 = (bif c15 then true else decide (n14 > 191)))
  (n18 : Int) (e_n18 : n18 = (IntKind.i64.wrap n14))
  (n19 : Int) (e_n19 : n19 = (IntKind.i64.wrap
    (IntKind.i64.wrap
        (IntKind.i64.wrap
            (IntKind.i64.wrap
                (IntKind.i64.wrap
                    (IntKind.i64.wrap
                        (IntKind.i64.wrap
                            (↑(BitVec.ofInt 64 (IntKind.i64.wrap n2) &&& BitVec.ofInt 64 15).toNat : Int) *
                          64) +
                      n10) -
                  128) *
              64) +
          n18) -
      128)))
  (c20 : Bool) (e_c20 : c20 = (E n19 != 0))
  (c21 : Bool) (e_c21 : c21 = (decide (3 < n0)))
  (n22 : Int) (e_n22 : n22 = ((↑(s.getD 3 0).toNat : Int)))
  (c23 : Bool) (e_c23 : c23 = (decide (n22 < 128)))
  (n24 : Int) (e_n24 : n24 = (IntKind.i64.wrap
    (IntKind.i64.wrap
        (IntKind.i64.wrap
            (IntKind.i64.wrap
                (IntKind.i64.wrap
                    (IntKind.i64.wrap
                        (IntKind.i64.wrap
                            (IntKind.i64.wrap
                                (IntKind.i64.wrap
                                    (IntKind.i64.wrap
                                        (↑(BitVec.ofInt 64 (IntKind.i64.wrap n2) &&& BitVec.ofInt 64 7).toNat : Int) *
                                      64) +
                                  n10) -
                              128) *
                          64) +
                      n18) -
                  128) *
              64) +
          IntKind.i64.wrap n22) -
      128)))
  (c25 : Bool) (e_c25 : c25 = (E n24 != 0)) : iFun Tryz.prog ((layRd0 X E).hd Tryz.prog) (layRd0 X E).fhs 9 60 [.str s] [] k = (
  bif s == [] then k (Out.ret (AVal.tuple [AVal.int IntKind.i64 (-1), AVal.int IntKind.i64 0]) [])
  else
  bif c1 then
  bif decide (n2 < 128) then
  bif decide (1 > n0) then k (Out.ret (AVal.tuple [AVal.int IntKind.i64 (-1), AVal.int IntKind.i64 1]) [])
  else
  bif c1 then
  bif decide (0 ≤ n3 ∧ n3 ≤ 2147483647) then
  bif decide (1 ≤ n0) || !!c4 then
  bif bif c4 then true else !X n3 == List.drop (Int.toNat 0) (List.take (Int.toNat 1) s) then
  k (Out.ret (AVal.tuple [AVal.int IntKind.i64 (-1), AVal.int IntKind.i64 1]) [])
  else k (Out.ret (AVal.tuple [AVal.int IntKind.i64 n3, AVal.int IntKind.i64 1]) [])
  else none
  else none
  else none
  else
  bif bif decide (n2 ≥ 194) then decide (n2 < 224) else false then
  bif decide (2 > n0) then k (Out.ret (AVal.tuple [AVal.int IntKind.i64 (-1), AVal.int IntKind.i64 1]) [])
  else
  bif c1 then
  bif c5 then
  bif c8 then
  bif c9 then k (Out.ret (AVal.tuple [AVal.int IntKind.i64 (-1), AVal.int IntKind.i64 1]) [])
  else
  bif c5 then
  bif decide (0 ≤ n11 ∧ n11 ≤ 2147483647) then
  bif decide (2 ≤ n0) || !!c12 then
  bif bif c12 then true else !X n11 == List.drop (Int.toNat 0) (List.take (Int.toNat 2) s) then
  k (Out.ret (AVal.tuple [AVal.int IntKind.i64 (-1), AVal.int IntKind.i64 1]) [])
  else k (Out.ret (AVal.tuple [AVal.int IntKind.i64 n11, AVal.int IntKind.i64 2]) [])
  else none
  else none
  else none
  else none
  else none
  else none
  else
  bif bif decide (n2 ≥ 224) then decide (n2 < 240) else false then
  bif decide (3 > n0) then k (Out.ret (AVal.tuple [AVal.int IntKind.i64 (-1), AVal.int IntKind.i64 1]) [])
  else
  bif c1 then
  bif c5 then
  bif c8 then
  bif c9 then k (Out.ret (AVal.tuple [AVal.int IntKind.i64 (-1), AVal.int IntKind.i64 1]) [])
  else
  bif c5 then
  bif c13 then
  bif c16 then
  bif c17 then k (Out.ret (AVal.tuple [AVal.int IntKind.i64 (-1), AVal.int IntKind.i64 1]) [])
  else
  bif c13 then
  bif decide (0 ≤ n19 ∧ n19 ≤ 2147483647) then
  bif decide (3 ≤ n0) || !!c20 then
  bif
  bif c20 then true
  else !X n19 == List.drop (Int.toNat 0) (List.take (Int.toNat 3) s) then
  k (Out.ret (AVal.tuple [AVal.int IntKind.i64 (-1), AVal.int IntKind.i64 1]) [])
  else k (Out.ret (AVal.tuple [AVal.int IntKind.i64 n19, AVal.int IntKind.i64 3]) [])
  else none
  else none
  else none
  else none
  else none
  else none
  else none
  else none
  else none
  else
  bif bif decide (n2 ≥ 240) then decide (n2 < 245) else false then
  bif decide (4 > n0) then k (Out.ret (AVal.tuple [AVal.int IntKind.i64 (-1), AVal.int IntKind.i64 1]) [])
  else
  bif c1 then
  bif c5 then
  bif c8 then
  bif c9 then k (Out.ret (AVal.tuple [AVal.int IntKind.i64 (-1), AVal.int IntKind.i64 1]) [])
  else
  bif c5 then
  bif c13 then
  bif c16 then
  bif c17 then k (Out.ret (AVal.tuple [AVal.int IntKind.i64 (-1), AVal.int IntKind.i64 1]) [])
  else
  bif c13 then
  bif c21 then
  bif c21 || !!c23 then
  bif bif c23 then true else decide (n22 > 191) then
  k (Out.ret (AVal.tuple [AVal.int IntKind.i64 (-1), AVal.int IntKind.i64 1]) [])
  else
  bif c21 then
  bif decide (0 ≤ n24 ∧ n24 ≤ 2147483647) then
  bif decide (4 ≤ n0) || !!c25 then
  bif
  bif c25 then true
  else !X n24 == List.drop (Int.toNat 0) (List.take (Int.toNat 4) s) then
  k
  (Out.ret
  (AVal.tuple [AVal.int IntKind.i64 (-1), AVal.int IntKind.i64 1]) [])
  else
  k
  (Out.ret (AVal.tuple [AVal.int IntKind.i64 n24, AVal.int IntKind.i64 4])
  [])
  else none
  else none
  else none
  else none
  else none
  else none
  else none
  else none
  else none
  else none
  else none
  else none
  else k (Out.ret (AVal.tuple [AVal.int IntKind.i64 (-1), AVal.int IntKind.i64 1]) [])
  else none) := by
  subst e_n0 e_c1 e_n2 e_n3 e_c4 e_c5 e_n6 e_c7 e_c8 e_c9 e_n10 e_n11 e_c12 e_c13 e_n14 e_c15 e_c16 e_c17 e_n18 e_n19 e_c20 e_c21 e_n22 e_c23 e_n24 e_c25
  kernel_rfl
end Go.Mu
set_option linter.unusedVariables false
set_option linter.unusedSimpArgs false
set_option maxRecDepth 100000
namespace Go.Mu
open Go Go.Proofs
theorem bo8' {x : Int} (h1 : 0 ≤ x) (h2 : x < 256) : byteOf [AVal.int IntKind.u8 (IntKind.u8.wrap (IntKind.i64.wrap x))] = x.toNat.toUInt8 := by
  rw [wrap_of (by omega) (by omega), wrap8, show x % 256 = x by omega]
  rfl
theorem rEn_exact (n : Int) (h0 : 0 ≤ n) (h : n ≤ 2147483647) (k : Out → Ans) : iFun Tryz.prog (Lay.nil.hd Tryz.prog) Lay.nil.fhs 0 29 [.int .i64 n] [] k = k (.ret (.tuple [.str (encX n), .int .i64 (encXE n)]) []) := by
  refine (rEn_fun n k).trans ?_
  have f1 : IntKind.i64.wrap (n.tdiv 64) = n / 64 := by rw [Int.tdiv_eq_ediv_of_nonneg h0, wrap_of (by omega) (by omega)]
  have f2 : IntKind.i64.wrap (n.tdiv 4096) = n / 4096 := by rw [Int.tdiv_eq_ediv_of_nonneg h0, wrap_of (by omega) (by omega)]
  have f3 : IntKind.i64.wrap (n.tdiv 262144) = n / 262144 := by rw [Int.tdiv_eq_ediv_of_nonneg h0, wrap_of (by omega) (by omega)]
  have m1 : n.tmod 64 = n % 64 := Int.tmod_eq_emod_of_nonneg h0
  have m2 : (n / 64).tmod 64 = n / 64 % 64 := Int.tmod_eq_emod_of_nonneg (by omega)
  have m3 : (n / 4096).tmod 64 = n / 4096 % 64 := Int.tmod_eq_emod_of_nonneg (by omega)
  simp only [f1, f2, f3, m1, m2, m3, Bool.and_false, Bool.not_false, cond_true]
  unfold encX encXE badR
  by_cases hb : n > 1114111
  · simp (disch := omega) only [dT, dF, cond_true, cond_false, Bool.or_true, Bool.true_or, Bool.false_or, Bool.or_false]
  by_cases hs : 55296 ≤ n ∧ n ≤ 57343
  · obtain ⟨hs1, hs2⟩ := hs
    simp (disch := omega) only [dT, dF, cond_true, cond_false, Bool.or_true, Bool.true_or, Bool.false_or, Bool.or_false, Bool.and_self]
  have hsb : (decide (55296 ≤ n) && decide (n ≤ 57343)) = false := by
    by_cases h1 : 55296 ≤ n
    · rw [dF (show ¬ n ≤ 57343 by omega), Bool.and_false]
    · rw [dF h1, Bool.false_and]
  have hsc : (bif decide (n ≥ 55296) then decide (n ≤ 57343) else false) = false := by rw [bif_and]; exact hsb
  rw [hsb, hsc, dF (show ¬ n < 0 by omega), dF hb]
  simp only [cond_false, Bool.or_self]
  have fin : ∀ (t : List UInt8), t = Lib.encodeRune n → k (Out.ret (AVal.tuple [AVal.str t, AVal.int IntKind.i64 0]) []) = k (Out.ret (AVal.tuple [AVal.str (Lib.encodeRune n), AVal.int IntKind.i64 0]) []) := fun t e => by rw [e]
  by_cases h1 : n ≤ 127
  · simp (disch := omega) only [dT, dF, cond_true, cond_false]
    refine fin _ ?_
    unfold Lib.encodeRune
    rw [Lib.encodeRuneZ_one h0 h1]
    show [UInt8.ofNat (IntKind.u8.wrap n).toNat] = [n.toNat.toUInt8]
    rw [wrap8, show n % 256 = n by omega, Nat.toUInt8]
  by_cases h2 : n ≤ 2047
  · simp (disch := omega) only [dT, dF, cond_true, cond_false]
    refine fin _ ?_
    unfold Lib.encodeRune
    rw [Lib.encodeRuneZ_two (by omega) h2, bo8' (by omega) (by omega), bo8' (by omega) (by omega)]
    rfl
  by_cases h3 : n ≤ 65535
  · simp (disch := omega) only [dT, dF, cond_true, cond_false]
    refine fin _ ?_
    unfold Lib.encodeRune
    rw [Lib.encodeRuneZ_three (by omega), bo8' (by omega) (by omega), bo8' (by omega) (by omega), bo8' (by omega) (by omega)]
    rfl
  simp (disch := omega) only [dT, dF, cond_true, cond_false]
  refine fin _ ?_
  unfold Lib.encodeRune
  rw [Lib.encodeRuneZ_four (by omega) (by omega), bo8' (by omega) (by omega), bo8' (by omega) (by omega), bo8' (by omega) (by omega), bo8' (by omega) (by omega)]
  rfl
theorem encrTold_ok : ∀ xs H k out, encrTold encX encXE xs H k = some out → ∃ o, CallOK Tryz.prog 29 xs H o ∧ k o = some out := mkFS_ok fun ys xs e h => by
  obtain ⟨n, rfl⟩ : ∃ n, xs = [.int .i64 n] := ⟨_, e⟩
  rw [decide_eq_true_eq] at h
  exact ⟨_, fun k => rfl, Lay.nil_ok.callF (G := []) rfl (fun k => rEn_exact n h.1 h.2 k)⟩
/- Decode -/
theorem and31 (c : UInt8) : IntKind.i64.wrap ((BitVec.ofInt 64 (IntKind.i64.wrap (c.toNat : Int)) &&& BitVec.ofInt 64 31).toNat : Int) = ((c.toNat % 32 : Nat) : Int) := oct256 (p := fun c => IntKind.i64.wrap ((BitVec.ofInt 64 (IntKind.i64.wrap (c.toNat : Int)) &&& BitVec.ofInt 64 31).toNat : Int) = ((c.toNat % 32 : Nat) : Int)) (by decide +kernel) c
theorem and127 (c : UInt8) : IntKind.i64.wrap ((BitVec.ofInt 64 (IntKind.i64.wrap (c.toNat : Int)) &&& BitVec.ofInt 64 127).toNat : Int) = ((c.toNat % 128 : Nat) : Int) := oct256 (p := fun c => IntKind.i64.wrap ((BitVec.ofInt 64 (IntKind.i64.wrap (c.toNat : Int)) &&& BitVec.ofInt 64 127).toNat : Int) = ((c.toNat % 128 : Nat) : Int)) (by decide +kernel) c
theorem and15 (c : UInt8) : IntKind.i64.wrap ((BitVec.ofInt 64 (IntKind.i64.wrap (c.toNat : Int)) &&& BitVec.ofInt 64 15).toNat : Int) = ((c.toNat % 16 : Nat) : Int) := oct256 (p := fun c => IntKind.i64.wrap ((BitVec.ofInt 64 (IntKind.i64.wrap (c.toNat : Int)) &&& BitVec.ofInt 64 15).toNat : Int) = ((c.toNat % 16 : Nat) : Int)) (by decide +kernel) c
theorem and7 (c : UInt8) : IntKind.i64.wrap ((BitVec.ofInt 64 (IntKind.i64.wrap (c.toNat : Int)) &&& BitVec.ofInt 64 7).toNat : Int) = ((c.toNat % 8 : Nat) : Int) := oct256 (p := fun c => IntKind.i64.wrap ((BitVec.ofInt 64 (IntKind.i64.wrap (c.toNat : Int)) &&& BitVec.ofInt 64 7).toNat : Int) = ((c.toNat % 8 : Nat) : Int)) (by decide +kernel) c
theorem encX_good {n : Int} (h0 : 0 ≤ n) (h : n ≤ 1114111) (h2 : ¬ (55296 ≤ n ∧ n ≤ 57343)) : encX n = Lib.encodeRune n ∧ (encXE n != 0) = false := by
  have : badR n = false := by
    unfold badR
    rw [dF (show ¬ n < 0 by omega), dF (show ¬ n > 1114111 by omega)]
    by_cases h1 : 55296 ≤ n
    · rw [dF (show ¬ n ≤ 57343 by omega)]; simp
    · rw [dF h1]; rfl
  unfold encX encXE
  rw [this]
  exact ⟨rfl, rfl⟩
theorem encX_bad {n : Int} (h : n > 1114111 ∨ (55296 ≤ n ∧ n ≤ 57343)) : (encXE n != 0) = true := by
  have : badR n = true := by
    unfold badR
    rcases h with h | h
    · rw [dT h]; simp
    · rw [dT h.1, dT h.2]; simp
  unfold encXE
  rw [this]
  rfl
theorem u8_of (x : UInt8) {z : Int} (h : z = x.toNat) : z.toNat.toUInt8 = x := by
  rw [h, Int.toNat_natCast]
  exact UInt8.ofNat_toNat
theorem dgo_N (s : List UInt8) (h : s ≠ []) : Lib.decodeGo (ba s) = Lib.decodeN s.length (s.getD 0 0).toNat (s.getD 1 0).toNat (s.getD 2 0).toNat (s.getD 3 0).toNat := by
  have hl : 0 < s.length := List.length_pos_iff.2 h
  unfold Lib.decodeGo
  rw [if_neg (by rw [ba_size]; omega), Lib.decode_N]
  rfl
theorem take1 (s : List UInt8) (h : 1 ≤ s.length) : s.take 1 = [s.getD 0 0] := by
  match s, h with
  | a :: t, _ => rfl
theorem take2 (s : List UInt8) (h : 2 ≤ s.length) : s.take 2 = [s.getD 0 0, s.getD 1 0] := by
  match s, h with
  | a :: b :: t, _ => rfl
theorem take3 (s : List UInt8) (h : 3 ≤ s.length) : s.take 3 = [s.getD 0 0, s.getD 1 0, s.getD 2 0] := by
  match s, h with
  | a :: b :: c :: t, _ => rfl
theorem take4 (s : List UInt8) (h : 4 ≤ s.length) : s.take 4 = [s.getD 0 0, s.getD 1 0, s.getD 2 0, s.getD 3 0] := by
  match s, h with
  | a :: b :: c :: d :: t, _ => rfl
theorem decN_bad {s : ByteArray} (h : Lib.decodeGo s = (65533, 1)) : decC s = -1 ∧ (Lib.decodeGo s).2 = 1 := by
  unfold decC
  rw [h]
  exact ⟨rfl, rfl⟩
theorem decN_good {s : ByteArray} {c n : Nat} (h : Lib.decodeGo s = (c, n)) (h2 : ¬ (c = 65533 ∧ n < 2)) : decC s = (c : Nat) ∧ (Lib.decodeGo s).2 = n := by
  unfold decC
  rw [h]
  exact ⟨if_neg h2, rfl⟩
theorem enc_len1 (n : Int) (h0 : 0 ≤ n) (h : n ≤ 127) : (Lib.encodeRune n).length = 1 := by unfold Lib.encodeRune; rw [Lib.encodeRuneZ_one h0 h]; rfl
theorem enc_len2 (n : Int) (h0 : 128 ≤ n) (h : n ≤ 2047) : (Lib.encodeRune n).length = 2 := by unfold Lib.encodeRune; rw [Lib.encodeRuneZ_two h0 h]; rfl
theorem enc_len3 (n : Int) (h : (2048 ≤ n ∧ n < 55296) ∨ (57343 < n ∧ n ≤ 65535)) : (Lib.encodeRune n).length = 3 := by unfold Lib.encodeRune; rw [Lib.encodeRuneZ_three h]; rfl
theorem ne_len {a b : List UInt8} (h : a.length ≠ b.length) : (a == b) = false := by
  rw [beq_eq_false_iff_ne]
  exact fun e => h (by rw [e])
set_option maxHeartbeats 4000000 in
theorem rdec_call (s : List UInt8) (hs : s.length ≤ 1099511627776) (k : Out → Ans) : iFun Tryz.prog ((layRd0 encX encXE).hd Tryz.prog) (layRd0 encX encXE).fhs 9 60 [.str s] [] k = k (.ret (.tuple [.int .i64 (decC (ba s)), .int .i64 ((Lib.decodeGo (ba s)).2 : Nat)]) []) := by
  by_cases hne : s = []
  · subst hne
    have e1 : decC (ba []) = -1 := rfl
    have e2 : (Lib.decodeGo (ba [])).2 = 0 := rfl
    rw [e1, e2]
    exact rdec_fun encX encXE [] k _ rfl _ rfl _ rfl _ rfl _ rfl _ rfl _ rfl _ rfl _ rfl _ rfl _ rfl _ rfl _ rfl _ rfl _ rfl _ rfl _ rfl _ rfl _ rfl _ rfl _ rfl _ rfl _ rfl _ rfl _ rfl _ rfl
  have hl : 0 < s.length := List.length_pos_iff.2 hne
  have hD := dgo_N s hne
  have h0 := UInt8.toNat_lt (s.getD 0 0)
  have h1 := UInt8.toNat_lt (s.getD 1 0)
  have h2 := UInt8.toNat_lt (s.getD 2 0)
  have h3 := UInt8.toNat_lt (s.getD 3 0)
  have m0 := and127 (s.getD 0 0)
  have m1 := and31 (s.getD 0 0)
  have m2 := and15 (s.getD 0 0)
  have m3 := and7 (s.getD 0 0)
  have t1 := take1 s hl
  have t2 := take2 s
  have t3 := take3 s
  have t4 := take4 s
  have u0 := @u8_of (s.getD 0 0)
  have u1 := @u8_of (s.getD 1 0)
  have u2 := @u8_of (s.getD 2 0)
  have u3 := @u8_of (s.getD 3 0)
  have es : (s == []) = false := by simp [hne]
  obtain ⟨x0, e0⟩ : ∃ x, s.getD 0 0 = x := ⟨_, rfl⟩
  obtain ⟨x1, e1⟩ : ∃ x, s.getD 1 0 = x := ⟨_, rfl⟩
  obtain ⟨x2, e2⟩ : ∃ x, s.getD 2 0 = x := ⟨_, rfl⟩
  obtain ⟨x3, e3⟩ : ∃ x, s.getD 3 0 = x := ⟨_, rfl⟩
  rw [e0] at h0 m0 m1 m2 m3
  rw [e1] at h1
  rw [e2] at h2
  rw [e3] at h3
  rw [e0] at u0
  rw [e1] at u1
  rw [e2] at u2
  rw [e3] at u3
  rw [e0] at t1
  rw [e0, e1] at t2
  rw [e0, e1, e2] at t3
  rw [e0, e1, e2, e3] at t4
  rw [e0, e1, e2, e3] at hD
  obtain ⟨n, en⟩ : ∃ n : Nat, s.length = n := ⟨_, rfl⟩
  obtain ⟨b0, f0⟩ : ∃ n : Nat, x0.toNat = n := ⟨_, rfl⟩
  obtain ⟨b1, f1⟩ : ∃ n : Nat, x1.toNat = n := ⟨_, rfl⟩
  obtain ⟨b2, f2⟩ : ∃ n : Nat, x2.toNat = n := ⟨_, rfl⟩
  obtain ⟨b3, f3⟩ : ∃ n : Nat, x3.toNat = n := ⟨_, rfl⟩
  rw [en, f0, f1, f2, f3] at hD
  rw [f0] at h0 m0 m1 m2 m3
  rw [f1] at h1
  rw [f2] at h2
  rw [f3] at h3
  rw [en] at t2 t3 t4 hl hs
  simp only [f0] at u0
  simp only [f1] at u1
  simp only [f2] at u2
  simp only [f3] at u3
  have w1 : IntKind.i64.wrap ((b1 : Nat) : Int) = b1 := wrap_of (by omega) (by omega)
  have w2 : IntKind.i64.wrap ((b2 : Nat) : Int) = b2 := wrap_of (by omega) (by omega)
  have w3 : IntKind.i64.wrap ((b3 : Nat) : Int) = b3 := wrap_of (by omega) (by omega)
  refine (rdec_fun encX encXE s k (n : Int) (by rw [en]) _ rfl (b0 : Int) (by rw [e0, f0]) ((b0 % 128 : Nat) : Int) m0.symm _ rfl _ rfl (b1 : Int) (by rw [e1, f1]) _ rfl _ rfl _ rfl (b1 : Int) w1.symm (((b0 % 32 : Nat) : Int) * 64 + b1 - 128) (by rw [m1, wrap_of (n := ((b0 % 32 : Nat) : Int) * 64) (by omega) (by omega), wrap_of (n := ((b0 % 32 : Nat) : Int) * 64 + b1) (by omega) (by omega), wrap_of (by omega) (by omega)])
    _ rfl _ rfl (b2 : Int) (by rw [e2, f2]) _ rfl _ rfl _ rfl (b2 : Int) w2.symm ((((b0 % 16 : Nat) : Int) * 64 + b1 - 128) * 64 + b2 - 128) (by rw [m2, wrap_of (n := ((b0 % 16 : Nat) : Int) * 64) (by omega) (by omega), wrap_of (n := ((b0 % 16 : Nat) : Int) * 64 + b1) (by omega) (by omega), wrap_of (n := ((b0 % 16 : Nat) : Int) * 64 + b1 - 128) (by omega) (by omega), wrap_of (n := (((b0 % 16 : Nat) : Int) * 64 + b1 - 128) * 64) (by omega) (by omega), wrap_of (n := (((b0 % 16 : Nat) : Int) * 64 + b1 - 128) * 64 + b2) (by omega) (by omega), wrap_of (by omega) (by omega)])
    _ rfl _ rfl (b3 : Int) (by rw [e3, f3]) _ rfl (((((b0 % 8 : Nat) : Int) * 64 + b1 - 128) * 64 + b2 - 128) * 64 + b3 - 128) (by rw [m3, w3, wrap_of (n := ((b0 % 8 : Nat) : Int) * 64) (by omega) (by omega), wrap_of (n := ((b0 % 8 : Nat) : Int) * 64 + b1) (by omega) (by omega), wrap_of (n := ((b0 % 8 : Nat) : Int) * 64 + b1 - 128) (by omega) (by omega), wrap_of (n := (((b0 % 8 : Nat) : Int) * 64 + b1 - 128) * 64) (by omega) (by omega), wrap_of (n := (((b0 % 8 : Nat) : Int) * 64 + b1 - 128) * 64 + b2) (by omega) (by omega), wrap_of (n := (((b0 % 8 : Nat) : Int) * 64 + b1 - 128) * 64 + b2 - 128) (by omega) (by omega), wrap_of (n := ((((b0 % 8 : Nat) : Int) * 64 + b1 - 128) * 64 + b2 - 128) * 64) (by omega) (by omega), wrap_of (n := ((((b0 % 8 : Nat) : Int) * 64 + b1 - 128) * 64 + b2 - 128) * 64 + b3) (by omega) (by omega), wrap_of (by omega) (by omega)]) _ rfl).trans ?_
  have d0 : Int.toNat 0 = 0 := rfl
  have d1 : Int.toNat 1 = 1 := rfl
  have d2 : Int.toNat 2 = 2 := rfl
  have d3 : Int.toNat 3 = 3 := rfl
  have d4 : Int.toNat 4 = 4 := rfl
  simp only [es, cond_false, d0, d1, d2, d3, d4, List.drop_zero]
  unfold Lib.decodeN at hD
  have bad : Lib.decodeGo (ba s) = (65533, 1) → k (.ret (.tuple [.int .i64 (-1), .int .i64 1]) []) = k (.ret (.tuple [.int .i64 (decC (ba s)), .int .i64 ((Lib.decodeGo (ba s)).2 : Nat)]) []) := fun h => by rw [(decN_bad h).1, (decN_bad h).2]; rfl
  have good : ∀ (c m : Nat) (z : Int), Lib.decodeGo (ba s) = (c, m) → ¬ (c = 65533 ∧ m < 2) → z = c → k (.ret (.tuple [.int .i64 z, .int .i64 (m : Nat)]) []) = k (.ret (.tuple [.int .i64 (decC (ba s)), .int .i64 ((Lib.decodeGo (ba s)).2 : Nat)]) []) := fun c m z h h2 h3 => by rw [(decN_good h h2).1, (decN_good h h2).2, h3]
  by_cases c1 : b0 < 128
  · rw [if_pos c1] at hD
    obtain ⟨g1, g2⟩ := encX_good (n := ((b0 % 128 : Nat) : Int)) (by omega) (by omega) (by omega)
    have g3 : Lib.encodeRune ((b0 % 128 : Nat) : Int) = [x0] := by
      unfold Lib.encodeRune
      rw [Lib.encodeRuneZ_one (by omega) (by omega)]
      show [((b0 % 128 : Nat) : Int).toNat.toUInt8] = [x0]
      rw [u0 (z := ((b0 % 128 : Nat) : Int)) (by omega)]
    simp (disch := omega) only [dT, dF, cond_true, cond_false, g1, g2, g3, t1, beq_self_eq_true, Bool.not_true, Bool.true_or]
    exact good b0 1 _ hD (by omega) (by omega)
  rw [if_neg c1] at hD
  by_cases c2 : 194 ≤ b0 ∧ b0 < 224
  · by_cases hn : 2 > n
    · simp (disch := omega) only [dT, dF, cond_true, cond_false, Bool.true_or, Bool.or_true, Bool.not_false, Bool.not_true, Bool.or_self, Bool.or_false, Bool.false_or, Bool.not_not]
      exact bad (by rw [hD]; (repeat' split) <;> first | rfl | (exfalso; omega))
    by_cases q1 : b1 < 128
    · simp (disch := omega) only [dT, dF, cond_true, cond_false, Bool.true_or, Bool.or_true, Bool.not_false, Bool.not_true, Bool.or_self, Bool.or_false, Bool.false_or, Bool.not_not]
      exact bad (by rw [hD]; (repeat' split) <;> first | rfl | (exfalso; omega))
    by_cases p1 : b1 > 191
    · simp (disch := omega) only [dT, dF, cond_true, cond_false, Bool.true_or, Bool.or_true, Bool.not_false, Bool.not_true, Bool.or_self, Bool.or_false, Bool.false_or, Bool.not_not]
      exact bad (by rw [hD]; (repeat' split) <;> first | rfl | (exfalso; omega))
    have hN := t2 (by omega)
    obtain ⟨z, hz⟩ : ∃ z : Int, z = ((b0 % 32 : Nat) : Int) * 64 + b1 - 128 := ⟨_, rfl⟩
    rw [← hz]
    have hzc : z = ((b0 % 32 * 64 + b1 % 64 : Nat) : Int) := by omega
    obtain ⟨g1, g2⟩ := encX_good (n := z) (by omega) (by omega) (by omega)
    have g3 : Lib.encodeRune z = [x0, x1] := by
      unfold Lib.encodeRune
      rw [Lib.encodeRuneZ_two (by omega) (by omega)]
      show [(192 + z / 64).toNat.toUInt8, (128 + z % 64).toNat.toUInt8] = _
      rw [u0 (z := 192 + z / 64) (by omega), u1 (z := 128 + z % 64) (by omega)]
    simp (disch := omega) only [dT, dF, cond_true, cond_false, Bool.true_or, Bool.or_true, Bool.not_false, Bool.not_true, Bool.or_self, Bool.or_false, Bool.false_or, Bool.not_not, g1, g2, g3, hN, beq_self_eq_true]
    exact good (b0 % 32 * 64 + b1 % 64) 2 z (by rw [hD]; (repeat' split) <;> first | rfl | (exfalso; omega)) (by omega) hzc
  by_cases c3 : 224 ≤ b0 ∧ b0 < 240
  · by_cases hn : 3 > n
    · simp (disch := omega) only [dT, dF, cond_true, cond_false, Bool.true_or, Bool.or_true, Bool.not_false, Bool.not_true, Bool.or_self, Bool.or_false, Bool.false_or, Bool.not_not]
      exact bad (by rw [hD]; (repeat' split) <;> first | rfl | (exfalso; omega))
    by_cases q1 : b1 < 128
    · simp (disch := omega) only [dT, dF, cond_true, cond_false, Bool.true_or, Bool.or_true, Bool.not_false, Bool.not_true, Bool.or_self, Bool.or_false, Bool.false_or, Bool.not_not]
      exact bad (by rw [hD]; (repeat' split) <;> first | rfl | (exfalso; omega))
    by_cases p1 : b1 > 191
    · simp (disch := omega) only [dT, dF, cond_true, cond_false, Bool.true_or, Bool.or_true, Bool.not_false, Bool.not_true, Bool.or_self, Bool.or_false, Bool.false_or, Bool.not_not]
      exact bad (by rw [hD]; (repeat' split) <;> first | rfl | (exfalso; omega))
    by_cases q2 : b2 < 128
    · simp (disch := omega) only [dT, dF, cond_true, cond_false, Bool.true_or, Bool.or_true, Bool.not_false, Bool.not_true, Bool.or_self, Bool.or_false, Bool.false_or, Bool.not_not]
      exact bad (by rw [hD]; (repeat' split) <;> first | rfl | (exfalso; omega))
    by_cases p2 : b2 > 191
    · simp (disch := omega) only [dT, dF, cond_true, cond_false, Bool.true_or, Bool.or_true, Bool.not_false, Bool.not_true, Bool.or_self, Bool.or_false, Bool.false_or, Bool.not_not]
      exact bad (by rw [hD]; (repeat' split) <;> first | rfl | (exfalso; omega))
    have hN := t3 (by omega)
    obtain ⟨z, hz⟩ : ∃ z : Int, z = (((b0 % 16 : Nat) : Int) * 64 + b1 - 128) * 64 + b2 - 128 := ⟨_, rfl⟩
    rw [← hz]
    have hzc : z = ((b0 % 16 * 4096 + b1 % 64 * 64 + b2 % 64 : Nat) : Int) := by omega
    by_cases r1 : z < 2048
    · obtain ⟨g1, g2⟩ := encX_good (n := z) (by omega) (by omega) (by omega)
      have g3 : (Lib.encodeRune z == [x0, x1, x2]) = false := by
        by_cases r0 : z ≤ 127
        · exact ne_len (by rw [enc_len1 z (by omega) r0]; simp)
        · exact ne_len (by rw [enc_len2 z (by omega) (by omega)]; simp)
      simp (disch := omega) only [dT, dF, cond_true, cond_false, Bool.true_or, Bool.or_true, Bool.not_false, Bool.not_true, Bool.or_self, Bool.or_false, Bool.false_or, Bool.not_not, g1, g2, hN, g3]
      exact bad (by rw [hD]; (repeat' split) <;> first | rfl | (exfalso; omega))
    by_cases r2 : 55296 ≤ z ∧ z ≤ 57343
    · have g2 := encX_bad (n := z) (.inr r2)
      simp (disch := omega) only [dT, dF, cond_true, cond_false, Bool.true_or, Bool.or_true, Bool.not_false, Bool.not_true, Bool.or_self, Bool.or_false, Bool.false_or, Bool.not_not, g2]
      exact bad (by rw [hD]; (repeat' split) <;> first | rfl | (exfalso; omega))
    obtain ⟨g1, g2⟩ := encX_good (n := z) (by omega) (by omega) (by omega)
    have g3 : Lib.encodeRune z = [x0, x1, x2] := by
      unfold Lib.encodeRune
      rw [Lib.encodeRuneZ_three (by omega)]
      show [(224 + z / 4096).toNat.toUInt8, (128 + z / 64 % 64).toNat.toUInt8, (128 + z % 64).toNat.toUInt8] = _
      rw [u0 (z := 224 + z / 4096) (by omega), u1 (z := 128 + z / 64 % 64) (by omega), u2 (z := 128 + z % 64) (by omega)]
    simp (disch := omega) only [dT, dF, cond_true, cond_false, Bool.true_or, Bool.or_true, Bool.not_false, Bool.not_true, Bool.or_self, Bool.or_false, Bool.false_or, Bool.not_not, g1, g2, g3, hN, beq_self_eq_true]
    exact good (b0 % 16 * 4096 + b1 % 64 * 64 + b2 % 64) 3 z (by rw [hD]; (repeat' split) <;> first | rfl | (exfalso; omega)) (by omega) hzc
  by_cases c4 : 240 ≤ b0 ∧ b0 < 245
  · by_cases hn : 4 > n
    · simp (disch := omega) only [dT, dF, cond_true, cond_false, Bool.true_or, Bool.or_true, Bool.not_false, Bool.not_true, Bool.or_self, Bool.or_false, Bool.false_or, Bool.not_not]
      exact bad (by rw [hD]; (repeat' split) <;> first | rfl | (exfalso; omega))
    by_cases q1 : b1 < 128
    · simp (disch := omega) only [dT, dF, cond_true, cond_false, Bool.true_or, Bool.or_true, Bool.not_false, Bool.not_true, Bool.or_self, Bool.or_false, Bool.false_or, Bool.not_not]
      exact bad (by rw [hD]; (repeat' split) <;> first | rfl | (exfalso; omega))
    by_cases p1 : b1 > 191
    · simp (disch := omega) only [dT, dF, cond_true, cond_false, Bool.true_or, Bool.or_true, Bool.not_false, Bool.not_true, Bool.or_self, Bool.or_false, Bool.false_or, Bool.not_not]
      exact bad (by rw [hD]; (repeat' split) <;> first | rfl | (exfalso; omega))
    by_cases q2 : b2 < 128
    · simp (disch := omega) only [dT, dF, cond_true, cond_false, Bool.true_or, Bool.or_true, Bool.not_false, Bool.not_true, Bool.or_self, Bool.or_false, Bool.false_or, Bool.not_not]
      exact bad (by rw [hD]; (repeat' split) <;> first | rfl | (exfalso; omega))
    by_cases p2 : b2 > 191
    · simp (disch := omega) only [dT, dF, cond_true, cond_false, Bool.true_or, Bool.or_true, Bool.not_false, Bool.not_true, Bool.or_self, Bool.or_false, Bool.false_or, Bool.not_not]
      exact bad (by rw [hD]; (repeat' split) <;> first | rfl | (exfalso; omega))
    by_cases q3 : b3 < 128
    · simp (disch := omega) only [dT, dF, cond_true, cond_false, Bool.true_or, Bool.or_true, Bool.not_false, Bool.not_true, Bool.or_self, Bool.or_false, Bool.false_or, Bool.not_not]
      exact bad (by rw [hD]; (repeat' split) <;> first | rfl | (exfalso; omega))
    by_cases p3 : b3 > 191
    · simp (disch := omega) only [dT, dF, cond_true, cond_false, Bool.true_or, Bool.or_true, Bool.not_false, Bool.not_true, Bool.or_self, Bool.or_false, Bool.false_or, Bool.not_not]
      exact bad (by rw [hD]; (repeat' split) <;> first | rfl | (exfalso; omega))
    have hN := t4 (by omega)
    obtain ⟨z, hz⟩ : ∃ z : Int, z = ((((b0 % 8 : Nat) : Int) * 64 + b1 - 128) * 64 + b2 - 128) * 64 + b3 - 128 := ⟨_, rfl⟩
    rw [← hz]
    have hzc : z = ((b0 % 8 * 262144 + b1 % 64 * 4096 + b2 % 64 * 64 + b3 % 64 : Nat) : Int) := by omega
    by_cases r1 : z < 65536
    · by_cases r2 : 55296 ≤ z ∧ z ≤ 57343
      · have g2 := encX_bad (n := z) (.inr r2)
        simp (disch := omega) only [dT, dF, cond_true, cond_false, Bool.true_or, Bool.or_true, Bool.not_false, Bool.not_true, Bool.or_self, Bool.or_false, Bool.false_or, Bool.not_not, g2]
        exact bad (by rw [hD]; (repeat' split) <;> first | rfl | (exfalso; omega))
      obtain ⟨g1, g2⟩ := encX_good (n := z) (by omega) (by omega) (by omega)
      have g3 : (Lib.encodeRune z == [x0, x1, x2, x3]) = false := by
        by_cases r0 : z ≤ 127
        · exact ne_len (by rw [enc_len1 z (by omega) r0]; simp)
        by_cases r00 : z ≤ 2047
        · exact ne_len (by rw [enc_len2 z (by omega) (by omega)]; simp)
        · exact ne_len (by rw [enc_len3 z (by omega)]; simp)
      simp (disch := omega) only [dT, dF, cond_true, cond_false, Bool.true_or, Bool.or_true, Bool.not_false, Bool.not_true, Bool.or_self, Bool.or_false, Bool.false_or, Bool.not_not, g1, g2, hN, g3]
      exact bad (by rw [hD]; (repeat' split) <;> first | rfl | (exfalso; omega))
    by_cases r2 : z > 1114111
    · have g2 := encX_bad (n := z) (.inl r2)
      simp (disch := omega) only [dT, dF, cond_true, cond_false, Bool.true_or, Bool.or_true, Bool.not_false, Bool.not_true, Bool.or_self, Bool.or_false, Bool.false_or, Bool.not_not, g2]
      exact bad (by rw [hD]; (repeat' split) <;> first | rfl | (exfalso; omega))
    obtain ⟨g1, g2⟩ := encX_good (n := z) (by omega) (by omega) (by omega)
    have g3 : Lib.encodeRune z = [x0, x1, x2, x3] := by
      unfold Lib.encodeRune
      rw [Lib.encodeRuneZ_four (by omega) (by omega)]
      show [(240 + z / 262144).toNat.toUInt8, (128 + z / 4096 % 64).toNat.toUInt8, (128 + z / 64 % 64).toNat.toUInt8, (128 + z % 64).toNat.toUInt8] = _
      rw [u0 (z := 240 + z / 262144) (by omega), u1 (z := 128 + z / 4096 % 64) (by omega), u2 (z := 128 + z / 64 % 64) (by omega), u3 (z := 128 + z % 64) (by omega)]
    simp (disch := omega) only [dT, dF, cond_true, cond_false, Bool.true_or, Bool.or_true, Bool.not_false, Bool.not_true, Bool.or_self, Bool.or_false, Bool.false_or, Bool.not_not, g1, g2, g3, hN, beq_self_eq_true]
    exact good (b0 % 8 * 262144 + b1 % 64 * 4096 + b2 % 64 * 64 + b3 % 64) 4 z (by rw [hD]; (repeat' split) <;> first | rfl | (exfalso; omega)) (by omega) hzc
  have k1 : (bif decide ((b0 : Int) ≥ 194) then decide ((b0 : Int) < 224) else false) = false := by
    by_cases h : (b0 : Int) ≥ 194
    · rw [dT h, dF (show ¬ (b0 : Int) < 224 by omega)]; rfl
    · rw [dF h]; rfl
  have k2 : (bif decide ((b0 : Int) ≥ 224) then decide ((b0 : Int) < 240) else false) = false := by
    by_cases h : (b0 : Int) ≥ 224
    · rw [dT h, dF (show ¬ (b0 : Int) < 240 by omega)]; rfl
    · rw [dF h]; rfl
  have k3 : (bif decide ((b0 : Int) ≥ 240) then decide ((b0 : Int) < 245) else false) = false := by
    by_cases h : (b0 : Int) ≥ 240
    · rw [dT h, dF (show ¬ (b0 : Int) < 245 by omega)]; rfl
    · rw [dF h]; rfl
  rw [dT (show (0 : Int) < n by omega), dF (show ¬ (b0 : Int) < 128 by omega), k1, k2, k3]
  simp only [cond_true, cond_false]
  exact bad (by rw [hD]; (repeat' split) <;> first | rfl | (exfalso; omega))
def rdP (s : List UInt8) : Int × Nat := (decC (ba s), (Lib.decodeGo (ba s)).2)
theorem layRd0_ok : (layRd0 encX encXE).OK Tryz.prog := Lay.nil_ok.addF encrTold_ok
end Go.Mu
set_option linter.unusedVariables false
set_option linter.unusedSimpArgs false
set_option maxRecDepth 100000
namespace Go.Mu
open Go Go.Proofs
/- Chars -/
abbrev RdP := List UInt8 → Int × Nat
def rdTold (W : RdP) : FSp := mkFS [.s] (fun xs => decide ((aS xs 0).length ≤ 1099511627776)) (fun xs k => k (.ret (.tuple [.int .i64 (W (aS xs 0)).1, .int .i64 ((W (aS xs 0)).2 : Nat)]) []))
def layRc0 (W : RdP) : Lay := Lay.nil.addF 60 (rdTold W)
def ichRow (c : Int) : List AVal := [.int .i64 c]
abbrev RcR := List UInt8 → List Int
noncomputable def rcSp (R : RcR) : LSp := mkL (fun vs _ H => (aS vs 0, (aI vs 2).toNat)) (fun x => x.2 = 0 ∧ x.1.length ≤ 1099511627776) (fun x => [.str x.1, nilList, .int .i64 (x.2 : Nat)]) (fun _ => []) (fun _ => [])
  (fun x k => cond (x.1 == []) (k (.exit 0) [nilList] [] []) (k (.exit 0) [.own 0 0 (R x.1).length ((R x.1).length - 1) false] [] [.arr 1 ((R x.1).map ichRow) ((R x.1).length - 1)]))
noncomputable def rcFH (R : RcR) : FH := .of [(3, loopSpec 28 [0,3,4] [] [3] [] (rcSp R))]
theorem rc_s0 (R : RcR) (W : RdP) (s : List UInt8) (i : Int) (D : List (FuncId × List AVal)) (k : Kont) : lturn Tryz.prog (layRc0 W) (rcFH R) 28 3 [0,3,4] [] [3] [] (stL 28 [0,3,4] [.str s, nilList, .int .i64 i] [] [] [] D) k = (
 let n0 : Int := (↑s.length : Int);
 let l1 : List UInt8 := List.drop i.toNat (List.take n0.toNat s);
 let n2 : Int := (W l1).fst;
  bif decide (i < n0) then
  bif decide (0 ≤ i) && decide (i ≤ n0) && decide (n0 ≤ n0) then
  bif decide (l1.length ≤ 1099511627776) then
  bif decide (n2 ≤ 0) then
  k AExit.normal
  (stL 28 [0, 3, 4]
  [AVal.str s, AVal.own 0 0 (0 + 1) 0 false,
  AVal.int IntKind.i64 (IntKind.i64.wrap (i + (↑(W l1).snd : Int)))]
  [] [] [Obj.arr 1 [[AVal.int IntKind.i64 65533]] 0] D)
  else
  k AExit.normal
  (stL 28 [0, 3, 4]
  [AVal.str s, AVal.own 0 0 (0 + 1) 0 false,
  AVal.int IntKind.i64 (IntKind.i64.wrap (i + (↑(W l1).snd : Int)))]
  [] [] [Obj.arr 1 [[AVal.int IntKind.i64 n2]] 0] D)
  else none
  else none
  else k (AExit.exit 0) (stL 28 [3] [AVal.list true 0 fun (x : Nat) => []] [] [] [] D)) := by kernel_rfl
theorem rc_s1 (R : RcR) (W : RdP) (s : List UInt8) (i : Int) (q v : Nat) (rows : List (List AVal)) (D : List (FuncId × List AVal)) (k : Kont) : lturn Tryz.prog (layRc0 W) (rcFH R) 28 3 [0,3,4] [] [3] [] (stL 28 [0,3,4] [.str s, .own 0 0 q v false, .int .i64 i] [] [] [.arr 1 rows v] D) k = (
 let n0 : Int := (↑s.length : Int);
 let l1 : List UInt8 := List.drop i.toNat (List.take n0.toNat s);
 let n2 : Int := (W l1).fst;
 let m3 : Nat := q + 1;
 let c4 : Bool := v == v && q == rows.length && decide ((2 * m3 + 1000) * 8 ≤ 281474976710656) && true;
 let m5 : Nat := v + 1;
  bif decide (i < n0) then
  bif decide (0 ≤ i) && decide (i ≤ n0) && decide (n0 ≤ n0) then
  bif decide (l1.length ≤ 1099511627776) then
  bif decide (n2 ≤ 0) then
  bif c4 then
  k AExit.normal
  (stL 28 [0, 3, 4]
  [AVal.str s, AVal.own 0 0 m3 m5 false, AVal.int IntKind.i64 (IntKind.i64.wrap (i + (↑(W l1).snd : Int)))]
  [] [] [Obj.arr 1 (rows.append [[AVal.int IntKind.i64 65533]]) m5] D)
  else none
  else
  bif c4 then
  k AExit.normal
  (stL 28 [0, 3, 4]
  [AVal.str s, AVal.own 0 0 m3 m5 false, AVal.int IntKind.i64 (IntKind.i64.wrap (i + (↑(W l1).snd : Int)))]
  [] [] [Obj.arr 1 (rows.append [[AVal.int IntKind.i64 n2]]) m5] D)
  else none
  else none
  else none
  else k (AExit.exit 0) (stL 28 [3] [AVal.own 0 0 q v false] [] [] [Obj.arr 1 rows v] D)) := by kernel_rfl
noncomputable def layRc (W : RdP) (R : RcR) : Lay := (layRc0 W).addL 28 (rcFH R)
theorem rc_fun (W : RdP) (R : RcR) (s : List UInt8) (k : Out → Ans) : iFun Tryz.prog ((layRc W R).hd Tryz.prog) (layRc W R).fhs 0 28 [.str s] [] k = (
 let m0 : Nat := (R s).length - 1;
  bif
  tst
  ((Int.toNat 0 = 0 ∧ s.length ≤ 1099511627776) ∧
  SubTL [AVal.str s, AVal.list true 0 fun (x : Nat) => [], AVal.int IntKind.i64 0]
  [AVal.str s, AVal.list true 0 fun (x : Nat) => [], AVal.int IntKind.i64 (↑(Int.toNat 0) : Int)] ∧
  ([] : List (List AVal)) = [] ∧ ([] : Heap) = []) then
  bif s == [] then k (Out.ret (AVal.list true 0 fun (x : Nat) => []) [])
  else k (Out.ret (AVal.own 0 0 (R s).length m0 false) [Obj.arr 1 (List.map ichRow (R s)) m0])
  else none) := by kernel_rfl
/- Repair -/
def rpcTold (C : RcR) : FSp := mkFS [.s] (fun xs => decide ((aS xs 0).length ≤ 1099511627776)) (fun xs k => k (.ret (encL false ichRow 0 (C (aS xs 0))) []))
def layRr0 (C : RcR) (X : Int → List UInt8) (E : Int → Int) : Lay := (Lay.nil.addF 28 (rpcTold C)).addF 29 (encrTold X E)
def okCh (l : List Int) : Prop := ∀ c ∈ l, 0 < c ∧ c ≤ 1114111 ∧ ¬ (55296 ≤ c ∧ c ≤ 57343)
abbrev RrR := List Int → List UInt8 × Nat
noncomputable def rrSp (R : RrR) : LSp := mkL (fun vs _ H => (fullOf (vs.getD 1 .undef), decL (fun r => intOf (r.getD 0 .undef)) (vs.getD 1 .undef), (aI vs 2).toNat)) (fun x => x.2.2 = 0 ∧ x.2.1.length ≤ 17592186044416 ∧ okCh x.2.1) (fun x => [nilList, encL x.1 ichRow 0 x.2.1, .int .i64 (x.2.2 : Nat)]) (fun _ => []) (fun _ => [])
  (fun x k => cond (x.2.1 == []) (k (.exit 0) [nilList] [] []) (k (.exit 0) [.own 0 0 (R x.2.1).1.length (R x.2.1).2 false] [] [.arr 1 ((R x.2.1).1.map byteRow) (R x.2.1).2]))
noncomputable def rrFH (R : RrR) : FH := .of [(4, loopSpec 29 [3,4,5] [] [3] [] (rrSp R))]
theorem rr_s0 (R : RrR) (C : RcR) (X : Int → List UInt8) (E : Int → Int) (f : Bool) (l : List Int) (i : Int) (D : List (FuncId × List AVal)) (k : Kont) : lturn Tryz.prog (layRr0 C X E) (rrFH R) 9 4 [3,4,5] [] [3] [] (stL 29 [3,4,5] [nilList, encL f ichRow 0 l, .int .i64 i] [] [] [] D) k = (
 let c0 : Bool := decide (i < (↑l.length : Int));
 let n1 : Int := l.getD i.toNat 0;
 let m2 : Nat := (List.map (fun (c : UInt8) => [AVal.int IntKind.u8 (↑c.toNat : Int)]) (X n1)).length;
 let m3 : Nat := 0 + m2;
  bif c0 then
  bif decide (0 ≤ i) && c0 then
  bif decide (0 ≤ n1 ∧ n1 ≤ 2147483647) then
  bif (decide (0 < m2) || true) && decide ((2 * m3 + 1000) * 1 ≤ 281474976710656) then
  k AExit.normal
  (stL 29 [3, 4, 5]
  [AVal.own 0 0 m3 0 false, AVal.list f l.length fun (i : Nat) => ichRow (l.getD i 0),
  AVal.int IntKind.i64 (IntKind.i64.wrap (i + 1))]
  [] [] [Obj.arr 1 (List.map (fun (c : UInt8) => [AVal.int IntKind.u8 (↑c.toNat : Int)]) (X n1)) 0] D)
  else none
  else none
  else none
  else k (AExit.exit 0) (stL 29 [3] [AVal.list true 0 fun (x : Nat) => []] [] [] [] D)) := by kernel_rfl
theorem rr_s1 (R : RrR) (C : RcR) (X : Int → List UInt8) (E : Int → Int) (f : Bool) (l : List Int) (i : Int) (q v : Nat) (rows : List (List AVal)) (D : List (FuncId × List AVal)) (k : Kont) : lturn Tryz.prog (layRr0 C X E) (rrFH R) 9 4 [3,4,5] [] [3] [] (stL 29 [3,4,5] [.own 0 0 q v false, encL f ichRow 0 l, .int .i64 i] [] [] [.arr 1 rows v] D) k = (
 let c0 : Bool := decide (i < (↑l.length : Int));
 let n1 : Int := l.getD i.toNat 0;
 let m2 : Nat := q + (List.map (fun (c : UInt8) => [AVal.int IntKind.u8 (↑c.toNat : Int)]) (X n1)).length;
 let m3 : Nat := v + 1;
  bif c0 then
  bif decide (0 ≤ i) && c0 then
  bif decide (0 ≤ n1 ∧ n1 ≤ 2147483647) then
  bif v == v && q == rows.length && decide ((2 * m2 + 1000) * 1 ≤ 281474976710656) && true then
  k AExit.normal
  (stL 29 [3, 4, 5]
  [AVal.own 0 0 m2 m3 false, AVal.list f l.length fun (i : Nat) => ichRow (l.getD i 0),
  AVal.int IntKind.i64 (IntKind.i64.wrap (i + 1))]
  [] []
  [Obj.arr 1 (rows.append (List.map (fun (c : UInt8) => [AVal.int IntKind.u8 (↑c.toNat : Int)]) (X n1))) m3]
  D)
  else none
  else none
  else none
  else k (AExit.exit 0) (stL 29 [3] [AVal.own 0 0 q v false] [] [] [Obj.arr 1 rows v] D)) := by kernel_rfl
noncomputable def layRr (C : RcR) (X : Int → List UInt8) (E : Int → Int) (R : RrR) : Lay := (layRr0 C X E).addL 9 (rrFH R)
theorem rr_fun (C : RcR) (X : Int → List UInt8) (E : Int → Int) (R : RrR) (s : List UInt8) (k : Out → Ans) : iFun Tryz.prog ((layRr C X E R).hd Tryz.prog) (layRr C X E R).fhs 0 9 [.str s] [] k = (
 let m0 : Nat :=
  (decL (fun (r : List AVal) => intOf (r.getD 0 AVal.undef))
  (AVal.list false (C s).length fun (i : Nat) => ichRow ((C s).getD i 0))).length;
 let m1 : Nat :=
  (R
  (decL (fun (r : List AVal) => intOf (r.getD 0 AVal.undef))
  (AVal.list false (C s).length fun (i : Nat) => ichRow ((C s).getD i 0)))).snd;
 let l2 : List UInt8 :=
  (R
  (decL (fun (r : List AVal) => intOf (r.getD 0 AVal.undef))
  (AVal.list false (C s).length fun (i : Nat) => ichRow ((C s).getD i 0)))).fst;
 let m3 : Nat := l2.length;
  bif decide (s.length ≤ 1099511627776) then
  bif
  tst
  ((Int.toNat 0 = 0 ∧
  m0 ≤ 17592186044416 ∧
  okCh
  (decL (fun (r : List AVal) => intOf (r.getD 0 AVal.undef))
  (AVal.list false (C s).length fun (i : Nat) => ichRow ((C s).getD i 0)))) ∧
  SubTL
  [AVal.list true 0 fun (x : Nat) => [],
  AVal.list false (C s).length fun (i : Nat) => ichRow ((C s).getD i 0), AVal.int IntKind.i64 0]
  [AVal.list true 0 fun (x : Nat) => [],
  AVal.list false m0 fun (i : Nat) =>
  ichRow
  ((decL (fun (r : List AVal) => intOf (r.getD 0 AVal.undef))
  (AVal.list false (C s).length fun (i : Nat) => ichRow ((C s).getD i 0))).getD
  i 0),
  AVal.int IntKind.i64 (↑(Int.toNat 0) : Int)] ∧
  ([] : List (List AVal)) = [] ∧ ([] : Heap) = []) then
  bif
  decL (fun (r : List AVal) => intOf (r.getD 0 AVal.undef))
  (AVal.list false (C s).length fun (i : Nat) => ichRow ((C s).getD i 0)) ==
  [] then
  k (Out.ret (AVal.str []) [])
  else
  bif
  m1 == m1 && true &&
  decide (0 + m3 ≤ (List.map (fun (c : UInt8) => [AVal.int IntKind.u8 (↑c.toNat : Int)]) l2).length) &&
  (List.take m3 (List.drop 0 (List.map (fun (c : UInt8) => [AVal.int IntKind.u8 (↑c.toNat : Int)]) l2))).all
  fun (r : List AVal) =>
  match r with
  | [v] => isInt IntKind.u8 v
  | x => false then
  k
  (Out.ret
  (AVal.str
  (List.map (fun (r : List AVal) => UInt8.ofNat (intOf (r.getD 0 AVal.undef)).toNat)
  (List.take m3 (List.drop 0 (List.map (fun (c : UInt8) => [AVal.int IntKind.u8 (↑c.toNat : Int)]) l2)))))
  [Obj.arr 1 (List.map (fun (c : UInt8) => [AVal.int IntKind.u8 (↑c.toNat : Int)]) l2) m1])
  else none
  else none
  else none) := by kernel_rfl
/- Escape -/
def ursTold (R : List UInt8 → List UInt8) : FSp := mkFS [.s] (fun xs => decide ((aS xs 0).length ≤ 1073741824)) (fun xs k => k (.ret (.str (R (aS xs 0))) []))
def layRe0 (R : List UInt8 → List UInt8) : Lay := Lay.nil.addF 9 (ursTold R)
abbrev ReR := List UInt8 → List UInt8 × Nat
noncomputable def reSp (R : ReR) : LSp := mkL (fun vs _ H => (aS vs 0, (aI vs 2).toNat)) (fun x => x.2 = 0 ∧ x.1.length ≤ 17592186044416) (fun x => [.str x.1, nilList, .int .i64 (x.2 : Nat)]) (fun _ => []) (fun _ => [])
  (fun x k => cond (x.1 == []) (k (.exit 0) [nilList] [] []) (k (.exit 0) [.own 0 0 (R x.1).1.length (R x.1).2 false] [] [.arr 1 ((R x.1).1.map byteRow) (R x.1).2]))
noncomputable def reFH (R : ReR) : FH := .of [(4, loopSpec 49 [3,4,5] [] [4] [] (reSp R))]
theorem re_s0 (R : ReR) (W : List UInt8 → List UInt8) (s : List UInt8) (i : Int) (D : List (FuncId × List AVal)) (k : Kont) : lturn Tryz.prog (layRe0 W) (reFH R) 23 4 [3,4,5] [] [4] [] (stL 49 [3,4,5] [.str s, nilList, .int .i64 i] [] [] [] D) k = (
 let c0 : Bool := decide (i < (↑s.length : Int));
 let c1 : Bool := decide (0 ≤ i) && c0;
 let n2 : Int := (↑(s.getD i.toNat 0).toNat : Int);
  bif c0 then
  bif c1 then
  bif n2 == 38 then
  k AExit.normal
  (stL 49 [3, 4, 5] [AVal.str s, AVal.own 0 0 5 0 false, AVal.int IntKind.i64 (IntKind.i64.wrap (i + 1))] [] []
  [Obj.arr 1
  [[AVal.int IntKind.u8 38], [AVal.int IntKind.u8 97], [AVal.int IntKind.u8 109], [AVal.int IntKind.u8 112],
  [AVal.int IntKind.u8 59]]
  0]
  D)
  else
  bif n2 == 60 then
  k AExit.normal
  (stL 49 [3, 4, 5] [AVal.str s, AVal.own 0 0 4 0 false, AVal.int IntKind.i64 (IntKind.i64.wrap (i + 1))] [] []
  [Obj.arr 1
  [[AVal.int IntKind.u8 38], [AVal.int IntKind.u8 108], [AVal.int IntKind.u8 116],
  [AVal.int IntKind.u8 59]]
  0]
  D)
  else
  bif n2 == 62 then
  k AExit.normal
  (stL 49 [3, 4, 5] [AVal.str s, AVal.own 0 0 4 0 false, AVal.int IntKind.i64 (IntKind.i64.wrap (i + 1))] []
  []
  [Obj.arr 1
  [[AVal.int IntKind.u8 38], [AVal.int IntKind.u8 103], [AVal.int IntKind.u8 116],
  [AVal.int IntKind.u8 59]]
  0]
  D)
  else
  bif n2 == 34 then
  k AExit.normal
  (stL 49 [3, 4, 5] [AVal.str s, AVal.own 0 0 5 0 false, AVal.int IntKind.i64 (IntKind.i64.wrap (i + 1))] []
  []
  [Obj.arr 1
  [[AVal.int IntKind.u8 38], [AVal.int IntKind.u8 35], [AVal.int IntKind.u8 51],
  [AVal.int IntKind.u8 52], [AVal.int IntKind.u8 59]]
  0]
  D)
  else
  bif n2 == 39 then
  k AExit.normal
  (stL 49 [3, 4, 5] [AVal.str s, AVal.own 0 0 5 0 false, AVal.int IntKind.i64 (IntKind.i64.wrap (i + 1))]
  [] []
  [Obj.arr 1
  [[AVal.int IntKind.u8 38], [AVal.int IntKind.u8 35], [AVal.int IntKind.u8 51],
  [AVal.int IntKind.u8 57], [AVal.int IntKind.u8 59]]
  0]
  D)
  else
  bif n2 == 43 then
  k AExit.normal
  (stL 49 [3, 4, 5]
  [AVal.str s, AVal.own 0 0 5 0 false, AVal.int IntKind.i64 (IntKind.i64.wrap (i + 1))] [] []
  [Obj.arr 1
  [[AVal.int IntKind.u8 38], [AVal.int IntKind.u8 35], [AVal.int IntKind.u8 52],
  [AVal.int IntKind.u8 51], [AVal.int IntKind.u8 59]]
  0]
  D)
  else
  bif c1 then
  k AExit.normal
  (stL 49 [3, 4, 5]
  [AVal.str s, AVal.own 0 0 (0 + 1) 0 false, AVal.int IntKind.i64 (IntKind.i64.wrap (i + 1))] [] []
  [Obj.arr 1 [[AVal.int IntKind.u8 n2]] 0] D)
  else none
  else none
  else k (AExit.exit 0) (stL 49 [4] [AVal.list true 0 fun (x : Nat) => []] [] [] [] D)) := by kernel_rfl
theorem re_s1 (R : ReR) (W : List UInt8 → List UInt8) (s : List UInt8) (i : Int) (q v : Nat) (rows : List (List AVal)) (D : List (FuncId × List AVal)) (k : Kont) : lturn Tryz.prog (layRe0 W) (reFH R) 23 4 [3,4,5] [] [4] [] (stL 49 [3,4,5] [.str s, .own 0 0 q v false, .int .i64 i] [] [] [.arr 1 rows v] D) k = (
 let c0 : Bool := decide (i < (↑s.length : Int));
 let c1 : Bool := decide (0 ≤ i) && c0;
 let n2 : Int := (↑(s.getD i.toNat 0).toNat : Int);
 let c3 : Bool := v == v && q == rows.length;
 let m4 : Nat := q + 5;
 let c5 : Bool := c3 && decide ((2 * m4 + 1000) * 1 ≤ 281474976710656) && true;
 let m6 : Nat := v + 1;
 let m7 : Nat := q + 4;
 let c8 : Bool := c3 && decide ((2 * m7 + 1000) * 1 ≤ 281474976710656) && true;
 let m9 : Nat := q + 1;
  bif c0 then
  bif c1 then
  bif n2 == 38 then
  bif c5 then
  k AExit.normal
  (stL 49 [3, 4, 5] [AVal.str s, AVal.own 0 0 m4 m6 false, AVal.int IntKind.i64 (IntKind.i64.wrap (i + 1))] []
  []
  [Obj.arr 1
  (rows.append
  [[AVal.int IntKind.u8 38], [AVal.int IntKind.u8 97], [AVal.int IntKind.u8 109],
  [AVal.int IntKind.u8 112], [AVal.int IntKind.u8 59]])
  m6]
  D)
  else none
  else
  bif n2 == 60 then
  bif c8 then
  k AExit.normal
  (stL 49 [3, 4, 5] [AVal.str s, AVal.own 0 0 m7 m6 false, AVal.int IntKind.i64 (IntKind.i64.wrap (i + 1))] []
  []
  [Obj.arr 1
  (rows.append
  [[AVal.int IntKind.u8 38], [AVal.int IntKind.u8 108], [AVal.int IntKind.u8 116],
  [AVal.int IntKind.u8 59]])
  m6]
  D)
  else none
  else
  bif n2 == 62 then
  bif c8 then
  k AExit.normal
  (stL 49 [3, 4, 5] [AVal.str s, AVal.own 0 0 m7 m6 false, AVal.int IntKind.i64 (IntKind.i64.wrap (i + 1))]
  [] []
  [Obj.arr 1
  (rows.append
  [[AVal.int IntKind.u8 38], [AVal.int IntKind.u8 103], [AVal.int IntKind.u8 116],
  [AVal.int IntKind.u8 59]])
  m6]
  D)
  else none
  else
  bif n2 == 34 then
  bif c5 then
  k AExit.normal
  (stL 49 [3, 4, 5]
  [AVal.str s, AVal.own 0 0 m4 m6 false, AVal.int IntKind.i64 (IntKind.i64.wrap (i + 1))] [] []
  [Obj.arr 1
  (rows.append
  [[AVal.int IntKind.u8 38], [AVal.int IntKind.u8 35], [AVal.int IntKind.u8 51],
  [AVal.int IntKind.u8 52], [AVal.int IntKind.u8 59]])
  m6]
  D)
  else none
  else
  bif n2 == 39 then
  bif c5 then
  k AExit.normal
  (stL 49 [3, 4, 5]
  [AVal.str s, AVal.own 0 0 m4 m6 false, AVal.int IntKind.i64 (IntKind.i64.wrap (i + 1))] [] []
  [Obj.arr 1
  (rows.append
  [[AVal.int IntKind.u8 38], [AVal.int IntKind.u8 35], [AVal.int IntKind.u8 51],
  [AVal.int IntKind.u8 57], [AVal.int IntKind.u8 59]])
  m6]
  D)
  else none
  else
  bif n2 == 43 then
  bif c5 then
  k AExit.normal
  (stL 49 [3, 4, 5]
  [AVal.str s, AVal.own 0 0 m4 m6 false, AVal.int IntKind.i64 (IntKind.i64.wrap (i + 1))] [] []
  [Obj.arr 1
  (rows.append
  [[AVal.int IntKind.u8 38], [AVal.int IntKind.u8 35], [AVal.int IntKind.u8 52],
  [AVal.int IntKind.u8 51], [AVal.int IntKind.u8 59]])
  m6]
  D)
  else none
  else
  bif c1 then
  bif c3 && decide ((2 * m9 + 1000) * 1 ≤ 281474976710656) && true then
  k AExit.normal
  (stL 49 [3, 4, 5]
  [AVal.str s, AVal.own 0 0 m9 m6 false, AVal.int IntKind.i64 (IntKind.i64.wrap (i + 1))] [] []
  [Obj.arr 1 (rows.append [[AVal.int IntKind.u8 n2]]) m6] D)
  else none
  else none
  else none
  else k (AExit.exit 0) (stL 49 [4] [AVal.own 0 0 q v false] [] [] [Obj.arr 1 rows v] D)) := by kernel_rfl
noncomputable def layRe (W : List UInt8 → List UInt8) (R : ReR) : Lay := (layRe0 W).addL 23 (reFH R)
theorem re_fun (W : List UInt8 → List UInt8) (R : ReR) (s : List UInt8) (k : Out → Ans) : iFun Tryz.prog ((layRe W R).hd Tryz.prog) (layRe W R).fhs 0 23 [.str s] [] k = (
 let m0 : Nat := (R (W s)).snd;
 let l1 : List UInt8 := (R (W s)).fst;
 let m2 : Nat := l1.length;
  bif decide (s.length ≤ 1073741824) then
  bif
  tst
  ((Int.toNat 0 = 0 ∧ (W s).length ≤ 17592186044416) ∧
  SubTL [AVal.str (W s), AVal.list true 0 fun (x : Nat) => [], AVal.int IntKind.i64 0]
  [AVal.str (W s), AVal.list true 0 fun (x : Nat) => [], AVal.int IntKind.i64 (↑(Int.toNat 0) : Int)] ∧
  ([] : List (List AVal)) = [] ∧ ([] : Heap) = []) then
  bif W s == [] then k (Out.ret (AVal.str []) [])
  else
  bif
  m0 == m0 && true &&
  decide (0 + m2 ≤ (List.map (fun (c : UInt8) => [AVal.int IntKind.u8 (↑c.toNat : Int)]) l1).length) &&
  (List.take m2 (List.drop 0 (List.map (fun (c : UInt8) => [AVal.int IntKind.u8 (↑c.toNat : Int)]) l1))).all
  fun (r : List AVal) =>
  match r with
  | [v] => isInt IntKind.u8 v
  | x => false then
  k
  (Out.ret
  (AVal.str
  (List.map (fun (r : List AVal) => UInt8.ofNat (intOf (r.getD 0 AVal.undef)).toNat)
  (List.take m2 (List.drop 0 (List.map (fun (c : UInt8) => [AVal.int IntKind.u8 (↑c.toNat : Int)]) l1)))))
  [Obj.arr 1 (List.map (fun (c : UInt8) => [AVal.int IntKind.u8 (↑c.toNat : Int)]) l1) m0])
  else none
  else none
  else none) := by kernel_rfl
end Go.Mu
set_option linter.unusedVariables false
set_option linter.unusedSimpArgs false
set_option maxRecDepth 100000
namespace Go.Mu
open Go Go.Proofs
variable {P : Program}
theorem Lay.OK.callN {L : Lay} (h : L.OK P) {f : FuncId} {xs : List AVal} {v : AVal} {G : Heap} (F : Nat) (hv : refsD 6 0 v = true) (hr : ∀ k, iFun P (L.hd P) L.fhs F f xs [] k = k (.ret v G)) : CallOK P f xs [] (.ret v []) := by
  refine CallOK.shrink (H := []) (H' := []) (G := G) ?_ (Nat.le_refl _) hv (fun x hx => by cases hx)
  classical
  have hz : iFun P (L.hd P) L.fhs F f xs [] (fun o' => if o' = .ret v G then some (.ret v G) else none) = some (.ret v G) := (hr _).trans (by simp)
  obtain ⟨o', h1, h2⟩ := iFun_sound h.hok (fun g => ⟨regions_ok h.hok _, h.l g⟩) hz
  split at h2
  · rename_i e; rw [e] at h1; exact h1
  · simp at h2
theorem rdcTold_ok : ∀ xs H k out, rdTold rdP xs H k = some out → ∃ o, CallOK Tryz.prog 60 xs H o ∧ k o = some out := mkFS_ok fun ys xs e h => by
  obtain ⟨s, rfl⟩ : ∃ s, xs = [.str s] := ⟨_, e⟩
  have h2 : s.length ≤ 1099511627776 := of_decide_eq_true h
  exact ⟨_, fun k => rfl, layRd0_ok.callN (G := []) 9 rfl (fun k => rdec_call s h2 k)⟩
theorem layRc0_ok : (layRc0 rdP).OK Tryz.prog := Lay.nil_ok.addF rdcTold_ok
/- Chars -/
theorem rep_of (t : ByteArray) : repC t = if decC t ≤ 0 then 65533 else decC t := by
  unfold repC decC
  by_cases h : (Lib.decodeGo t).1 = 65533 ∧ (Lib.decodeGo t).2 < 2
  · rw [if_pos h, h.1]; simp
  · rw [if_neg h]
    by_cases h0 : (Lib.decodeGo t).1 = 0
    · rw [if_pos h0, if_pos (by omega)]
    · rw [if_neg h0, if_neg (by omega)]
theorem ba_ext (s : List UInt8) (w : Nat) : (ba s).extract w (ba s).size = ba (s.drop w) := by
  apply ByteArray.ext
  rw [ByteArray.data_extract]
  apply Array.ext'
  simp [ba, ByteArray.size]
  exact List.take_of_length_le (by simp)
theorem dgo_w (s : List UInt8) (h : s ≠ []) : 1 ≤ (Lib.decodeGo (ba s)).2 ∧ (Lib.decodeGo (ba s)).2 ≤ s.length := by
  have hl : 0 < s.length := List.length_pos_iff.2 h
  have hz : ¬ (ba s).size = 0 := by rw [ba_size]; omega
  have hdG : Lib.decodeGo (ba s) = Utf8.decode (ba s) 0 := by unfold Lib.decodeGo; rw [if_neg hz]
  rw [hdG]
  exact ⟨Lib.width_pos (ba s) 0, Lib.width_le (ba s) (by rw [ba_size]; omega)⟩
def chL (m : Nat) (s : List UInt8) : List Int := chF m (ba s)
theorem chL_cons (m : Nat) (s : List UInt8) (h : s ≠ []) : chL (m + 1) s = (if (rdP s).1 ≤ 0 then 65533 else (rdP s).1) :: chL m (s.drop (rdP s).2) := by
  have hl : 0 < s.length := List.length_pos_iff.2 h
  unfold chL
  rw [chF, if_neg (by rw [ba_size]; omega), ba_ext, rep_of]
  rfl
theorem chL_nil (m : Nat) : chL m [] = [] := by
  cases m with
  | zero => rfl
  | succ m => unfold chL; rw [chF, if_pos (by rfl)]
theorem rdP_w (s : List UInt8) (h : s ≠ []) : 1 ≤ (rdP s).2 ∧ (rdP s).2 ≤ s.length := dgo_w s h
theorem chL_len : ∀ (m : Nat) (s : List UInt8), (chL m s).length ≤ s.length
  | 0, s => Nat.zero_le _
  | m + 1, s => by
    by_cases h : s = []
    · subst h; rw [chL_nil]; exact Nat.le_refl _
    · have hw := rdP_w s h
      rw [chL_cons m s h, List.length_cons]
      have := chL_len m (s.drop (rdP s).2)
      rw [List.length_drop] at this
      omega
noncomputable abbrev rcTurn := lturn Tryz.prog (layRc0 rdP) (rcFH (fun s => chL s.length s)) 28 3 [0,3,4] [] [3] []
theorem h_row (l : List Int) (c : Int) : (l.map ichRow).append [[AVal.int IntKind.i64 c]] = (l ++ [c]).map ichRow := by
  show l.map ichRow ++ [ichRow c] = _
  rw [List.map_append]; rfl
theorem rc_own (s : List UInt8) (hs : s.length ≤ 1099511627776) : ∀ (m i : Nat) (l : List Int) (v : Nat), s.length - i ≤ m → i ≤ s.length → l.length ≤ i →
    LoopRuns rcTurn 28 [0,3,4] [] [3] [] [.str s, .own 0 0 l.length v false, .int .i64 (i : Nat)] [] [.arr 1 (l.map ichRow) v] (.exit 0) [.own 0 0 (l ++ chL m (s.drop i)).length (v + (chL m (s.drop i)).length) false] [] [.arr 1 ((l ++ chL m (s.drop i)).map ichRow) (v + (chL m (s.drop i)).length)] := by
  have out : ∀ (m i : Nat) (l : List Int) (v : Nat), s.length ≤ i → LoopRuns rcTurn 28 [0,3,4] [] [3] [] [.str s, .own 0 0 l.length v false, .int .i64 (i : Nat)] [] [.arr 1 (l.map ichRow) v] (.exit 0) [.own 0 0 (l ++ chL m (s.drop i)).length (v + (chL m (s.drop i)).length) false] [] [.arr 1 ((l ++ chL m (s.drop i)).map ichRow) (v + (chL m (s.drop i)).length)] := fun m i l v hi => by
    rw [List.drop_eq_nil_of_le hi, chL_nil, List.append_nil]
    refine .stop (by simp) (fun D k => (rc_s1 _ rdP s i l.length v (l.map ichRow) D k).trans ?_)
    simp only [dF (show ¬ (i : Int) < s.length by omega), cond_false]
    rfl
  intro m
  induction m with
  | zero => intro i l v hm hi hl; exact out 0 i l v (by omega)
  | succ m ih =>
    intro i l v hm hi hl
    by_cases hlt : i < s.length
    case neg => exact out (m + 1) i l v (by omega)
    have hne : s.drop i ≠ [] := by
      intro e
      have := congrArg List.length e
      rw [List.length_drop] at this
      simp at this
      omega
    have hdl : (s.drop i).length = s.length - i := List.length_drop
    have hw := rdP_w (s.drop i) hne
    have et : List.drop i (List.take s.length s) = s.drop i := by rw [List.take_length]
    have e2 : IntKind.i64.wrap ((i : Int) + (((rdP (s.drop i)).2 : Nat) : Int)) = ((i + (rdP (s.drop i)).2 : Nat) : Int) := by rw [wrap_of (by omega) (by omega)]; omega
    have hq : (l.length == (l.map ichRow).length) = true := by simp
    have key := fun D k => rc_s1 (fun s => chL s.length s) rdP s i l.length v (l.map ichRow) D k
    simp only [Int.toNat_natCast, et, e2, hq, beq_self_eq_true, dT (show (i : Int) < s.length by omega), dT (show (0 : Int) ≤ i by omega), dT (show (i : Int) ≤ s.length by omega), dT (show (s.length : Int) ≤ s.length by omega), dT (show (s.drop i).length ≤ 1099511627776 by omega), dT (show (2 * (l.length + 1) + 1000) * 8 ≤ 281474976710656 by omega), Bool.and_self, cond_true, h_row] at key
    rw [chL_cons m _ hne, List.drop_drop]
    by_cases hc : (rdP (s.drop i)).1 ≤ 0
    · simp only [dT hc, cond_true] at key
      rw [if_pos hc]
      have ih2 := ih (i + (rdP (s.drop i)).2) (l ++ [65533]) (v + 1) (by omega) (by omega) (by rw [List.length_append, List.length_singleton]; omega)
      rw [List.append_assoc, List.singleton_append] at ih2
      rw [List.length_append, List.length_singleton] at ih2
      rw [List.length_cons, show v + ((chL m (List.drop (i + (rdP (List.drop i s)).2) s)).length + 1) = v + 1 + (chL m (List.drop (i + (rdP (List.drop i s)).2) s)).length by omega]
      exact .step key ih2
    · simp only [dF hc, cond_false] at key
      rw [if_neg hc]
      have ih2 := ih (i + (rdP (s.drop i)).2) (l ++ [(rdP (s.drop i)).1]) (v + 1) (by omega) (by omega) (by rw [List.length_append, List.length_singleton]; omega)
      rw [List.append_assoc, List.singleton_append] at ih2
      rw [List.length_append, List.length_singleton] at ih2
      rw [List.length_cons, show v + ((chL m (List.drop (i + (rdP (List.drop i s)).2) s)).length + 1) = v + 1 + (chL m (List.drop (i + (rdP (List.drop i s)).2) s)).length by omega]
      exact .step key ih2
theorem rcSp_ok : SpOK rcTurn 28 [0,3,4] [] [3] [] (rcSp (fun s => chL s.length s)) := mkL_ok fun a h => by
  obtain ⟨s, i⟩ := a
  obtain ⟨h1, h2⟩ := h
  simp only at h1 h2
  subst h1
  show ∃ e vs bs H', (∀ k : AExit → List AVal → List (List AVal) → Heap → Ans, cond (s == []) _ _ = k e vs bs H') ∧ _
  by_cases hs0 : s = []
  · subst hs0
    exact ⟨_, _, _, _, fun k => rfl, .stop (by simp) (fun D k => (rc_s0 _ rdP [] 0 D k).trans rfl)⟩
  · have hb : (s == []) = false := by simpa using hs0
    have hl : 0 < s.length := List.length_pos_iff.2 hs0
    have hw := rdP_w s hs0
    rw [hb]
    refine ⟨_, _, _, _, fun k => rfl, ?_⟩
    have et : List.drop (Int.toNat 0) (List.take s.length s) = s := by rw [List.take_length]; rfl
    have e2 : IntKind.i64.wrap ((0 : Int) + (((rdP s).2 : Nat) : Int)) = (((rdP s).2 : Nat) : Int) := by rw [wrap_of (by omega) (by omega)]; omega
    have key := fun D k => rc_s0 (fun s => chL s.length s) rdP s 0 D k
    simp only [Int.toNat_natCast, et, e2, Nat.zero_add, dT (show (0 : Int) < s.length by omega), dT (show (0 : Int) ≤ 0 by omega), dT (show (0 : Int) ≤ s.length by omega), dT (show (s.length : Int) ≤ s.length by omega), dT (show s.length ≤ 1099511627776 by omega), Bool.and_self, cond_true] at key
    have e3 : chL s.length s = (if (rdP s).1 ≤ 0 then 65533 else (rdP s).1) :: chL (s.length - 1) (s.drop (rdP s).2) := by
      obtain ⟨m, hm⟩ : ∃ m, s.length = m + 1 := ⟨s.length - 1, by omega⟩
      rw [hm, chL_cons m s hs0, Nat.add_sub_cancel]
    show LoopRuns _ _ _ _ _ _ _ _ _ _ [.own 0 0 (chL s.length s).length ((chL s.length s).length - 1) false] _ [.arr 1 ((chL s.length s).map ichRow) ((chL s.length s).length - 1)]
    rw [e3]
    by_cases hc : (rdP s).1 ≤ 0
    · simp only [dT hc, cond_true] at key
      rw [if_pos hc]
      have ih := rc_own s (by omega) (s.length - 1) (rdP s).2 [65533] 0 (by omega) (by omega) (by show 1 ≤ _; omega)
      rw [List.singleton_append, Nat.zero_add] at ih
      exact .step key ih
    · simp only [dF hc, cond_false] at key
      rw [if_neg hc]
      have ih := rc_own s (by omega) (s.length - 1) (rdP s).2 [(rdP s).1] 0 (by omega) (by omega) (by show 1 ≤ _; omega)
      rw [List.singleton_append, Nat.zero_add] at ih
      exact .step key ih
theorem layRc_ok : (layRc rdP (fun s => chL s.length s)).OK Tryz.prog := layRc0_ok.loop1 (id := 3) (by kernel_rfl) (by kernel_rfl) (by kernel_rfl) rcSp_ok
def chP (s : List UInt8) : List Int := chL s.length s
theorem sub_ich (l : List Int) : Sub (.list false l.length (fun i => (l.map ichRow).getD i [])) (encL false ichRow 0 l) := by
  refine Sub.list (fun h => h) (fun i hi => ?_)
  have : (l.map ichRow).getD i [] = ichRow (l.getD i 0) := by
    rw [List.getD_eq_getElem?_getD, List.getD_eq_getElem?_getD, List.getElem?_map, List.getElem?_eq_getElem hi]
    rfl
  rw [this]
  exact .refl _
theorem rc_ok (s : List UInt8) (hs : s.length ≤ 1099511627776) : CallOK Tryz.prog 28 [.str s] [] (.ret (encL false ichRow 0 (chP s)) []) := by
  have key := fun k => (rc_fun rdP (fun s => chL s.length s) s k).trans ((congrArg (fun c => cond c _ none) (tst_true ⟨⟨rfl, hs⟩, .refl _, by trivial⟩)).trans (cond_true _ _))
  by_cases h0 : s = []
  · subst h0
    have hc : CallOK Tryz.prog 28 [.str []] [] (.ret (.list true 0 fun (x : Nat) => []) []) := layRc_ok.callF (G := []) rfl key
    exact hc.sub (.refl _) ⟨Sub.list (fun h => by cases h) (fun i hi => by omega), rfl⟩
  · have hb : (s == []) = false := by simpa using h0
    rw [hb] at key
    have hc : CallOK Tryz.prog 28 [.str s] [] (.ret (.own 0 0 (chP s).length ((chP s).length - 1) false) [.arr 1 ((chP s).map ichRow) ((chP s).length - 1)]) := layRc_ok.call key
    have fz : freezeV [.arr 1 ((chP s).map ichRow) ((chP s).length - 1)] 2 (.own 0 0 (chP s).length ((chP s).length - 1) false) = some (.list false (chP s).length (fun i => ((chP s).map ichRow).getD i [])) := by
      refine freezeW (sz := 1) (rows := (chP s).map ichRow) (rows' := (chP s).map ichRow) rfl (by simp) ?_
      rw [List.drop_zero, List.take_of_length_le (by simp)]
      exact freeze_pures _ 0 _ (fun r hr => by
        obtain ⟨a, _, rfl⟩ := List.mem_map.1 hr
        rfl)
    exact (hc.freeze (d := 2) fz).sub (.refl _) ⟨sub_ich (chP s), rfl⟩
theorem rcTold_ok : ∀ xs H k out, rpcTold chP xs H k = some out → ∃ o, CallOK Tryz.prog 28 xs H o ∧ k o = some out := mkFS_ok fun ys xs e h => by
  obtain ⟨s, rfl⟩ : ∃ s, xs = [.str s] := ⟨_, e⟩
  exact ⟨_, fun k => rfl, rc_ok s (of_decide_eq_true h)⟩
end Go.Mu
set_option linter.unusedVariables false
set_option linter.unusedSimpArgs false
set_option maxRecDepth 100000
namespace Go.Mu
open Go Go.Proofs
theorem encX_len (c : Int) : (encX c).length ≤ 4 := by
  unfold encX
  cases badR c with
  | true => simp
  | false =>
    have h := (Lib.runeCells_le c).2
    rw [Lib.runeCells_length] at h
    exact h
theorem rows_of (t : List UInt8) : t.map (fun c => [AVal.int IntKind.u8 (c.toNat : Int)]) = t.map byteRow := rfl
def rrR : RrR := fun l => (l.flatMap encX, l.length - 1)
noncomputable abbrev rrTurn := lturn Tryz.prog (layRr0 chP encX encXE) (rrFH rrR) 9 4 [3,4,5] [] [3] []
theorem rrSp_ok : SpOK rrTurn 29 [3,4,5] [] [3] [] (rrSp rrR) := mkL_ok fun a h => by
  obtain ⟨f, l, i⟩ := a
  obtain ⟨h1, h2, h3⟩ := h
  simp only at h1 h2 h3
  subst h1
  have hl := fun i => flat_len_take encX 4 encX_len l i
  have hx := encX_len
  have hc : ∀ i, i < l.length → 0 ≤ l.getD i 0 ∧ l.getD i 0 ≤ 2147483647 := fun i hi => by
    have := h3 (l.getD i 0) (by rw [List.getD_eq_getElem?_getD, List.getElem?_eq_getElem hi]; exact List.getElem_mem hi)
    omega
  have key := app_runs (turn := rrTurn) (n := 29) (l := [3,4,5]) (m := []) (lx := [3]) (mx := []) (sz := 1) (fun a i => [a, encL f ichRow 0 l, .int .i64 (i : Nat)]) (fun a => [a]) (fun i => ((l.take i).flatMap encX).map byteRow) l.length (e := .exit 0) (by simp)
    (fun h D k => by
      refine (rr_s0 rrR chP encX encXE f l ((0 : Nat) : Int) D k).trans ?_
      have e1 : IntKind.i64.wrap (((0 : Nat) : Int) + 1) = ((1 : Nat) : Int) := wrap_add1 (by omega)
      have hx0 := hx (l.getD 0 0)
      simp only [Int.toNat_natCast, e1, rows_of, List.length_map, take_flat l 0 encX 0 h, List.take_zero, List.flatMap_nil, List.nil_append, Nat.zero_add, dT (show ((0 : Nat) : Int) < l.length by omega), dT (show (0 : Int) ≤ ((0 : Nat) : Int) by omega), dT (hc 0 h), dT (show (2 * (encX (l.getD 0 0)).length + 1000) * 1 ≤ 281474976710656 by omega), Bool.or_true, Bool.and_self, cond_true])
    (fun i h D k => by
      refine (rr_s1 rrR chP encX encXE f l ((i + 1 : Nat) : Int) _ i _ D k).trans ?_
      have e1 : IntKind.i64.wrap (((i + 1 : Nat) : Int) + 1) = ((i + 2 : Nat) : Int) := wrap_add1 (by omega)
      have hx0 := hx (l.getD (i + 1) 0)
      have hi := hl (i + 1)
      simp only [Int.toNat_natCast, e1, rows_of, List.length_map, take_flat l 0 encX (i + 1) h, List.map_append, List.length_append, List.append_eq, beq_self_eq_true, dT (show ((i + 1 : Nat) : Int) < l.length by omega), dT (show (0 : Int) ≤ ((i + 1 : Nat) : Int) by omega), dT (hc (i + 1) h), dT (show (2 * (((l.take (i + 1)).flatMap encX).length + (encX (l.getD (i + 1) 0)).length) + 1000) * 1 ≤ 281474976710656 by omega), Bool.or_true, Bool.and_self, cond_true])
    (fun h D k => by
      refine (rr_s0 rrR chP encX encXE f l ((0 : Nat) : Int) D k).trans ?_
      rw [h]
      rfl)
    (fun i h D k => by
      refine (rr_s1 rrR chP encX encXE f l ((i + 1 : Nat) : Int) _ i _ D k).trans ?_
      simp only [dF (show ¬ ((i + 1 : Nat) : Int) < l.length by omega), cond_false])
  rw [List.take_of_length_le (Nat.le_refl _)] at key
  show ∃ e vs bs H', (∀ k : AExit → List AVal → List (List AVal) → Heap → Ans, cond (l == []) _ _ = k e vs bs H') ∧ _
  cases l with
  | nil => exact ⟨_, _, _, _, fun k => rfl, key⟩
  | cons c l =>
    refine ⟨_, _, _, _, fun k => rfl, ?_⟩
    rw [if_neg (by simp), if_neg (by simp), List.length_map] at key
    exact key
theorem layRr0_ok : (layRr0 chP encX encXE).OK Tryz.prog := (Lay.nil_ok.addF rcTold_ok).addF encrTold_ok
theorem layRr_ok : (layRr chP encX encXE rrR).OK Tryz.prog := layRr0_ok.loop1 (id := 4) (by kernel_rfl) (by kernel_rfl) (by kernel_rfl) rrSp_ok
def rpP (s : List UInt8) : List UInt8 := (chP s).flatMap encX
theorem rdP_ok (s : List UInt8) (h : s ≠ []) : (rdP s).1 ≤ 1114111 ∧ ¬ (55296 ≤ (rdP s).1 ∧ (rdP s).1 ≤ 57343) := by
  have hD := dgo_N s h
  have hs := Lib.decodeN_shape s.length (s.getD 0 0).toNat (s.getD 1 0).toNat (s.getD 2 0).toNat (s.getD 3 0).toNat
  rw [← hD] at hs
  unfold rdP decC
  simp only
  split
  · omega
  · rcases hs with ⟨_, e⟩ | ⟨_, _, _, _, e⟩ | ⟨_, _, _, _, _, _, e⟩ | ⟨_, _, _, _, _, _, _, e⟩ | e
    all_goals (rw [e]; simp only; omega)
theorem chL_ok : ∀ (m : Nat) (s : List UInt8), okCh (chL m s)
  | 0, s => by intro c hc; unfold chL chF at hc; cases hc
  | m + 1, s => by
    by_cases h : s = []
    · subst h; rw [chL_nil]; intro c hc; cases hc
    · rw [chL_cons m s h]
      intro c hc
      rcases List.mem_cons.1 hc with rfl | hc
      · have := rdP_ok s h
        split
        · omega
        · omega
      · exact chL_ok m _ c hc
theorem chP_ok (s : List UInt8) : okCh (chP s) := chL_ok _ s
theorem chP_len (s : List UInt8) : (chP s).length ≤ s.length := chL_len _ s
theorem flat_congr {α β : Type} {f g : α → List β} : ∀ (l : List α), (∀ a ∈ l, f a = g a) → l.flatMap f = l.flatMap g
  | [], _ => rfl
  | a :: l, h => by rw [List.flatMap_cons, List.flatMap_cons, h a (by simp), flat_congr l (fun b hb => h b (by simp [hb]))]
theorem repB_rp (s : List UInt8) : repB s = rpP s := by
  unfold repB rpP
  rw [repF_ch]
  refine flat_congr _ (fun c hc => ?_)
  have := chP_ok s c hc
  exact (encX_good (by omega) (by omega) (by omega)).1.symm
theorem rpP_len (s : List UInt8) : (rpP s).length ≤ 4 * s.length := by
  have := flat_len encX 4 encX_len (chP s)
  have := chP_len s
  unfold rpP
  omega
theorem rr_ok (s : List UInt8) (hs : s.length ≤ 1099511627776) : CallOK Tryz.prog 9 [.str s] [] (.ret (.str (rpP s)) []) := by
  have hd : ∀ l : List Int, decL (fun (r : List AVal) => intOf (r.getD 0 AVal.undef)) (AVal.list false l.length fun (i : Nat) => ichRow (l.getD i 0)) = l := fun l => decL_encL (fun a => rfl) l
  have hlen := chP_len s
  have key := fun k => rr_fun chP encX encXE rrR s k
  simp only [hd, dT hs, cond_true] at key
  replace key := fun k => (key k).trans ((congrArg (fun c => cond c _ none) (tst_true ⟨⟨rfl, by omega, chP_ok s⟩, .refl _, by trivial⟩)).trans (cond_true _ _))
  cases hb : chP s == [] with
  | true =>
    have h0 : chP s = [] := by simpa using hb
    refine layRr_ok.callF (G := []) rfl (fun k => (key k).trans ?_)
    rw [hb, cond_true]
    show _ = k (.ret (.str ((chP s).flatMap encX)) [])
    rw [h0]; rfl
  | false =>
    refine layRr_ok.callF (G := [.arr 1 ((rpP s).map byteRow) ((chP s).length - 1)]) rfl (fun k => (key k).trans ?_)
    rw [hb, cond_false]
    exact fin_bytes (rpP s) ((chP s).length - 1) _ k
theorem rrTold_ok : ∀ xs H k out, ursTold rpP xs H k = some out → ∃ o, CallOK Tryz.prog 9 xs H o ∧ k o = some out := mkFS_ok fun ys xs e h => by
  obtain ⟨s, rfl⟩ : ∃ s, xs = [.str s] := ⟨_, e⟩
  rw [decide_eq_true_eq] at h
  have h : s.length ≤ 1073741824 := h
  exact ⟨_, fun k => rfl, rr_ok s (by omega)⟩
/- Escape -/
def escC (c : UInt8) : List UInt8 := bif c == 38 then [38,97,109,112,59] else bif c == 60 then [38,108,116,59] else bif c == 62 then [38,103,116,59] else bif c == 34 then [38,35,51,52,59] else bif c == 39 then [38,35,51,57,59] else bif c == 43 then [38,35,52,51,59] else [c]
theorem escC_len (c : UInt8) : (escC c).length ≤ 5 := by
  unfold escC
  cases c == 38 <;> cases c == 60 <;> cases c == 62 <;> cases c == 34 <;> cases c == 39 <;> cases c == 43 <;> simp
def escT (t : List UInt8) : List UInt8 := t.flatMap escC
def escP (s : List UInt8) : List UInt8 := escT (rpP s)
end Go.Mu
set_option linter.unusedVariables false
set_option linter.unusedSimpArgs false
set_option maxRecDepth 100000
namespace Go.Mu
open Go Go.Proofs
def reR : ReR := fun t => (escT t, t.length - 1)
noncomputable abbrev reTurn := lturn Tryz.prog (layRe0 rpP) (reFH reR) 23 4 [3,4,5] [] [4] []
theorem reSp_ok : SpOK reTurn 49 [3,4,5] [] [4] [] (reSp reR) := mkL_ok fun a h => by
  obtain ⟨l, i⟩ := a
  obtain ⟨h1, h2⟩ := h
  simp only at h1 h2
  subst h1
  have hl := fun i => flat_len_take escC 5 escC_len l i
  have key := app_runs (turn := reTurn) (n := 49) (l := [3,4,5]) (m := []) (lx := [4]) (mx := []) (sz := 1) (fun a i => [.str l, a, .int .i64 (i : Nat)]) (fun a => [a]) (fun i => ((l.take i).flatMap escC).map byteRow) l.length (e := .exit 0) (by simp)
    (fun h D k => by
      refine (re_s0 reR rpP l ((0 : Nat) : Int) D k).trans ?_
      have e1 : IntKind.i64.wrap (((0 : Nat) : Int) + 1) = ((1 : Nat) : Int) := wrap_add1 (by omega)
      have q38 : (((l.getD 0 0).toNat : Int) == 38) = (l.getD 0 0 == 38) := eqc (by decide)
      have q60 : (((l.getD 0 0).toNat : Int) == 60) = (l.getD 0 0 == 60) := eqc (by decide)
      have q62 : (((l.getD 0 0).toNat : Int) == 62) = (l.getD 0 0 == 62) := eqc (by decide)
      have q34 : (((l.getD 0 0).toNat : Int) == 34) = (l.getD 0 0 == 34) := eqc (by decide)
      have q39 : (((l.getD 0 0).toNat : Int) == 39) = (l.getD 0 0 == 39) := eqc (by decide)
      have q43 : (((l.getD 0 0).toNat : Int) == 43) = (l.getD 0 0 == 43) := eqc (by decide)
      simp only [Int.toNat_natCast, e1, q38, q60, q62, q34, q39, q43, take_flat l 0 escC 0 h, List.take_zero, List.flatMap_nil, List.nil_append, dT (show ((0 : Nat) : Int) < l.length by omega), dT (show (0 : Int) ≤ ((0 : Nat) : Int) by omega), Bool.and_self, cond_true]
      generalize l.getD 0 0 = c
      unfold escC
      cases c == 38 <;> cases c == 60 <;> cases c == 62 <;> cases c == 34 <;> cases c == 39 <;> cases c == 43 <;> rfl)
    (fun i h D k => by
      refine (re_s1 reR rpP l ((i + 1 : Nat) : Int) _ i _ D k).trans ?_
      have e1 : IntKind.i64.wrap (((i + 1 : Nat) : Int) + 1) = ((i + 2 : Nat) : Int) := wrap_add1 (by omega)
      have hi := hl (i + 1)
      have q38 : (((l.getD (i + 1) 0).toNat : Int) == 38) = (l.getD (i + 1) 0 == 38) := eqc (by decide)
      have q60 : (((l.getD (i + 1) 0).toNat : Int) == 60) = (l.getD (i + 1) 0 == 60) := eqc (by decide)
      have q62 : (((l.getD (i + 1) 0).toNat : Int) == 62) = (l.getD (i + 1) 0 == 62) := eqc (by decide)
      have q34 : (((l.getD (i + 1) 0).toNat : Int) == 34) = (l.getD (i + 1) 0 == 34) := eqc (by decide)
      have q39 : (((l.getD (i + 1) 0).toNat : Int) == 39) = (l.getD (i + 1) 0 == 39) := eqc (by decide)
      have q43 : (((l.getD (i + 1) 0).toNat : Int) == 43) = (l.getD (i + 1) 0 == 43) := eqc (by decide)
      simp only [Int.toNat_natCast, e1, q38, q60, q62, q34, q39, q43, take_flat l 0 escC (i + 1) h, List.map_append, List.length_append, List.length_map, List.append_eq, beq_self_eq_true, dT (show ((i + 1 : Nat) : Int) < l.length by omega), dT (show (0 : Int) ≤ ((i + 1 : Nat) : Int) by omega), dT (show (2 * (((l.take (i + 1)).flatMap escC).length + 5) + 1000) * 1 ≤ 281474976710656 by omega), dT (show (2 * (((l.take (i + 1)).flatMap escC).length + 4) + 1000) * 1 ≤ 281474976710656 by omega), dT (show (2 * (((l.take (i + 1)).flatMap escC).length + 1) + 1000) * 1 ≤ 281474976710656 by omega), Bool.and_self, cond_true]
      generalize l.getD (i + 1) 0 = c
      unfold escC
      cases c == 38 <;> cases c == 60 <;> cases c == 62 <;> cases c == 34 <;> cases c == 39 <;> cases c == 43 <;> rfl)
    (fun h D k => by
      refine (re_s0 reR rpP l ((0 : Nat) : Int) D k).trans ?_
      rw [h]
      rfl)
    (fun i h D k => by
      refine (re_s1 reR rpP l ((i + 1 : Nat) : Int) _ i _ D k).trans ?_
      simp only [dF (show ¬ ((i + 1 : Nat) : Int) < l.length by omega), cond_false])
  rw [List.take_of_length_le (Nat.le_refl _)] at key
  show ∃ e vs bs H', (∀ k : AExit → List AVal → List (List AVal) → Heap → Ans, cond (l == []) _ _ = k e vs bs H') ∧ _
  cases l with
  | nil => exact ⟨_, _, _, _, fun k => rfl, key⟩
  | cons c l =>
    refine ⟨_, _, _, _, fun k => rfl, ?_⟩
    rw [if_neg (by simp), if_neg (by simp), List.length_map] at key
    exact key
theorem layRe0_ok : (layRe0 rpP).OK Tryz.prog := Lay.nil_ok.addF rrTold_ok
theorem layRe_ok : (layRe rpP reR).OK Tryz.prog := layRe0_ok.loop1 (id := 4) (by kernel_rfl) (by kernel_rfl) (by kernel_rfl) reSp_ok
theorem re_ok (s : List UInt8) (hs : s.length ≤ 1073741824) : CallOK Tryz.prog 23 [.str s] [] (.ret (.str (escP s)) []) := by
  have hlen := rpP_len s
  have key := fun k => re_fun rpP reR s k
  simp only [dT hs, cond_true] at key
  replace key := fun k => (key k).trans ((congrArg (fun c => cond c _ none) (tst_true ⟨⟨rfl, by show (rpP s).length ≤ _; omega⟩, .refl _, by trivial⟩)).trans (cond_true _ _))
  cases hb : rpP s == [] with
  | true =>
    have h0 : rpP s = [] := by simpa using hb
    refine layRe_ok.callF (G := []) rfl (fun k => (key k).trans ?_)
    rw [hb, cond_true]
    show _ = k (.ret (.str (escT (rpP s))) [])
    rw [h0]; rfl
  | false =>
    refine layRe_ok.callF (G := [.arr 1 ((escP s).map byteRow) ((rpP s).length - 1)]) rfl (fun k => (key k).trans ?_)
    rw [hb, cond_false]
    exact fin_bytes (escP s) ((rpP s).length - 1) _ k
end Go.Mu
set_option linter.unusedVariables false
set_option linter.unusedSimpArgs false
set_option maxRecDepth 100000
namespace Go.Proofs
open Go.RowKit Go.Maps Go.Shelf
attribute [local go_sem] Oper.semAt_some
end Go.Proofs
set_option linter.unusedVariables false
set_option linter.unusedSimpArgs false
set_option maxRecDepth 100000
namespace Go.Mu
open Go Go.Proofs
end Go.Mu
set_option linter.unusedVariables false
set_option linter.unusedSimpArgs false
namespace Go.Mu
open Go Go.Proofs
def Bld.adds (x : Bld) (ls : List (List UInt8)) : Bld := ls.foldl (fun y l => y.add 0 2 l) x
theorem Bld.adds_can : ∀ (ls : List (List UInt8)) {x : Bld}, x.can 0 2 → (x.adds ls).can 0 2
  | [], x, h => h
  | l :: ls, x, h => Bld.adds_can ls (x := x.add 0 2 l) (Bld.add_can h l)
theorem Bld.adds_t : ∀ (ls : List (List UInt8)) (x : Bld), (x.adds ls).t = x.t ++ ls.flatten
  | [], x => by show x.t = _; simp
  | l :: ls, x => by
    show ((x.add 0 2 l).adds ls).t = _
    rw [Bld.adds_t ls, Bld.add_t, List.flatten_cons, List.append_assoc]
end Go.Mu
set_option linter.unusedVariables false
set_option linter.unusedSimpArgs false
set_option maxRecDepth 100000
namespace Go.Mu
open Go Go.Proofs
end Go.Mu
set_option linter.unusedVariables false
set_option linter.unusedSimpArgs false
set_option maxRecDepth 100000
namespace Go.Mu
open Go Go.Proofs
theorem range_flat {β : Type} (f : Nat → List β) (i : Nat) : (List.range (i + 1)).flatMap f = (List.range i).flatMap f ++ f i := by
  rw [List.range_succ, List.flatMap_append]
  simp
end Go.Mu
set_option linter.unusedVariables false
set_option linter.unusedSimpArgs false
set_option maxRecDepth 100000
namespace Go.Mu
open Go Go.Proofs Go.RowKit Go.Shelf
end Go.Mu
set_option linter.unusedVariables false
set_option linter.unusedSimpArgs false
set_option maxRecDepth 100000
namespace Go.Mu
open Go Go.Proofs
end Go.Mu
set_option linter.unusedVariables false
set_option linter.unusedSimpArgs false
set_option maxRecDepth 100000
namespace Go.Mu
open Go Go.Proofs

end Go.Mu
set_option linter.unusedVariables false
set_option linter.unusedSimpArgs false
set_option maxRecDepth 100000
namespace Go.Mu
open Go Go.Proofs

structure ArgD where
  kind : Int
  name : List UInt8
  pf : Bool
  path : List (List UInt8)
  int : Int
  text : List UInt8
instance : Inhabited ArgD := ⟨⟨0, [], true, [], 0, []⟩⟩
end Go.Mu
set_option linter.unusedVariables false
set_option linter.unusedSimpArgs false
set_option maxRecDepth 100000
namespace Go.Mu
open Go Go.Proofs
structure VaD where
  kind : Int
  int : Int
  text : List UInt8
  lf : Bool
  ln : Nat
  lr : Nat → List AVal
  kf : Bool
  keys : List (List UInt8)
end Go.Mu
set_option linter.unusedVariables false
set_option linter.unusedSimpArgs false
set_option maxRecDepth 100000
namespace Go.Mu
open Go Go.Proofs
end Go.Mu
set_option linter.unusedVariables false
set_option linter.unusedSimpArgs false
set_option maxRecDepth 100000
namespace Go.Mu
open Go Go.Proofs
end Go.Mu
set_option linter.unusedVariables false
set_option linter.unusedSimpArgs false
set_option maxRecDepth 100000
namespace Go.Mu
open Go Go.Proofs
end Go.Mu
set_option linter.unusedVariables false
set_option linter.unusedSimpArgs false
set_option maxRecDepth 100000
namespace Go.Mu
open Go Go.Proofs
structure b1H where
  P0 : Obj
  x : Bld
end Go.Mu
set_option linter.unusedVariables false
set_option linter.unusedSimpArgs false
set_option maxRecDepth 100000
namespace Go.Mu
open Go Go.Proofs
structure PrA where
  n : Int
  at_ : Nat
  u : Nat
  t : List UInt8
end Go.Mu
set_option linter.unusedVariables false
set_option linter.unusedSimpArgs false
set_option maxRecDepth 100000
namespace Go.Mu
open Go Go.Proofs
end Go.Mu
set_option linter.unusedVariables false
set_option linter.unusedSimpArgs false
set_option maxRecDepth 100000
namespace Go.Mu
open Go Go.Proofs
end Go.Mu
set_option linter.unusedVariables false
set_option linter.unusedSimpArgs false
set_option maxRecDepth 100000
namespace Go.Mu
open Go Go.Proofs
end Go.Mu
set_option linter.unusedVariables false
set_option linter.unusedSimpArgs false
set_option maxRecDepth 100000
namespace Go.Mu
open Go Go.Proofs
end Go.Mu
set_option linter.unusedVariables false
set_option linter.unusedSimpArgs false
set_option maxRecDepth 100000
namespace Go.Mu
open Go Go.Proofs
end Go.Mu
set_option linter.unusedVariables false
set_option linter.unusedSimpArgs false
set_option maxRecDepth 100000
namespace Go.Mu
open Go Go.Proofs
end Go.Mu
set_option linter.unusedVariables false
set_option linter.unusedSimpArgs false
set_option maxRecDepth 100000
namespace Go.Mu
open Go Go.Proofs
/- octets that stand for themselves -/
def ascB (c : UInt8) : Bool := decide (1 ≤ c.toNat) && decide (c.toNat < 128) && c != 60
abbrev ascL (t : List UInt8) : Prop := ∀ c ∈ t, ascB c = true
theorem ascL_flat {α : Type} {f : α → List UInt8} {l : List α} (h : ∀ a ∈ l, ascL (f a)) : ascL (l.flatMap f) := fun c hc => by
  obtain ⟨a, ha, hc⟩ := List.mem_flatMap.1 hc
  exact h a ha c hc
theorem ascL_of {t : List UInt8} (h : t.all ascB = true) : ascL t := fun c hc => List.all_eq_true.1 h c hc
theorem rp_asc {t : List UInt8} (h : ascL t) : rpP t = t := by
  rw [← repB_rp]
  unfold repB
  refine repF_ascii t t.length (Nat.le_refl _) (fun c hc => ?_)
  have := h c hc
  unfold ascB at this
  simp only [Bool.and_eq_true, decide_eq_true_eq] at this
  exact this.1
end Go.Mu
