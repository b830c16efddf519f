/-
  Mu: at a round's end the heap's last array may become plain data.
-/
import Derived.Test.YtlbmedmddoljnaaDoorMuShrink
set_option linter.unusedVariables false
set_option linter.unusedSimpArgs false
namespace Go.Mu
open Go
variable {P : Program} {w w' : World} {E E' : Env} {H H' G : Heap} {β : Nat → Option Nat} {a : Act}
/-- the array k, with these rows and this version, as plain data -/
def fzV (k : Nat) (rows : List (List AVal)) (u : Nat) : Nat → AVal → AVal
  | 0, _ => .undef
  | d + 1, v => match v with
    | .own k' off len ver clip => if k' = k then (if ver = u ∧ off + len ≤ rows.length then .list false len (fun i => rows.getD (off + i) []) else .undef) else .own k' off len ver clip
    | .ptr (.hp k') o => if k' = k then .undef else .ptr (.hp k') o
    | .eptr k' v i o => if k' = k then .undef else .eptr k' v i o
    | .func f cs => .func f (cs.map (fzV k rows u d))
    | .iface t x => .iface t (fzV k rows u d x)
    | .agg cs => .agg (cs.map (fzV k rows u d))
    | .tuple cs => .tuple (cs.map (fzV k rows u d))
    | v => v
def fzO (k : Nat) (rows : List (List AVal)) (u : Nat) : Obj → Obj
  | .var cs => .var (cs.map (fzV k rows u 6))
  | .arr sz rs v => .arr sz (rs.map (fun r => r.map (fzV k rows u 6))) v
  | .note t n => .note t n
def fzE (k : Nat) (E : Env) : Env := { imm := fun b => E.imm b ∨ (E.cap k ≠ 0 ∧ b = E.φ k), φ := E.φ, cap := E.cap }
theorem getD_map_fz {f : AVal → AVal} {cs : List AVal} {j : Nat} (h : j < cs.length) : (cs.map f).getD j .undef = f (cs.getD j .undef) := by
  simp [List.getD_eq_getElem?_getD, List.getElem?_eq_getElem h]
theorem isVar_fz {k : Nat} {rows : List (List AVal)} {u l : Nat} : isVar (H.map (fzO k rows u)) l = isVar H l := by
  unfold isVar
  rw [List.getElem?_map]
  cases H[l]? with
  | none => rfl
  | some x => cases x <;> rfl
theorem arrInfo_fz {k : Nat} {rows : List (List AVal)} {u l : Nat} : arrInfo (H.map (fzO k rows u)) l = arrInfo H l := by
  unfold arrInfo
  rw [List.getElem?_map]
  cases H[l]? with
  | none => rfl
  | some x => cases x <;> rfl
theorem fz_list {sz u off len : Nat} {rows : List (List AVal)} {clip : Bool} {c : Value} (hs : Sim w E (H ++ [.arr sz rows u])) (hall : rows.all (fun r => r.all isPure) = true) (hle : off + len ≤ rows.length) (r : Rep w E (H ++ [.arr sz rows u]) (.own H.length off len u clip) c) :
    RepP w (fzE H.length E).imm (.list false len (fun i => rows.getD (off + i) [])) c := by
  have hk : (H ++ [Obj.arr sz rows u])[H.length]? = some (.arr sz rows u) := by simp
  obtain ⟨ao, cap, sz', u', rfl, g1, g2, g3⟩ := rep_own r
  rw [arr_of_get hk] at g1
  simp only [Option.some.injEq, Prod.mk.injEq] at g1
  obtain ⟨rfl, rfl⟩ := g1
  obtain ⟨s1, s2, s3, s4, s5⟩ := g3 rfl
  obtain ⟨k1, k2, k3, k4⟩ := hs.arr H.length sz rows u hk
  by_cases h0 : len = 0
  · subst h0; exact .list0 _ _ _ _ (fun h => by simp at h)
  · have hcap : E.cap H.length ≠ 0 := by omega
    obtain ⟨ds, ty, fr, b1, b2, b3, b4⟩ := k4 hcap
    rw [s5 hcap (.inl h0)]
    have cellq : ∀ m j, m < len → j < sz → ∃ c, ds[(off + m) * sz + j]? = some c ∧ c.oneCell' = true ∧ RepP w E.imm ((rows.getD (off + m) []).getD j .undef) c := fun m j hm hj => by
      have hlt : off + m < rows.length := by omega
      have hrl := k3 _ (List.getElem_mem hlt)
      have hrow : rows.getD (off + m) [] = rows[off + m] := by rw [List.getD_eq_getElem?_getD, List.getElem?_eq_getElem hlt]; rfl
      obtain ⟨c, c1, c2, c3⟩ := b4 ((off + m) * sz + j) (rows[off + m].getD j .undef) (by
        show Mu.cellAt sz rows ((off + m) * sz + j) = _
        unfold Mu.cellAt
        rw [show ((off + m) * sz + j) / sz = off + m by rw [Nat.mul_comm, Nat.mul_add_div k1, Nat.div_eq_of_lt hj, Nat.add_zero], show ((off + m) * sz + j) % sz = j by rw [Nat.mul_comm, Nat.mul_add_mod, Nat.mod_eq_of_lt hj],
          List.getElem?_eq_getElem hlt]
        exact getD_some _ (by omega))
      refine ⟨c, c1, c2, ?_⟩
      rw [hrow]
      exact isPure_rep (List.all_eq_true.1 (List.all_eq_true.1 hall _ (List.getElem_mem hlt)) _ (getD_mem (by omega))) c3
    refine .list false len _ (E.φ H.length) (off * sz) cap sz (fun i j => ds.getD ((off + i) * sz + j) undef) s1 (fun h => by simp at h) (.inr ⟨hcap, rfl⟩) (fun i hi => ?_) (fun i j hi hj => ?_) (fun i j hi hj => ?_)
    · have hlt : off + i < rows.length := by omega
      rw [List.getD_eq_getElem?_getD, List.getElem?_eq_getElem hlt]
      exact k3 _ (List.getElem_mem hlt)
    · obtain ⟨c, c1, c2, c3⟩ := cellq i j hi hj
      rw [cell?_block b1, ← Nat.add_mul, c1]
      simp [c1, c2]
    · obtain ⟨c, c1, c2, c3⟩ := cellq i j hi hj
      simp only [Array.getD_eq_getD_getElem?, c1, Option.getD_some]
      exact c3.imm (fun b hb => .inl hb)
/-- what the array's own slices read as -/
def HOwn (w : World) (E : Env) (H : Heap) (X : Obj) (rows : List (List AVal)) (u : Nat) : Prop := ∀ off len clip c, off + len ≤ rows.length → Rep w E (H ++ [X]) (.own H.length off len u clip) c → RepP w (fzE H.length E).imm (.list false len (fun i => rows.getD (off + i) [])) c
theorem hown_melt {sz u : Nat} {rows : List (List AVal)} (hs : Sim w E (H ++ [.arr sz rows u])) (hall : rows.all (fun r => r.all isPure) = true) : HOwn w E H (.arr sz rows u) rows u := fun off len clip c hle r => fz_list hs hall hle r
theorem hown_drop {sz u : Nat} {rows : List (List AVal)} : HOwn w E H (.arr sz rows u) [] (u + 1) := fun off len clip c hle r => by
  obtain ⟨ao, cap, sz', u', rfl, g1, g2, g3⟩ := rep_own r
  have : arrInfo (H ++ [Obj.arr sz rows u]) H.length = some (sz, u) := by simp [arrInfo]
  rw [this] at g1
  simp only [Option.some.injEq, Prod.mk.injEq] at g1
  omega
theorem fz_rep {X : Obj} {u : Nat} {rows : List (List AVal)} (hown : HOwn w E H X rows u) : ∀ (d : Nat) (v : AVal) (c : Value), Rep w E (H ++ [X]) v c → Rep w (fzE H.length E) H (fzV H.length rows u d v) c := by
  intro d
  induction d with
  | zero => intro v c h; exact .undef _
  | succ d ih =>
    intro v c h
    have base : (∀ {w : World} {E : Env} {H : Heap}, Rep w E H v c → RepP w E.imm v c) → Rep w (fzE H.length E) H v c := fun hp => .pure _ _ ((hp h).imm (fun b hb => .inl hb))
    cases v <;> simp only [fzV]
    case own k off len ver clip =>
      split
      · rename_i hk
        subst hk
        split
        · rename_i hc
          obtain ⟨rfl, hle⟩ := hc
          exact .pure _ _ (hown off len clip c hle h)
        · exact .undef _
      · rename_i hk
        obtain ⟨ao, cap, sz', u', rfl, g1, g2, g3⟩ := rep_own h
        have hlt : k < H.length := by
          have := arrInfo_lt g1
          simp only [List.length_append, List.length_singleton] at this
          omega
        rw [arrInfo_app hlt] at g1
        exact .own k off len ver clip ao cap sz' u' g1 g2 g3
    case ptr o off =>
      cases o with
      | tmp t => cases h with | pure _ _ h => cases h
      | hp k =>
        simp only
        split
        · exact .undef _
        · rename_i hk
          obtain ⟨rfl, hv⟩ := rep_ptrH h
          have hlt : k < H.length := by
            have := isVar_lt hv
            simp only [List.length_append, List.length_singleton] at this
            omega
          rw [isVar_app hlt] at hv
          exact .ptrH k off hv
    case eptr k ver i off =>
      split
      · exact .undef _
      · rename_i hk
        obtain ⟨p, sz', u', rfl, g1, g2, g3⟩ := rep_eptr h
        have hlt : k < H.length := by
          have := arrInfo_lt g1
          simp only [List.length_append, List.length_singleton] at this
          omega
        rw [arrInfo_app hlt] at g1
        exact .eptr k ver i off p sz' u' g1 g2 g3
    case func f cs =>
      obtain ⟨ds, rfl, hl, hr⟩ := rep_func h
      exact .func f _ ds (by simpa using hl) (fun j hj => by
        have hj' : j < cs.length := by simpa using hj
        rw [getD_map_fz hj']; exact ih _ _ (hr j hj'))
    case agg cs =>
      obtain ⟨ds, rfl, hl, hr⟩ := rep_agg h
      exact .agg _ ds (by simpa using hl) (fun j hj => (hr j (by simpa using hj)).1) (fun j hj => by
        have hj' : j < cs.length := by simpa using hj
        rw [getD_map_fz hj']; exact ih _ _ (hr j hj').2)
    case tuple cs =>
      obtain ⟨ds, rfl, hl, hr⟩ := rep_tuple h
      exact .tuple _ ds (by simpa using hl) (fun j hj => by
        have hj' : j < cs.length := by simpa using hj
        rw [getD_map_fz hj']; exact ih _ _ (hr j hj'))
    case iface t x =>
      obtain ⟨dd, rfl, hr⟩ := rep_iface h
      exact .iface t _ dd (ih _ _ hr)
    all_goals exact base (fun h => by cases h with | pure _ _ h => exact h)

section
variable {sz u u0 : Nat} {rows rows0 : List (List AVal)}
theorem fz_sees : Sees w (fzE H.length E) H w (fzE H.length E) (H.map (fzO H.length rows u)) := by
  refine ⟨fun b hb => ⟨hb, rfl⟩, fun k hk => ⟨by rw [isVar_fz]; exact hk, rfl⟩, fun k sz u hk => ⟨u, by rw [arrInfo_fz]; exact hk, Nat.le_refl _, fun _ => ⟨rfl, fun _ => rfl⟩⟩⟩
theorem fz_block {b n : Nat} {cells cells' : Nat → Option AVal} (hown : HOwn w E H (.arr sz rows0 u0) rows u) (hc : ∀ j v, cells' j = some v → ∃ x, cells j = some x ∧ v = fzV H.length rows u 6 x)
    (r : Mu.BlockRep w E (H ++ [.arr sz rows0 u0]) b n cells) : Mu.BlockRep w (fzE H.length E) (H.map (fzO H.length rows u)) b n cells' := by
  obtain ⟨ds, ty, fr, h1, h2, h3, h4⟩ := r
  refine ⟨ds, ty, fr, h1, h2, h3, fun j v hv => ?_⟩
  obtain ⟨x, hx, rfl⟩ := hc j v hv
  obtain ⟨c, g1, g2, g3⟩ := h4 j x hx
  exact ⟨c, g1, g2, (fz_rep hown 6 x c g3).mono fz_sees⟩
theorem fz_live {k : Nat} (h : live (fzE H.length E) (H.map (fzO H.length rows u)) k) : live E (H ++ G) k := by
  have hk := live_lt h
  rw [List.length_map] at hk
  unfold live at h ⊢
  rw [isVar_fz, arrInfo_fz] at h
  rw [isVar_app hk, arrInfo_app hk]
  exact h
theorem fz_imm {k : Nat} (hs : Sim w E (H ++ [.arr sz rows0 u0])) (hk : live (fzE H.length E) (H.map (fzO H.length rows u)) k) : ¬ (fzE H.length E).imm (E.φ k) := by
  have hlt := live_lt hk
  rw [List.length_map] at hlt
  have hlv : live E (H ++ [.arr sz rows0 u0]) k := fz_live hk
  rintro (h | ⟨h1, h2⟩)
  · exact (hs.apart k hlv).1 h
  · have hl2 : live E (H ++ [.arr sz rows0 u0]) H.length := .inr ⟨⟨sz, u0, by simp [arrInfo]⟩, h1⟩
    have := hs.inj k H.length hlv hl2 h2
    omega
theorem Sim.melt (hs : Sim w E (H ++ [.arr sz rows0 u0])) (hown : HOwn w E H (.arr sz rows0 u0) rows u) : Sim w (fzE H.length E) (H.map (fzO H.length rows u)) := by
  have get : ∀ {k : Nat} {x : Obj}, (H.map (fzO H.length rows u))[k]? = some x → ∃ y, (H ++ [Obj.arr sz rows0 u0])[k]? = some y ∧ x = fzO H.length rows u y := fun {k x} h => by
    rw [List.getElem?_map, Option.map_eq_some_iff] at h
    obtain ⟨y, hy, rfl⟩ := h
    exact ⟨y, by rw [List.getElem?_append_left (List.getElem?_eq_some_iff.1 hy).1, hy], rfl⟩
  refine ⟨fun b hb => ?_, fun k cs h => ?_, fun k sz' rs v h => ?_, fun k h => ⟨fz_imm hs h, (hs.apart k (fz_live h)).2⟩, fun k l h g e => hs.inj k l (fz_live h) (fz_live g) e, fun j t n hj hl => ?_, hs.glob.mono (fun b hb => ⟨.inl hb, rfl⟩)⟩
  rotate_left 3
  · obtain ⟨y, hy, e⟩ := get hj
    cases y with
    | arr _ _ _ => cases e
    | var _ => cases e
    | note t' n' =>
      simp only [fzO, Obj.note.injEq] at e
      obtain ⟨rfl, rfl⟩ := e
      exact hs.note j _ _ hy (fz_live hl)
  · rcases hb with hb | ⟨h1, rfl⟩
    · exact hs.immLt b hb
    · exact (hs.apart H.length (.inr ⟨⟨sz, u0, by simp [arrInfo]⟩, h1⟩)).2
  · obtain ⟨y, hy, e⟩ := get h
    cases y with
    | arr _ _ _ => cases e
    | note _ _ => cases e
    | var cs0 =>
      simp only [fzO, Obj.var.injEq] at e
      subst e
      rw [List.length_map]
      refine fz_block hown (fun j v hv => ?_) (hs.var k cs0 hy)
      rw [List.getElem?_map, Option.map_eq_some_iff] at hv
      obtain ⟨x, hx, rfl⟩ := hv
      exact ⟨x, hx, rfl⟩
  · obtain ⟨y, hy, e⟩ := get h
    cases y with
    | var _ => cases e
    | note _ _ => cases e
    | arr sz0 rs1 v0 =>
      simp only [fzO, Obj.arr.injEq] at e
      obtain ⟨rfl, rfl, rfl⟩ := e
      obtain ⟨h1, h2, h3, h4⟩ := hs.arr k _ rs1 _ hy
      refine ⟨h1, by simpa [fzE] using h2, fun r hr => ?_, fun hc => fz_block hown (fun j x hx => ?_) (h4 hc)⟩
      · obtain ⟨r0, hr0, rfl⟩ := List.mem_map.1 hr
        rw [List.length_map]; exact h3 r0 hr0
      · unfold Mu.cellAt at hx ⊢
        rw [List.getElem?_map] at hx
        cases hq : rs1[j / sz']? with
        | none => rw [hq] at hx; simp at hx
        | some r0 =>
          rw [hq] at hx
          simp only [Option.map_some, Option.bind_some, List.getElem?_map, Option.map_eq_some_iff] at hx ⊢
          obtain ⟨z, hz, rfl⟩ := hx
          exact ⟨z, hz, rfl⟩
theorem Evo.melt {X : Nat → Prop} {w0 : World} {E0 : Env} {H0 : Heap} (hl : H0.length ≤ H.length) (ev : Evo X w0 E0 H0 w E (H ++ [.arr sz rows0 u0])) : Evo X w0 E0 H0 w (fzE H.length E) (H.map (fzO H.length rows u)) := by
  refine ⟨ev.size, ev.kept, fun b hb => ⟨.inl (ev.immKept b hb).1, (ev.immKept b hb).2⟩, fun b hb => ?_, fun k hk => ?_, fun k sz' u' hk => ?_, fun k hk => ev.phi k (fz_live hk), by simpa using hl, ev.tape, ev.os, ev.output⟩
  · rcases hb with hb | ⟨h1, rfl⟩
    · exact ev.immNew b hb
    · rcases ev.phi H.length (.inr ⟨⟨sz, u0, by simp [arrInfo]⟩, h1⟩) with g | ⟨g, _⟩
      · exact .inr g
      · have := live_lt g; omega
  · have hlt := isVar_lt hk
    have := ev.var k hk
    rw [isVar_app (by omega)] at this
    exact ⟨by rw [isVar_fz]; exact this.1, this.2⟩
  · have hlt := arrInfo_lt hk
    have := ev.arr k sz' u' hk
    rw [arrInfo_app (by omega)] at this
    rw [arrInfo_fz]
    exact this
def meltSt (k : Nat) (rows : List (List AVal)) (u : Nat) (H1 : Heap) (st : St) : St := { T := st.T.map (fzV k rows u 6), B := st.B.map (fun b => b.map (fzV k rows u 6)), H := H1.map (fzO k rows u), D := [] }
theorem fzV_undef (k : Nat) : fzV k rows u 6 .undef = .undef := rfl
theorem CI.melt {st : St} (hH : st.H = H ++ [.arr sz rows0 u0]) (hown : Sim w E (H ++ [.arr sz rows0 u0]) → HOwn w E H (.arr sz rows0 u0) rows u) (hD : st.D = []) (ci : CI w a E β st) : CI w a (fzE H.length E) β (meltSt H.length rows u H st) := by
  have fs := ci.fs
  have hs : Sim w E (H ++ [.arr sz rows0 u0]) := by have := fs.sim; rwa [show (toRS st).H = _ from hH] at this
  have hown := hown hs
  refine ⟨⟨hs.melt hown, ?_, ?_, by simp [toRS], fun t ht => ?_, fun t b hb => ?_, fs.binj⟩, fun t ht => ?_, fun t d q g ht => ?_, ?_⟩
  · rw [fs.tsize]; simp [toRS, meltSt]
  · have := fs.bsize
    simpa [toRS, meltSt] using this
  · have hv := fs.vals t (valid_none _ _)
    rw [show (toRS st).H = _ from hH] at hv
    show RepT w (fzE H.length E) (H.map (fzO H.length rows u)) β ((st.T.map (fzV H.length rows u 6)).getD t .undef) _
    rcases Nat.lt_or_ge t st.T.length with g | g
    · rw [getD_map_fz g]
      have e : (toRS st).T.getD t .undef = st.T.getD t .undef := rfl
      rw [e] at hv
      generalize st.T.getD t .undef = v at hv
      generalize a.tmps.getD t undef = c at hv
      cases hv with
      | box q off b hb => exact .box q off b hb
      | val _ _ r => exact .val _ _ ((fz_rep hown 6 v _ r).mono fz_sees)
    · rw [List.getD_eq_getElem?_getD, List.getElem?_eq_none (by simpa using g)]
      exact .undef _
  · obtain ⟨h1, h2, h3, h4⟩ := fs.box t b hb
    rw [show (toRS st).H = _ from hH] at h3 h4
    refine ⟨?_, h2, fun k hk => h3 k (fz_live hk), ?_⟩
    · rintro (g | ⟨g1, g2⟩)
      · exact h1 g
      · exact h3 H.length (.inr ⟨⟨sz, u0, by simp [arrInfo]⟩, g1⟩) g2.symm
    · show Mu.BlockRep w (fzE H.length E) (H.map (fzO H.length rows u)) b ((st.B.map (fun b => b.map (fzV H.length rows u 6))).getD t []).length (fun j => ((st.B.map (fun b => b.map (fzV H.length rows u 6))).getD t [])[j]?)
      have e : (st.B.map (fun b => b.map (fzV H.length rows u 6))).getD t [] = (st.B.getD t []).map (fzV H.length rows u 6) := by
        simp only [List.getD_eq_getElem?_getD, List.getElem?_map]
        cases st.B[t]? <;> rfl
      rw [e, List.length_map]
      refine fz_block hown (fun j v hv => ?_) h4
      rw [List.getElem?_map, Option.map_eq_some_iff] at hv
      obtain ⟨x, hx, rfl⟩ := hv
      exact ⟨x, hx, rfl⟩
  · have : valid (toRS (meltSt H.length rows u H st)).G t = true := valid_none _ _
    rw [this] at ht; cases ht
  · have : (toRS (meltSt H.length rows u H st)).G.getD t none = none := getD_map_none _ _
    rw [this] at ht; cases ht
  · have := ci.defs
    rw [show (toRS st).D = [] from hD] at this
    show DefRep w (fzE H.length E) (H.map (fzO H.length rows u)) [] a.defers
    generalize a.defers = ds at this
    cases this
    exact .nil
end
/-- the heap's last array melts -/
def melt (n0 : Nat) (st : St) (k : St → Ans) : Ans :=
  match st.H.getLast? with
  | some (.arr sz rows u) => cond (decide (n0 ≤ st.H.length - 1) && rows.all (fun r => r.all isPure) && st.D.isEmpty) (k (meltSt (st.H.length - 1) rows u st.H.dropLast st)) none
  | _ => none
/-- the heap's last arrays, that no one needs, are dropped; the one ahead of them melts -/
def tidy : Nat → Nat → St → (St → Ans) → Ans
  | 0, n0, st, k => melt n0 st k
  | g + 1, n0, st, k => match st.H.getLast? with
    | some (.arr sz rows u) => cond (decide (n0 ≤ st.H.length - 1) && st.D.isEmpty) (tidy g n0 (meltSt (st.H.length - 1) [] (u + 1) st.H.dropLast st) k) none
    | _ => none
theorem code_melt {c : Code} {st st' : St} {H1 : Heap} {sz u u0 : Nat} {rows rows0 : List (List AVal)} (h : CodeOK P c st .normal st') (hH : st'.H = H1 ++ [.arr sz rows0 u0]) (hown : ∀ w E, Sim w E (H1 ++ [.arr sz rows0 u0]) → HOwn w E H1 (.arr sz rows0 u0) rows u) (hl : st.H.length ≤ H1.length) (hD : st'.D = []) : CodeOK P c st .normal (meltSt H1.length rows u H1 st') := by
  intro w a E β ci
  refine wp_mono (h w a E β ci) (fun x a' w' hx => ?_)
  obtain ⟨E', β', g1, g2, g3, g4⟩ := hx
  rw [hH] at g3
  refine ⟨fzE H1.length E', β', ?_, g2.melt hH (hown _ _) hD, g3.melt hl, g4⟩
  cases x <;> first | trivial | exact g1
theorem last_split {H : Heap} {X : Obj} (h : H.getLast? = some X) : H = H.dropLast ++ [X] ∧ H.dropLast.length = H.length - 1 := by
  obtain ⟨ys, hy⟩ := List.getLast?_eq_some_iff.1 h
  refine ⟨?_, by simp⟩
  rw [hy]; simp
theorem melt_ok {c : Code} {st st' : St} {F : St → Ans} {out : Out} (h : CodeOK P c st .normal st') (hm : melt st.H.length st' F = some out) : ∃ st2, CodeOK P c st .normal st2 ∧ F st2 = some out := by
  unfold melt at hm
  split at hm
  case h_2 => simp at hm
  rename_i sz rows u hlast
  rw [Bool.cond_eq_ite] at hm
  split at hm
  case isFalse => simp at hm
  rename_i hc
  simp only [Bool.and_eq_true, decide_eq_true_eq, List.isEmpty_iff] at hc
  obtain ⟨⟨hl, hall⟩, hD⟩ := hc
  obtain ⟨hH, hlen⟩ := last_split hlast
  rw [← hlen] at hm hl
  exact ⟨_, code_melt h hH (fun w E hs => hown_melt hs hall) hl hD, hm⟩
theorem tidy_ok {c : Code} {st : St} {F : St → Ans} {out : Out} : ∀ (g : Nat) (st' : St), CodeOK P c st .normal st' → tidy g st.H.length st' F = some out → ∃ st2, CodeOK P c st .normal st2 ∧ F st2 = some out
  | 0, st', h, hm => melt_ok h hm
  | g + 1, st', h, hm => by
    unfold tidy at hm
    split at hm
    case h_2 => simp at hm
    rename_i sz rows u hlast
    rw [Bool.cond_eq_ite] at hm
    split at hm
    case isFalse => simp at hm
    rename_i hc
    simp only [Bool.and_eq_true, decide_eq_true_eq, List.isEmpty_iff] at hc
    obtain ⟨hl, hD⟩ := hc
    obtain ⟨hH, hlen⟩ := last_split hlast
    rw [← hlen] at hm hl
    exact tidy_ok g _ (code_melt h hH (fun w E _ => hown_drop) hl hD) hm
def roundM (g : Nat) (body : St → Kont → Ans) (fg fx : St → St) (st : St) (k : Kont) : Ans :=
  body st fun e st' => match e with
    | .normal => tidy g st.H.length (fg st') (k .normal)
    | e => k e (fx st')
theorem loop_runM {g : Nat} {h : Hd} {fh : FH} {st st' : St} {e : AExit} (hr : RegionsOK P h fh) {F : Nat} {c : Code} (hl : LOk P fh c) {l m lx mx : List Nat} {n : Nat} (hrun : ∀ k, rounds (roundM g (iCode P h fh F c) (fg2 l m) (fg2 lx mx)) n st k = k e st') : CodeOK P (.loop c) st e st' := by
  have hb : ∀ st k out, roundM g (iCode P h fh F c) (Mu.fg2 l m) (Mu.fg2 lx mx) st k = some out → ∃ e st', CodeOK P c st e st' ∧ k e st' = some out := by
    intro st k out hi
    obtain ⟨e, st', h1, h2⟩ := iCode_sound hr c hl _ _ _ hi
    cases e with
    | normal =>
      obtain ⟨st2, g1, g2⟩ := tidy_ok g _ (h1.fg2 (l := l) (m := m)) h2
      exact ⟨_, _, g1, g2⟩
    | exit id => exact ⟨_, _, h1.fg2, h2⟩
    | ret => exact ⟨_, _, h1.fg2, h2⟩
    | panic p => exact ⟨_, _, h1.fg2, h2⟩
  classical
  obtain ⟨e2, st2, q, h1, h2⟩ := iLoop_sound hb _ _ _ (.ret .undef []) ((hrun (fun e' s' => if e' = e ∧ s' = st' then some (.ret .undef []) else none)).trans (by simp))
  split at h2
  case isFalse => simp at h2
  rename_i hc
  obtain ⟨rfl, rfl⟩ := hc
  exact fun w a E β ci => wp_loop_rounds q (h1 w a E β ci)
def loopSpecM (n : Nat) (l m lx mx : List Nat) (sp : LSp) (st : St) (k : Kont) : Ans :=
  cond (st.T.length == n && st.B.length == n && st.D.isEmpty) (sp (l.map (fun t => st.T.getD t .undef)) (m.map (fun t => st.B.getD t [])) st.H (fun e vs bs H => k e (stL n lx vs mx bs H []))) none
def SpOKM (turn : St → Kont → Ans) (n : Nat) (l m lx mx : List Nat) (sp : LSp) : Prop := ∀ vs bs H k out, sp vs bs H k = some out → ∃ ws e vs' bs' H' ws', SubTL vs ws ∧ (∃ q, ∀ k, rounds turn q (stL n l ws m bs H []) k = k e (stL n lx vs' mx bs' H' [])) ∧ SubTL vs' ws' ∧ k e ws' bs' H' = some out
noncomputable abbrev lturnM (g : Nat) (P : Program) (L : Lay) (fh : FH) (f id : Nat) (l m lx mx : List Nat) : St → Kont → Ans := roundM g (iCode P (L.hd P) fh 0 (loopAt id (codeOf P f))) (fg2 l m) (fg2 lx mx)
theorem Lay.OK.toldM {g : Nat} {L : Lay} (h : L.OK P) {fh : FH} {f id n : Nat} {l m lx mx : List Nat} {sp : LSp} (hl : LOk P fh (loopAt id (codeOf P f))) (hs : SpOKM (lturnM g P L fh f id l m lx mx) n l m lx mx sp) : LoopTold P (loopAt id (codeOf P f)) (loopSpecM n l m lx mx sp) := by
  intro st k out hi
  unfold loopSpecM at hi
  rw [Bool.cond_eq_ite] at hi
  split at hi
  case isFalse => simp at hi
  rename_i hc
  simp only [Bool.and_eq_true, beq_iff_eq, List.isEmpty_iff] at hc
  obtain ⟨⟨hc1, hc2⟩, hD⟩ := hc
  obtain ⟨ws, e, vs', bs', H', ws', s1, ⟨q, h1⟩, s2, h2⟩ := hs _ _ _ _ _ hi
  refine ⟨e, _, ?_, h2⟩
  have key : CodeOK P (.loop (loopAt id (codeOf P f))) (stL n l ws m (m.map (fun t => st.B.getD t [])) st.H []) e (stL n lx vs' mx bs' H' []) := loop_runM (regions_ok h.hok _) hl h1
  intro w a E β ci
  have c1 := ci.fg2 (l := l) (m := m)
  rw [fg2_eq hc1 hc2, hD] at c1
  refine wp_mono (key w a E β (c1.stL s1)) (fun x a' w' hx => ?_)
  obtain ⟨E', β', g1, g2, g3, g4⟩ := hx
  exact ⟨E', β', g1, g2.stL s2, g3, g4⟩
end Go.Mu
