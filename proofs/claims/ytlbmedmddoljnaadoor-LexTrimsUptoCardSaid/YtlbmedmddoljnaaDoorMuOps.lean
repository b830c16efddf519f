/-
  Mu: each operation that is no call does in the model what the interpreter says.
-/
import Derived.Test.YtlbmedmddoljnaaDoorMuRep
set_option linter.unusedVariables false
set_option linter.unusedSimpArgs false
namespace Go.Mu
open Go

structure FS (w : World) (a : Act) (E : Env) (H : Heap) (β : Nat → Option Nat) (T : List AVal) (B : Boxes) (G : Tags) : Prop where
  sim : Sim w E H
  tsize : a.tmps.size = T.length
  bsize : B.length = T.length
  gsize : G.length = T.length
  vals : ∀ t, valid G t = true → RepT w E H β (T.getD t .undef) (a.tmps.getD t undef)
  box : ∀ t b, β t = some b → ¬ E.imm b ∧ b < w.heap.size ∧ (∀ k, live E H k → E.φ k ≠ b) ∧ BlockRep w E H b (B.getD t []).length (fun j => (B.getD t [])[j]?)
  binj : ∀ t u b, β t = some b → β u = some b → t = u

def Xβ (β : Nat → Option Nat) (x : Nat) : Prop := ∃ t, β t = some x

/-- what one operation comes to -/
structure OpOut (P : Program) (w : World) (a : Act) (E : Env) (H : Heap) (β : Nat → Option Nat) (T : List AVal) (G : Tags) (o : Oper) (v : AVal) (B' : Boxes) (H' : Heap)
    (c : Value) (w' : World) (E' : Env) (β' : Nat → Option Nat) : Prop where
  run : (execOp a.eval o).run P w = .ok (.value c) w' ∨ ((execOp a.eval o).run P w = .ok .skip w' ∧ c = undef)
  evo : Evo (Xβ β) w E H w' E' H'
  fs : FS w' a E' H' β' T B' G
  rep : RepT w' E' H' β' v c
  new : ∀ t b, β' t = some b → β t = some b ∨ w.heap.size ≤ b

variable {P : Program} {w : World} {a : Act} {E : Env} {H : Heap} {β : Nat → Option Nat} {T : List AVal} {B : Boxes} {G : Tags} {o : Oper}

theorem OpOut.pure (fs : FS w a E H β T B G) {v : AVal} {c : Value} (hr : (execOp a.eval o).run P w = .ok (.value c) w) (h : RepT w E H β v c) :
    ∃ c w' E' β', OpOut P w a E H β T G o v B H c w' E' β' :=
  ⟨c, w, E, β, .inl hr, .refl, fs, h, fun _ _ h => .inl h⟩

theorem ofConst_rep (c : Value) {imm : Nat → Prop} : RepP w imm (ofConst c) c := by
  unfold ofConst
  split
  · rename_i cs
    split
    · rename_i h
      have := RepP.agg (w := w) (imm := imm) (cs.toList.map ofCell) cs.toList (by simp)
        (fun j hj => by
          simp only [List.length_map] at hj
          simp only [List.all_eq_true] at h
          have := h (cs.toList[j]) (List.getElem_mem hj)
          simpa [List.getD, List.getElem?_eq_getElem hj] using this)
        (fun j hj => by
          simp only [List.length_map] at hj
          have := ofCell_rep (w := w) (imm := imm) (cs.toList[j])
          simpa [List.getD, List.getElem?_eq_getElem hj, hj] using this)
      simpa using this
    · exact .undef _
  · exact ofCell_rep _

theorem aeval_rep (fs : FS w a E H β T B G) (x : Operand) (h : ∀ t, x = .tmp t → valid G t = true) : RepT w E H β (aeval T x) (a.eval x) := by
  cases x with
  | tmp t => exact fs.vals t (h t rfl)
  | const v => exact .val _ _ (.pure _ _ (ofConst_rep v))
  | global g =>
    cases e : gvals g with
    | some cells =>
      have : aeval T (.global g) = .rptr cells := by simp only [aeval, e]
      rw [this]
      exact .val _ _ (.pure _ _ (fs.sim.glob.2 g cells e))
    | none =>
      have : aeval T (.global g) = .undef := by simp only [aeval, e]
      rw [this]
      exact .undef _
  | func f => exact .val _ _ (.pure _ _ (.func f))

def okTmps (G : Tags) (o : Oper) : Prop := ∀ t, t ∈ tmpsOf o.op.operands.toList → valid G t = true
theorem okTmps_rep (fs : FS w a E H β T B G) (hv : okTmps G o) {x : Operand} (hx : x ∈ o.op.operands.toList) : RepT w E H β (aeval T x) (a.eval x) :=
  aeval_rep fs x fun t e => hv t (List.mem_filterMap.2 ⟨x, hx, by rw [e]⟩)

/- memory -/
theorem addr_add (b off j : Nat) : (⟨b, off, none⟩ : Addr).add j = ⟨b, off + j, none⟩ := by unfold Addr.add; split <;> simp_all
theorem cell?_block {b : Nat} {ds : Array Value} {ty : TypeId} {fr : Nat × Nat} (h : w.heap[b]? = some (.cells ds ty fr)) (o : Nat) : w.cell? ⟨b, o, none⟩ = ds[o]? := by
  simp [World.cell?, h]
theorem frozen?_block {b : Nat} {ds : Array Value} {ty : TypeId} {fr : Nat × Nat} (h : w.heap[b]? = some (.cells ds ty fr)) (o : Nat) : w.frozen? ⟨b, o, none⟩ = (decide (fr.1 ≤ o) && decide (o < fr.2)) := by
  simp [World.frozen?, h]

theorem info_size {t : TypeId} {n : Nat} (h : sizeT P t = some n) : ∃ i, P.info? t = some i ∧ i.size = n := by
  unfold sizeT at h
  cases hi : P.info? t with
  | none => simp [hi] at h
  | some i => simp [hi] at h; exact ⟨i, rfl, h⟩
theorem run_sizeT {t : TypeId} {n : Nat} (h : sizeT P t = some n) (w : World) : (sizeOf t).run P w = .ok n w := by
  obtain ⟨i, hi, hn⟩ := info_size h
  simp [sizeOf, typeInfo, hi, hn]
theorem run_aggT {t : TypeId} {b : Bool} (h : aggT P t = some b) (w : World) : (isAgg t).run P w = .ok b w := by
  unfold aggT at h
  cases hu : P.underlying t with
  | none => simp [hu] at h
  | some d =>
    simp only [hu] at h
    cases d <;> simp at h <;> subst h <;> simp [isAgg, run_underlying hu]

/-- what an address reads -/
theorem readCells_rep (fs : FS w a E H β T B G) {p : AVal} {n : Nat} {cs : List AVal} {c : Value} (h : readCells B H p n = some (true, cs)) (hp : RepT w E H β p c) :
    ∃ blk off, c = .pointer (some ⟨blk, off, none⟩) ∧ cs.length = n ∧ ∃ f : Nat → Value, ∀ j, j < n → w.cell? ⟨blk, off + j, none⟩ = some (f j) ∧ (f j).oneCell' = true ∧ Rep w E H (cs.getD j .undef) (f j) := by
  unfold readCells at h
  split at h
  · rename_i t off
    simp only [Option.some.injEq, Prod.mk.injEq, decide_eq_true_eq] at h
    obtain ⟨hle, rfl⟩ := h
    obtain ⟨b, rfl, hb⟩ := repT_ptr hp
    obtain ⟨_, _, _, ds, ty, fr, h1, h2, h3, h4⟩ := fs.box t b hb
    refine ⟨b, off, rfl, by simp, fun j => ds.getD (off + j) undef, fun j hj => ?_⟩
    obtain ⟨c, g1, g2, g3⟩ := h4 (off + j) ((B.getD t []).getD (off + j) .undef) (by simp only [List.getD_eq_getElem?_getD]; rw [List.getElem?_eq_getElem (by simp only [List.getD_eq_getElem?_getD] at hle; omega)]; simp)
    refine ⟨?_, ?_, ?_⟩
    · rw [cell?_block h1, g1]; simp [g1]
    · simpa [g1] using g2
    · simpa [g1, hj] using g3
  · rename_i k off
    split at h
    · rename_i cs0 hk
      simp only [Option.some.injEq, Prod.mk.injEq, decide_eq_true_eq] at h
      obtain ⟨hle, rfl⟩ := h
      have hp' : Rep w E H (.ptr (.hp k) off) c := by cases hp with | val _ _ h => exact h
      obtain ⟨rfl, hv⟩ := rep_ptrH hp'
      obtain ⟨ds, ty, fr, h1, h2, h3, h4⟩ := fs.sim.var k cs0 hk
      refine ⟨_, off, rfl, by simp, fun j => ds.getD (off + j) undef, fun j hj => ?_⟩
      obtain ⟨c, g1, g2, g3⟩ := h4 (off + j) (cs0.getD (off + j) .undef) (by simp only [List.getD_eq_getElem?_getD]; rw [List.getElem?_eq_getElem (by omega)]; simp)
      refine ⟨?_, ?_, ?_⟩
      · rw [cell?_block h1, g1]; simp [g1]
      · simpa [g1] using g2
      · simpa [g1, hj] using g3
    · simp at h
  · rename_i k ver i off
    split at h
    · rename_i sz rows u hk
      simp only [Option.some.injEq, Prod.mk.injEq, Bool.and_eq_true, beq_iff_eq, decide_eq_true_eq] at h
      obtain ⟨⟨⟨rfl, hi⟩, hle⟩, rfl⟩ := h
      have hp' : Rep w E H (.eptr k u i off) c := by cases hp with | val _ _ h => exact h
      obtain ⟨p, sz', u', rfl, ha, hu, hpp⟩ := rep_eptr hp'
      simp only [arrInfo, hk, Option.some.injEq, Prod.mk.injEq] at ha
      obtain ⟨rfl, rfl⟩ := ha
      obtain ⟨hcap, rfl⟩ := hpp rfl
      obtain ⟨hsz, hrl, hrows, hblk⟩ := fs.sim.arr k sz rows u hk
      obtain ⟨ds, ty, fr, h1, h2, h3, h4⟩ := hblk hcap
      refine ⟨_, _, rfl, by simp, fun j => ds.getD (i * sz + off + j) undef, fun j hj => ?_⟩
      have hlen : (rows.getD i []).length = sz := hrows _ (by simp [List.getD_eq_getElem?_getD, List.getElem?_eq_getElem hi])
      have hdiv : (i * sz + off + j) / sz = i := by
        rw [Nat.add_assoc, Nat.mul_comm, Nat.mul_add_div hsz, Nat.div_eq_of_lt (by omega)]; rfl
      have hmod : (i * sz + off + j) % sz = off + j := by
        rw [Nat.add_assoc, Nat.mul_comm, Nat.mul_add_mod, Nat.mod_eq_of_lt (by omega)]
      obtain ⟨c, g1, g2, g3⟩ := h4 (i * sz + off + j) ((rows.getD i []).getD (off + j) .undef) (by
        simp only [cellAt, hdiv, hmod, List.getElem?_eq_getElem hi, Option.bind_some]
        have : rows.getD i [] = rows[i] := by simp [List.getD_eq_getElem?_getD, List.getElem?_eq_getElem hi]
        rw [this] at hlen ⊢
        simp only [List.getD_eq_getElem?_getD]
        rw [List.getElem?_eq_getElem (by omega)]; simp)
      refine ⟨?_, ?_, ?_⟩
      · rw [cell?_block h1, g1]; simp [g1]
      · simpa [g1] using g2
      · simpa [g1, hj] using g3
    · simp at h
  · rename_i cells
    simp only [Option.some.injEq, Prod.mk.injEq, decide_eq_true_eq] at h
    obtain ⟨hle, rfl⟩ := h
    have hp' : Rep w E H (.rptr cells) c := by cases hp with | val _ _ h => exact h
    obtain ⟨blk, off, f, rfl, h1, h2, h3⟩ := rep_rptr hp'
    refine ⟨blk, off, rfl, by simp, f, fun j hj => ⟨(h2 j (by omega)).1, (h2 j (by omega)).2, ?_⟩⟩
    have := Rep.pure (w := w) (E := E) (H := H) _ _ (h3 j (by omega))
    simpa [hj] using this
  · simp at h

theorem typed_rep {t : TypeId} {v u : AVal} {c : Value} (h : typed P t v = (true, u)) (r : Rep w E H v c) : Rep w E H u c := by
  unfold typed at h
  split at h
  · simp only [Prod.mk.injEq] at h
    obtain ⟨h1, rfl⟩ := h
    cases v <;> simp [isStr] at h1
    exact r
  · simp only [Prod.mk.injEq] at h
    obtain ⟨h1, rfl⟩ := h
    cases v <;> simp [isInt] at h1
    subst h1; exact r
  · simp only [Prod.mk.injEq] at h
    obtain ⟨h1, rfl⟩ := h
    cases v <;> simp [isBool] at h1
    exact r
  · simp only [Prod.mk.injEq, true_and] at h
    subst h; exact r

theorem loadA_run (fs : FS w a E H β T B G) {t : TypeId} {p v : AVal} {c : Value} (h : loadA P B H t p = some (true, v)) (hp : RepT w E H β p c) :
    ∃ blk off d, c = .pointer (some ⟨blk, off, none⟩) ∧ (loadVar t ⟨blk, off, none⟩).run P w = .ok d w ∧ Rep w E H v d := by
  unfold loadA at h
  split at h
  · rename_i n hag hsz
    split at h
    · rename_i ok cs hr
      simp only [Option.some.injEq, Prod.mk.injEq] at h
      obtain ⟨rfl, rfl⟩ := h
      obtain ⟨blk, off, rfl, hl, f, hf⟩ := readCells_rep fs hr hp
      refine ⟨blk, off, .agg ((List.range n).map f).toArray, rfl, ?_, ?_⟩
      · have := run_loadCells (P := P) w ⟨blk, off, none⟩ n f (fun j hj => by rw [addr_add]; exact (hf j hj).1)
        simp [loadVar, run_aggT hag, run_sizeT hsz, this]
      · refine .agg cs ((List.range n).map f) (by simp [hl]) (fun j hj => ?_) (fun j hj => ?_)
        · have := (hf j (by omega)).2.1
          simpa [List.getD_eq_getElem?_getD, show j < n by omega] using this
        · have := (hf j (by omega)).2.2
          simpa [List.getD_eq_getElem?_getD, show j < n by omega] using this
    · simp at h
  · rename_i n hag hsz
    split at h
    · rename_i ok cs hr
      simp only [Option.some.injEq, Prod.mk.injEq, Bool.and_eq_true] at h
      obtain ⟨⟨rfl, hty⟩, hv⟩ := h
      obtain ⟨blk, off, rfl, hl, f, hf⟩ := readCells_rep fs hr hp
      obtain ⟨h1, h2, h3⟩ := hf 0 (by omega)
      refine ⟨blk, off, f 0, rfl, ?_, ?_⟩
      · simp only [Nat.add_zero] at h1
        simp [loadVar, run_aggT hag, h1]
      · exact typed_rep (P := P) (t := t) (by rw [← hv, ← hty]) h3
    · simp at h
  · simp at h

/- stores -/
def setArr (ds : Array Value) (o : Nat) : List Value → Array Value
  | [] => ds
  | v :: vs => setArr (ds.setIfInBounds o v) (o + 1) vs
theorem setArr_size : ∀ (vs : List Value) (ds : Array Value) (o : Nat), (setArr ds o vs).size = ds.size
  | [], _, _ => rfl
  | v :: vs, ds, o => by rw [setArr, setArr_size vs]; simp
theorem setArr_get : ∀ (vs : List Value) (ds : Array Value) (o j : Nat), o + vs.length ≤ ds.size → (setArr ds o vs)[j]? = if o ≤ j ∧ j < o + vs.length then vs[j - o]? else ds[j]?
  | [], ds, o, j, _ => by simp [setArr]; intro h1 h2; omega
  | v :: vs, ds, o, j, h => by
    simp only [List.length_cons] at h
    rw [setArr, setArr_get vs _ _ j (by simp; omega)]
    by_cases h1 : j = o
    · subst h1
      rw [if_neg (by omega), if_pos ⟨Nat.le_refl _, by simp⟩]
      simp [Array.getElem?_setIfInBounds, show j < ds.size by omega]
    · by_cases h2 : o + 1 ≤ j ∧ j < o + 1 + vs.length
      · rw [if_pos h2, if_pos ⟨by omega, by simp; omega⟩]
        rw [show j - o = (j - (o + 1)) + 1 by omega]; simp
      · rw [if_neg h2, if_neg (by simp; omega)]
        rw [Array.getElem?_setIfInBounds, if_neg (by omega)]
theorem setAt_length : ∀ (vs cs : List AVal) (o : Nat), (setAt cs o vs).length = cs.length
  | [], _, _ => rfl
  | v :: vs, cs, o => by rw [setAt, setAt_length vs]; simp
theorem setAt_get : ∀ (vs cs : List AVal) (o j : Nat), o + vs.length ≤ cs.length → (setAt cs o vs)[j]? = if o ≤ j ∧ j < o + vs.length then vs[j - o]? else cs[j]?
  | [], cs, o, j, _ => by simp [setAt]; intro h1 h2; omega
  | v :: vs, cs, o, j, h => by
    simp only [List.length_cons] at h
    rw [setAt, setAt_get vs _ _ j (by simp; omega)]
    by_cases h1 : j = o
    · subst h1
      rw [if_neg (by omega), if_pos ⟨Nat.le_refl _, by simp⟩]
      simp [show j < cs.length by omega]
    · by_cases h2 : o + 1 ≤ j ∧ j < o + 1 + vs.length
      · rw [if_pos h2, if_pos ⟨by omega, by simp; omega⟩]
        rw [show j - o = (j - (o + 1)) + 1 by omega]; simp
      · rw [if_neg h2, if_neg (by simp; omega)]
        rw [List.getElem?_set, if_neg (by omega)]

theorem setCells_heap (b : Nat) : ∀ (vs : List Value) (o : Nat) (w : World) (ds : Array Value) (ty : TypeId) (fr : Nat × Nat), w.heap[b]? = some (.cells ds ty fr) →
    (w.setCells b o vs).heap[b]? = some (.cells (setArr ds o vs) ty fr)
  | [], _, _, _, _, _, h => h
  | v :: vs, o, w, ds, ty, fr, h => by
    rw [World.setCells, setArr]
    refine setCells_heap b vs (o + 1) _ _ ty fr ?_
    simp [World.setCell, Array.getElem?_modify, h]
theorem setCells_other (b x : Nat) (hx : x ≠ b) : ∀ (vs : List Value) (o : Nat) (w : World), (w.setCells b o vs).heap[x]? = w.heap[x]?
  | [], _, _ => rfl
  | v :: vs, o, w => by
    rw [World.setCells, setCells_other b x hx vs]
    simp [World.setCell, Array.getElem?_modify, Ne.symm hx]
theorem setCells_size (b : Nat) : ∀ (vs : List Value) (o : Nat) (w : World), (w.setCells b o vs).heap.size = w.heap.size
  | [], _, _ => rfl
  | v :: vs, o, w => by rw [World.setCells, setCells_size b vs]; simp
theorem setCells_rest (b : Nat) : ∀ (vs : List Value) (o : Nat) (w : World), (w.setCells b o vs).tape = w.tape ∧ (w.setCells b o vs).os = w.os ∧ (w.setCells b o vs).output = w.output
  | [], _, _ => ⟨rfl, rfl, rfl⟩
  | v :: vs, o, w => by
    rw [World.setCells]
    obtain ⟨h1, h2, h3⟩ := setCells_rest b vs (o + 1) (w.setCell ⟨b, o, none⟩ v)
    exact ⟨h1.trans rfl, h2.trans rfl, h3.trans rfl⟩

theorem RepT.mono {w' : World} {E' : Env} {H' : Heap} (h : Sees w E H w' E' H') {v : AVal} {c : Value} (r : RepT w E H β v c) : RepT w' E' H' β v c := by
  cases r with
  | box t off b hb => exact .box t off b hb
  | val v c r => exact .val _ _ (r.mono h)

theorem run_storeVar_cells {t : TypeId} {n blk off : Nat} {v : Value} (hsz : sizeT P t = some n) (hn : v.cells.size = n)
    (hc : ∀ j, j < n → (w.cell? ⟨blk, off + j, none⟩).isSome = true) (hf : ∀ j, j < n → w.frozen? ⟨blk, off + j, none⟩ = false) (h1 : ∀ c ∈ v.cells.toList, c.oneCell' = true) :
    (storeVar t ⟨blk, off, none⟩ v).run P w = .ok () (w.setCells blk off v.cells.toList) := by
  have hl : v.cells.toList.length = n := by simpa using hn
  have := run_storeCells_cells (P := P) blk off v.cells.toList 0 w (by simpa [hl] using hc) (by simpa [hl] using hf) h1
  simp only [Nat.add_zero] at this
  simp [storeVar, run_sizeT hsz, hn, this]

/-- the cells of a value that is stored -/
theorem cellsOf_rep {v : AVal} {c : Value} {cs : List AVal} (h : cellsOf? v = some cs) (r : Rep w E H v c) :
    c.cells.toList.length = cs.length ∧ (∀ x ∈ c.cells.toList, x.oneCell' = true) ∧ ∀ j, j < cs.length → Rep w E H (cs.getD j .undef) (c.cells.toList.getD j undef) := by
  have one : ∀ {x : AVal} {y : Value}, Rep w E H x y → y.oneCell' = true → y.cells = #[y] → c = y → cs = [x] →
      c.cells.toList.length = cs.length ∧ (∀ x ∈ c.cells.toList, x.oneCell' = true) ∧ ∀ j, j < cs.length → Rep w E H (cs.getD j .undef) (c.cells.toList.getD j undef) := by
    intro x y hr h1 h2 e1 e2
    subst e1; subst e2
    rw [h2]
    refine ⟨rfl, by simpa using h1, fun j hj => ?_⟩
    have : j = 0 := by simp at hj; exact hj
    subst this; exact hr
  cases v with
  | undef => simp [cellsOf?] at h
  | tuple vs => simp [cellsOf?] at h
  | agg cells =>
    simp only [cellsOf?, Option.some.injEq] at h
    subst h
    obtain ⟨ds, rfl, hl, hr⟩ := rep_agg r
    refine ⟨by simp [Value.cells, hl], ?_, ?_⟩
    · intro x hx
      simp only [Value.cells] at hx
      obtain ⟨j, hj, rfl⟩ := List.mem_iff_getElem.1 hx
      have := (hr j (by rw [hl]; exact hj)).1
      simpa [List.getD_eq_getElem?_getD, List.getElem?_eq_getElem hj] using this
    · intro j hj
      simpa [Value.cells] using (hr j hj).2
  | bool b => simp [cellsOf?] at h; obtain rfl := rep_bool r; exact one r rfl rfl rfl h.symm
  | int k n => simp [cellsOf?] at h; obtain rfl := rep_int r; exact one r rfl rfl rfl h.symm
  | str s => simp [cellsOf?] at h; obtain ⟨b, rfl, hb⟩ := rep_str r; exact one r rfl rfl rfl h.symm
  | list f n row => simp [cellsOf?] at h; obtain ⟨a, cap, rfl, _⟩ := rep_list r; exact one r rfl rfl rfl h.symm
  | own k off len ver clip => simp [cellsOf?] at h; obtain ⟨a, cap, sz, u, rfl, _⟩ := rep_own r; exact one r rfl rfl rfl h.symm
  | ptr o off =>
    simp [cellsOf?] at h
    cases o with
    | tmp t => cases r with | pure _ _ h => cases h
    | hp k => obtain ⟨rfl, _⟩ := rep_ptrH r; exact one r rfl rfl rfl h.symm
  | eptr k ver i off => simp [cellsOf?] at h; obtain ⟨p, sz, u, rfl, _⟩ := rep_eptr r; exact one r rfl rfl rfl h.symm
  | rptr cells => simp [cellsOf?] at h; obtain ⟨blk, off, cs, rfl, _⟩ := rep_rptr r; exact one r rfl rfl rfl h.symm
  | nilS => simp [cellsOf?] at h; cases r with | pure _ _ hr => cases hr; exact one (.pure _ _ (.nilS _)) rfl rfl rfl h.symm
  | nonS => simp [cellsOf?] at h; cases r with | pure _ _ hr => cases hr; exact one (.pure _ _ (.nonS _ _)) rfl rfl rfl h.symm
  | nilX => simp [cellsOf?] at h; cases r with | pure _ _ hr => cases hr; exact one (.pure _ _ .nilX) rfl rfl rfl h.symm
  | nilptr => simp [cellsOf?] at h; cases r with | pure _ _ hr => cases hr; exact one (.pure _ _ .nilptr) rfl rfl rfl h.symm
  | func f caps => simp [cellsOf?] at h; obtain ⟨cs, rfl, _⟩ := rep_func r; exact one r rfl rfl rfl h.symm
  | nilfunc => simp [cellsOf?] at h; cases r with | pure _ _ hr => cases hr; exact one (.pure _ _ .nilfunc) rfl rfl rfl h.symm
  | iface t x => simp [cellsOf?] at h; obtain ⟨d, rfl, _⟩ := rep_iface r; exact one r rfl rfl rfl h.symm
  | nilIface => simp [cellsOf?] at h; obtain rfl := rep_nilIface r; exact one r rfl rfl rfl h.symm

/-- a block after some of its cells are written -/
theorem BlockRep.write {b n off : Nat} {cells cells' : Nat → Option AVal} {vs : List Value} (r : BlockRep w E H b n cells) (hle : off + vs.length ≤ n) (h1 : ∀ x ∈ vs, x.oneCell' = true)
    {E' : Env} {H' : Heap} (hs : Sees w E H (w.setCells b off vs) E' H')
    (hin : ∀ j v, off ≤ j → j < off + vs.length → cells' j = some v → Rep w E H v (vs.getD (j - off) undef))
    (hout : ∀ j v, ¬(off ≤ j ∧ j < off + vs.length) → cells' j = some v → cells j = some v) : BlockRep (w.setCells b off vs) E' H' b n cells' := by
  obtain ⟨ds, ty, fr, g1, g2, g3, g4⟩ := r
  refine ⟨setArr ds off vs, ty, fr, setCells_heap b vs off w ds ty fr g1, by rw [setArr_size]; exact g2, g3, fun j v hv => ?_⟩
  rw [setArr_get vs ds off j (by omega)]
  by_cases hj : off ≤ j ∧ j < off + vs.length
  · rw [if_pos hj]
    have hlt : j - off < vs.length := by omega
    refine ⟨vs[j - off], List.getElem?_eq_getElem hlt, h1 _ (List.getElem_mem hlt), ?_⟩
    have := hin j v hj.1 hj.2 hv
    rw [List.getD_eq_getElem?_getD, List.getElem?_eq_getElem hlt] at this
    exact Rep.mono hs this
  · rw [if_neg hj]
    obtain ⟨c, k1, k2, k3⟩ := g4 j v (hout j v hj hv)
    exact ⟨c, k1, k2, k3.mono hs⟩
theorem BlockRep.some {b n : Nat} {cells : Nat → Option AVal} (r : BlockRep w E H b n cells) {j : Nat} (hj : j < n) : (w.cell? ⟨b, j, none⟩).isSome = true ∧ w.frozen? ⟨b, j, none⟩ = false := by
  obtain ⟨ds, ty, fr, g1, g2, g3, g4⟩ := r
  refine ⟨by rw [cell?_block g1]; simp [show j < ds.size by omega], ?_⟩
  rw [frozen?_block g1]
  have := g3 j hj
  by_cases h : fr.1 ≤ j <;> simp [h] <;> omega

theorem sees_write {b off : Nat} {vs : List Value} (h : ∀ x, E.imm x → x ≠ b) : Sees w E H (w.setCells b off vs) E H :=
  ⟨fun x hx => ⟨hx, setCells_other b x (h x hx) vs off w⟩, fun k hk => ⟨hk, rfl⟩, fun k sz u hk => ⟨u, hk, Nat.le_refl _, fun _ => ⟨rfl, fun _ => rfl⟩⟩⟩
end Go.Mu
