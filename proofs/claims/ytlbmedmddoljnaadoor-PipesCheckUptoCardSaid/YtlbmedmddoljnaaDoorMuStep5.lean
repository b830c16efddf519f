/-
  Mu: the operations, one by one (what is built, converted, appended).
-/
import Derived.Test.YtlbmedmddoljnaaDoorMuStep4
import Derived.Deep.AppendSrc
import Derived.Laws.AppendOwn
import Derived.Laws.BytesString
import Derived.Laws.MakeOwn
set_option linter.unusedVariables false
set_option linter.unusedSimpArgs false
namespace Go.Mu
open Go
variable {P : Program} {fh : FH} {w w' : World} {a : Act} {E E' : Env} {H H' : Heap} {β : Nat → Option Nat} {T : List AVal} {B : Boxes} {G : Tags}
  {dst : Option Nat} {type : TypeId} {pos : String} {after : Array Edge} {guard : Option (Nat × Bool)} {r : SR}

/-- a row of cells that stands for a row of abstract cells -/
def CellsRep (w : World) (E : Env) (H : Heap) (zs : List AVal) (ds : Array Value) : Prop :=
  ds.size = zs.length ∧ ∀ (j : Nat) (v : AVal), zs[j]? = some v → ∃ c, ds[j]? = some c ∧ c.oneCell' = true ∧ Rep w E H v c

theorem foldl_zipIdx (off : Nat) : ∀ (vs : List Value) (i : Nat) (ds : Array Value), (vs.zipIdx i).foldl (fun cs x => cs.setIfInBounds (off + x.2) x.1) ds = setArr ds (off + i) vs
  | [], _, _ => rfl
  | v :: vs, i, ds => by
    simp only [List.zipIdx_cons, List.foldl_cons, setArr]
    rw [foldl_zipIdx off vs (i + 1)]; rfl
theorem fill_step (place : Nat → Option (Nat × Nat)) (ds : Array Value) (i : Nat) (v : Value) (rest : List (Nat × Value)) (off size : Nat) (h : place i = some (off, size)) (h1 : v.cells.size = size) (h2 : off + v.cells.size ≤ ds.size) :
    Instr.fill place ds ((i, v) :: rest) = Instr.fill place (setArr ds off v.cells.toList) rest := by
  have := foldl_zipIdx off v.cells.toList 0 ds
  simp only [Nat.add_zero] at this
  simp only [Instr.fill, h]
  have e : (v.cells.size ≠ size || decide (off + v.cells.size > ds.size)) = false := by simp; omega
  rw [if_neg (by simpa using e)]
  congr 1
  rw [← this, ← Array.foldl_toList, Array.toList_zipIdx]
theorem CellsRep.set {zs : List AVal} {ds : Array Value} (h : CellsRep w E H zs ds) {off : Nat} {cs : List AVal} {vs : List Value} (hl : vs.length = cs.length) (hle : off + cs.length ≤ zs.length) (h1 : ∀ x ∈ vs, x.oneCell' = true)
    (hr : ∀ j, j < cs.length → Rep w E H (cs.getD j .undef) (vs.getD j undef)) : CellsRep w E H (setAt zs off cs) (setArr ds off vs) := by
  refine ⟨by rw [setArr_size, setAt_length]; exact h.1, fun j v hv => ?_⟩
  rw [setAt_get cs zs off j hle] at hv
  rw [setArr_get vs ds off j (by rw [h.1]; omega), hl]
  split at hv
  · rename_i hj
    rw [if_pos hj]
    have hlt : j - off < vs.length := by omega
    have := hr (j - off) (by omega)
    rw [List.getD_eq_getElem?_getD, hv, List.getD_eq_getElem?_getD, List.getElem?_eq_getElem hlt] at this
    exact ⟨vs[j - off], List.getElem?_eq_getElem hlt, h1 _ (List.getElem_mem hlt), this⟩
  · rename_i hj
    rw [if_neg hj]
    exact h.2 j v hv
theorem fillA_run {place : Nat → Option (Nat × Nat)} : ∀ (ps : List (Nat × Operand)) (zs : List AVal) (ds : Array Value) (out : List AVal), fillA place zs (ps.map fun x => (x.1, aeval T x.2)) = some out → CellsRep w E H zs ds →
    (∀ x ∈ ps, Rep w E H (aeval T x.2) (a.eval x.2)) → ∃ ds', Instr.fill place ds (ps.map fun x => (x.1, a.eval x.2)) = some ds' ∧ CellsRep w E H out ds'
  | [], zs, ds, out, h, hc, _ => by
    simp only [List.map_nil, fillA, Option.some.injEq] at h
    subst h
    exact ⟨ds, rfl, hc⟩
  | (i, x) :: ps, zs, ds, out, h, hc, hr => by
    simp only [List.map_cons, fillA] at h
    split at h
    · rename_i off size cs hp hcs
      split at h
      · rename_i hcond
        obtain ⟨hsz, hle⟩ := hcond
        obtain ⟨hl, h1, hrep⟩ := cellsOf_rep hcs (hr (i, x) (by simp))
        have hl' : (a.eval x).cells.size = cs.length := by simpa using hl
        have := fillA_run ps _ _ out h (hc.set hl hle h1 hrep) (fun y hy => hr y (by simp [hy]))
        obtain ⟨ds', e, hd⟩ := this
        refine ⟨ds', ?_, hd⟩
        rw [List.map_cons, fill_step place ds i (a.eval x) _ off size hp (by omega) (by rw [hc.1]; omega)]
        exact e
      · simp at h
    · simp at h
theorem run_places : ∀ (fields : List Field), fields.all (fun f => (sizeT P f.type).isSome) = true → ∃ l : List (Nat × Nat), (fields.mapM (fun f => (do pure (f.offset, ← sizeOf f.type) : Sem (Nat × Nat)))).run P w = .ok l w ∧
    ∀ i : Nat, l[i]? = placeOf P fields i
  | [], _ => ⟨[], by simp, fun i => by simp [placeOf]⟩
  | f :: fs, h => by
    simp only [List.all_cons, Bool.and_eq_true] at h
    obtain ⟨n, hn⟩ := Option.isSome_iff_exists.1 h.1
    obtain ⟨l, hl, hi⟩ := run_places fs h.2
    refine ⟨(f.offset, n) :: l, ?_, fun i => ?_⟩
    · rw [List.mapM_cons]
      simp only [Sem.run_bind, run_sizeT hn, Result.andThen_ok, Sem.run_pure, hl]
    · cases i with
      | zero => simp [placeOf, hn]
      | succ i => simpa [placeOf] using hi i
theorem step_build (fs : FS w a E H β T B G) {t : TypeId} {ps : Array (Nat × Operand)} (hv : okTmps G (mkO dst (.build t ps) type pos after guard)) {v : AVal} (h : buildA P t (ps.toList.map fun x => (x.1, aeval T x.2)) = some v)
    (hn : ps.toList.all (fun x => noTmp (aeval T x.2)) = true) : Sound P w a E H β T G (mkO dst (.build t ps) type pos after guard) ⟨true, v, B, H⟩ := by
  unfold buildA at h
  split at h
  · rename_i fields z hu hz
    split at h
    · simp at h
    · rename_i hall
      split at h
      · rename_i out hout
        simp only [Option.some.injEq] at h
        subst h
        obtain ⟨c, hc, hl, hr⟩ := zeroT_run hz w
        have hm : ∀ x ∈ ps.toList, x.2 ∈ (mkO dst (.build t ps) type pos after guard).op.operands.toList := fun x hx => by
          simp only [Op.operands]
          exact List.mem_map.2 ⟨x, hx, rfl⟩
        obtain ⟨ds', hf, hd⟩ := fillA_run (w := w) (E := E) (H := H) (a := a) ps.toList z c.cells out hout ⟨hl, fun j u hu => let ⟨d, g1, g2, g3⟩ := hr j u hu; ⟨d, g1, g2, .pure _ _ (g3 _)⟩⟩
          (fun x hx => noTmp_rep (List.all_eq_true.1 hn x hx) (okTmps_rep fs hv (hm x hx)))
        obtain ⟨l, hpl, hi⟩ := run_places (P := P) (w := w) fields.toList (by cases e : fields.toList.all (fun f => (sizeT P f.type).isSome) <;> simp_all)
        refine Sound.pure fs (c := .agg ds'.toList.toArray) ?_ (.val _ _ (.agg out ds'.toList (by simp [hd.1]) (fun j hj => ?_) (fun j hj => ?_)))
        · have hpl' : (fields.mapM (fun f => (do pure (f.offset, ← sizeOf f.type) : Sem (Nat × Nat)))).run P w = .ok l.toArray w := by
            rw [← Array.toArray_toList (xs := fields), List.mapM_toArray]
            simp only [Sem.run_map, hpl, Result.andThen_ok]
          have hplace : (fun (i : Nat) => l.toArray[i]?) = placeOf P fields.toList := by
            funext i
            rw [← hi i]; simp
          simp only [execOp, Instr.build, Sem.run_bind, hc, Result.andThen_ok, run_underlying hu, hpl']
          rw [hplace]
          have : (ps.map fun (i, x) => (i, a.eval x)).toList = ps.toList.map fun x => (x.1, a.eval x.2) := by simp
          rw [this]
          simp only [hf]
          simp
        · obtain ⟨d, g1, g2, g3⟩ := hd.2 j (out.getD j .undef) (by rw [List.getD_eq_getElem?_getD, List.getElem?_eq_getElem hj]; rfl)
          rw [List.getD_eq_getElem?_getD, Array.getElem?_toList, g1]; exact g2
        · obtain ⟨d, g1, g2, g3⟩ := hd.2 j (out.getD j .undef) (by rw [List.getD_eq_getElem?_getD, List.getElem?_eq_getElem hj]; rfl)
          rw [List.getD_eq_getElem?_getD (l := ds'.toList), Array.getElem?_toList, g1]; exact g3
      · simp at h
  · simp at h

/- slices that are built -/
theorem fill_rows (sz : Nat) : ∀ (ps : List (Nat × Operand)) (i : Nat) (ds : Array Value) (rows : List (List AVal)), rowsA sz i (ps.map fun x => (x.1, aeval T x.2)) = some rows → (i + rows.length) * sz ≤ ds.size →
    (∀ x ∈ ps, Rep w E H (aeval T x.2) (a.eval x.2)) → ∃ ds', Instr.fill (fun i => some (i * sz, sz)) ds (ps.map fun x => (x.1, a.eval x.2)) = some ds' ∧ ds'.size = ds.size ∧ (∀ j, j < i * sz → ds'[j]? = ds[j]?) ∧
      ∀ (m : Nat) (row : List AVal), rows[m]? = some row → row.length = sz ∧ ∀ j, j < sz → ∃ c, ds'[(i + m) * sz + j]? = some c ∧ c.oneCell' = true ∧ Rep w E H (row.getD j .undef) c
  | [], i, ds, rows, h, _, _ => by
    simp only [List.map_nil, rowsA, Option.some.injEq] at h
    subst h
    exact ⟨ds, rfl, rfl, fun _ _ => rfl, fun m row hm => by simp at hm⟩
  | (k, x) :: ps, i, ds, rows, h, hle, hr => by
    simp only [List.map_cons, rowsA] at h
    split at h
    · rename_i cs rs hcs hrs
      split at h
      · rename_i hcond
        obtain ⟨rfl, hsz⟩ := hcond
        simp only [Option.some.injEq] at h
        subst h
        obtain ⟨hl, h1, hrep⟩ := cellsOf_rep hcs (hr (i, x) (by simp))
        have hl' : (a.eval x).cells.size = cs.length := by simpa using hl
        have hll : (a.eval x).cells.toList.length = sz := hl.trans hsz
        simp only [List.length_cons] at hle
        have hle1 : i * sz + sz ≤ ds.size := by
          have : (i + 1) * sz ≤ (i + (rs.length + 1)) * sz := Nat.mul_le_mul_right _ (by omega)
          rw [Nat.add_mul, Nat.one_mul] at this; omega
        have ih := fill_rows sz ps (i + 1) (setArr ds (i * sz) (a.eval x).cells.toList) rs hrs (by rw [setArr_size]; rw [show i + 1 + rs.length = i + (rs.length + 1) by omega]; exact hle) (fun y hy => hr y (by simp [hy]))
        obtain ⟨ds', e1, e2, e3, e4⟩ := ih
        refine ⟨ds', ?_, by rw [e2, setArr_size], fun j hj => ?_, fun m row hm => ?_⟩
        · rw [List.map_cons, fill_step _ ds i (a.eval x) _ (i * sz) sz rfl (by omega) (by omega)]
          exact e1
        · rw [e3 j (by rw [Nat.add_mul]; omega), setArr_get _ ds _ j (by omega), if_neg (by omega)]
        · cases m with
          | zero =>
            simp only [List.getElem?_cons_zero, Option.some.injEq] at hm
            subst hm
            refine ⟨hsz, fun j hj => ?_⟩
            have hlt : j < (a.eval x).cells.toList.length := by omega
            refine ⟨(a.eval x).cells.toList[j], ?_, h1 _ (List.getElem_mem hlt), ?_⟩
            · rw [Nat.add_zero, e3 _ (by rw [Nat.add_mul]; omega), setArr_get _ ds _ _ (by omega), if_pos (by omega)]
              rw [show i * sz + j - i * sz = j by omega, List.getElem?_eq_getElem hlt]
            · have := hrep j (by omega)
              rwa [List.getD_eq_getElem?_getD (l := (a.eval x).cells.toList), List.getElem?_eq_getElem hlt] at this
          | succ m =>
            simp only [List.getElem?_cons_succ] at hm
            have := e4 m row hm
            rw [show i + 1 + m = i + (m + 1) by omega] at this
            exact this
      · simp at h
    · simp at h
theorem rows_cellAt {sz : Nat} {rows : List (List AVal)} {ds : Array Value} (hsz : 0 < sz) (h : ∀ (m : Nat) (row : List AVal), rows[m]? = some row → row.length = sz ∧ ∀ j, j < sz → ∃ c, ds[m * sz + j]? = some c ∧ c.oneCell' = true ∧ Rep w E H (row.getD j .undef) c)
    (j : Nat) (v : AVal) (hv : cellAt sz rows j = some v) : ∃ c, ds[j]? = some c ∧ c.oneCell' = true ∧ Rep w E H v c := by
  unfold cellAt at hv
  rw [Option.bind_eq_some_iff] at hv
  obtain ⟨row, h1, h2⟩ := hv
  obtain ⟨g1, g2⟩ := h _ _ h1
  obtain ⟨c, k1, k2, k3⟩ := g2 (j % sz) (Nat.mod_lt _ hsz)
  rw [List.getD_eq_getElem?_getD, h2] at k3
  refine ⟨c, ?_, k2, k3⟩
  rw [← k1]; congr 1
  rw [Nat.mul_comm]; exact (Nat.div_add_mod j sz).symm
theorem list_of_cells {n sz : Nat} {rows : List (List AVal)} {b : Nat} {ds : Array Value} {ty : TypeId} {fr : Nat × Nat} (himm : E.imm b) (hb : w.heap[b]? = some (.cells ds ty fr)) (hn : rows.length = n) {cap : Nat} (hcap : n ≤ cap) {full : Bool} (hfull : full = true → cap = n)
    (h : ∀ (m : Nat) (row : List AVal), rows[m]? = some row → row.length = sz ∧ ∀ j, j < sz → ∃ c, ds[m * sz + j]? = some c ∧ c.oneCell' = true ∧ RepP w E.imm (row.getD j .undef) c) :
    RepP w E.imm (.list full n (fun i => rows.getD i [])) (.slice (some ⟨b, 0, none⟩) n cap) := by
  have hg : ∀ i, i < n → rows[i]? = some (rows.getD i []) := fun i hi => by rw [List.getD_eq_getElem?_getD, List.getElem?_eq_getElem (by omega)]; rfl
  refine .list full n _ b 0 cap sz (fun i j => ds.getD (i * sz + j) undef) hcap hfull himm (fun i hi => (h i _ (hg i hi)).1) (fun i j hi hj => ?_) (fun i j hi hj => ?_)
  · obtain ⟨c, k1, k2, k3⟩ := (h i _ (hg i hi)).2 j hj
    rw [cell?_block hb, Nat.zero_add, k1]
    simp [k1, k2]
  · obtain ⟨c, k1, k2, k3⟩ := (h i _ (hg i hi)).2 j hj
    simpa [k1] using k3
theorem step_buildSlice (fs : FS w a E H β T B G) {t e : TypeId} {n sz : Nat} {ps : Array (Nat × Operand)} (hv : okTmps G (mkO dst (.buildSlice t n ps) type pos after guard)) (he : elemT P t = some e) (hs : sizeT P e = some sz) {rows : List (List AVal)}
    (h : rowsA sz 0 (ps.toList.map fun x => (x.1, aeval T x.2)) = some rows) (hn : rows.length = n) (hsz : sz ≠ 0) (hz : zeroOk P e sz = true) (hbig : n * sz ≤ 16777216) (hno : ps.toList.all (fun x => noTmp (aeval T x.2)) = true) :
    Sound P w a E H β T G (mkO dst (.buildSlice t n ps) type pos after guard) ⟨true, .own H.length 0 n 0 false, B, H ++ [.arr sz rows 0]⟩ ∧
    (rows.all (fun r => r.all isPure) = true → Sound P w a E H β T G (mkO dst (.buildSlice t n ps) type pos after guard) ⟨true, .list true n (fun i => rows.getD i []), B, H⟩) := by
  have hu := elemT_some he
  unfold zeroOk at hz
  split at hz
  case h_2 => simp at hz
  rename_i z hzz
  simp only [beq_iff_eq] at hz
  obtain ⟨c, hc, hl, hr⟩ := zeroT_run hzz w
  have hm : ∀ x ∈ ps.toList, x.2 ∈ (mkO dst (.buildSlice t n ps) type pos after guard).op.operands.toList := fun x hx => by
    simp only [Op.operands]
    exact List.mem_map.2 ⟨x, hx, rfl⟩
  have hrep : ∀ x ∈ ps.toList, Rep w E H (aeval T x.2) (a.eval x.2) := fun x hx => noTmp_rep (List.all_eq_true.1 hno x hx) (okTmps_rep fs hv (hm x hx))
  obtain ⟨ds, hf, hds, _, hrows⟩ := fill_rows (w := w) (E := E) (H := H) (a := a) sz ps.toList 0 (if n * sz = 0 then (Array.range (n * sz)).map (fun x => (#[] : Array Value)[x % (#[] : Array Value).size]!) else (Array.range (n * sz)).map (fun x => c.cells[x % c.cells.size]!)) rows h
    (by rw [Nat.zero_add, hn]; split <;> simp) hrep
  have hdsz : ds.size = n * sz := by rw [hds]; split <;> simp
  have hrun : (execOp a.eval (mkO dst (.buildSlice t n ps) type pos after guard)).run P w = .ok (.value (.slice (some ⟨w.heap.size, 0, none⟩) n n)) (w.alloc (.cells ds e)) := by
    have hps : (ps.map fun (i, x) => (i, a.eval x)).toList = ps.toList.map fun x => (x.1, a.eval x.2) := by simp
    simp only [execOp, Instr.buildSlice, Sem.run_bind, run_underlying hu, Result.andThen_ok, run_sizeT hs]
    rw [if_neg (by omega)]
    by_cases h0 : n * sz = 0
    · rw [if_pos h0] at hf
      simp only [h0, if_true, Sem.run_pure, Result.andThen_ok, Sem.run_bind]
      rw [h0] at hf
      rw [hps]
      simp only [hf]
      simp [newRow]
    · rw [if_neg h0] at hf
      simp only [h0, if_false, Sem.run_bind, hc, Result.andThen_ok, Sem.run_pure]
      rw [hps]
      simp only [hf]
      simp [newRow]
  simp only [Nat.zero_add] at hrows
  have hps := pushed_alloc w ds e
  constructor
  · obtain ⟨ev, fs'⟩ := fresh_obj fs hps (thawed0 _) (obj := .arr sz rows 0) (c := n) (fun cs e => by cases e) (fun sz' rows' u e => by
      cases e
      exact ⟨by omega, by omega, fun r hr => let ⟨i, hi⟩ := List.mem_iff_getElem?.1 hr; (hrows i r hi).1, by omega, rows_cellAt (by omega) hrows⟩)
    refine ⟨_, _, _, β, ⟨.inl hrun, ev, fs', .val _ _ (.own _ _ _ _ _ _ _ sz 0 (by simp [arrInfo]) (Nat.le_refl _) (fun _ => ?_)), fun _ _ h => .inl h⟩⟩
    refine ⟨Nat.le_refl _, fun h => by simp at h, fun _ _ => by simp [pushEnv], by simp [pushEnv], fun _ _ => by simp [pushEnv]⟩
  · intro hpure
    obtain ⟨ev, fs'⟩ := fresh_imm fs hps
    refine ⟨_, _, _, β, ⟨.inl hrun, ev, fs', .val _ _ (.pure _ _ (list_of_cells (sz := sz) (Or.inr rfl) hps.new hn (Nat.le_refl _) (fun _ => rfl) (fun m row hm => ?_))), fun _ _ h => .inl h⟩⟩
    obtain ⟨g1, g2⟩ := hrows m row hm
    refine ⟨g1, fun j hj => ?_⟩
    obtain ⟨c, k1, k2, k3⟩ := g2 j hj
    refine ⟨c, k1, k2, ?_⟩
    have hp : isPure (row.getD j .undef) = true := by
      have := List.all_eq_true.1 (List.all_eq_true.1 hpure row (List.mem_of_getElem? hm)) (row.getD j .undef)
      exact this (by rw [List.getD_eq_getElem?_getD, List.getElem?_eq_getElem (by omega)]; exact List.getElem_mem _)
    exact (isPure_rep hp k3).mono ev.sees.imm
theorem step_makeSlice (fs : FS w a E H β T B G) {t : TypeId} {l c : Operand} (hv : okTmps G (mkO dst (.makeSlice t l c) type pos after guard)) {ok : Bool} {v : AVal} {Hn : Heap} (h : makeA P H t (aeval T l) (aeval T c) = some (ok, v, Hn)) (hok : ok = true) :
    Sound P w a E H β T G (mkO dst (.makeSlice t l c) type pos after guard) ⟨true, v, B, Hn⟩ := by
  unfold makeA at h
  split at h
  · simp at h
  rename_i e he
  have hu := elemT_some he
  split at h
  case h_2 => simp at h
  rename_i sz by_ z kl nl kc nc hs hb hz hl hc
  split at h
  · simp at h
  rename_i hcond
  simp only [not_or, Decidable.not_not] at hcond
  obtain ⟨hsz, hzl⟩ := hcond
  simp only [Option.some.injEq, Prod.mk.injEq] at h
  obtain ⟨rfl, rfl, rfl⟩ := h
  simp only [Bool.and_eq_true, decide_eq_true_eq] at hok
  obtain ⟨⟨⟨h0, hlc⟩, hby⟩, h63⟩ := hok
  have el : a.eval l = .int kl nl := by
    have := okTmps_rep fs hv (x := l) (by simp [Op.operands])
    rw [hl] at this; exact repT_int this
  have ec : a.eval c = .int kc nc := by
    have := okTmps_rep fs hv (x := c) (by simp [Op.operands])
    rw [hc] at this; exact repT_int this
  unfold sizeT at hs
  unfold bytesT at hb
  unfold zeroT at hz
  rw [Option.map_eq_some_iff] at hs hb
  obtain ⟨i, hi, rfl⟩ := hs
  obtain ⟨i', hi', rfl⟩ := hb
  rw [hi] at hi' hz
  cases hi'
  simp only at hz
  split at hz
  case h_2 => simp at hz
  rename_i zv hzv
  split at hz
  case isFalse => simp at hz
  rename_i hall
  simp only [Option.some.injEq] at hz
  subst hz
  simp only [List.length_map, Array.length_toList] at hzl
  have hrun : (execOp a.eval (mkO dst (.makeSlice t l c) type pos after guard)).run P w = .ok (.value (.slice (some ⟨w.heap.size, 0, none⟩) nl.toNat nc.toNat)) (w.alloc (.cells (madeCells zv.cells (nc.toNat * i.size)) e)) := by
    have := run_make (P := P) w t e i zv hu hi hzv kl kc nl nc h0 hlc hby h63
    simp only [execOp, el, ec, Sem.run_bind, Sem.run_map, this, Result.andThen_ok, Sem.run_pure]
  have hps := pushed_alloc w (madeCells zv.cells (nc.toNat * i.size)) e
  have hrows : ∀ (m : Nat) (row : List AVal), (List.replicate nl.toNat (zv.cells.toList.map ofCell))[m]? = some row → row.length = i.size ∧ ∀ j, j < i.size → ∃ d, (madeCells zv.cells (nc.toNat * i.size))[m * i.size + j]? = some d ∧ d.oneCell' = true ∧ Rep w E H (row.getD j .undef) d := by
    intro m row hm
    rw [List.getElem?_replicate] at hm
    split at hm
    case isFalse => simp at hm
    rename_i hml
    simp only [Option.some.injEq] at hm
    subst hm
    refine ⟨by simpa using hzl, fun j hj => ?_⟩
    have hlt : m * i.size + j < nc.toNat * i.size := by
      have h1 : (m + 1) * i.size ≤ nc.toNat * i.size := Nat.mul_le_mul_right _ (by omega)
      rw [Nat.add_mul] at h1
      omega
    have hjz : j < zv.cells.size := by omega
    refine ⟨zv.cells[j], ?_, List.all_eq_true.1 hall _ (Array.mem_toList_iff.2 (Array.getElem_mem hjz)), ?_⟩
    · unfold madeCells
      rw [Array.getElem?_map, Array.getElem?_range, if_pos hlt]
      simp only [Option.map_some]
      have em : (m * i.size + j) % zv.cells.size = j := by rw [hzl, Nat.mul_comm, Nat.mul_add_mod, Nat.mod_eq_of_lt hj]
      have eg : zv.cells[(m * i.size + j) % zv.cells.size]! = zv.cells[j] := by
        rw [em]; simp [hjz]
      exact congrArg some eg
    · rw [List.getD_eq_getElem?_getD, List.getElem?_map]
      simp [hjz]
      exact .pure _ _ (ofCell_rep _)
  obtain ⟨ev, fs'⟩ := fresh_obj fs hps (thawed0 _) (obj := .arr i.size (List.replicate nl.toNat (zv.cells.toList.map ofCell)) 0) (c := nc.toNat) (fun cs e => by cases e) (fun sz' rows' u e => by
    cases e
    exact ⟨by omega, by simp; omega, fun r hr => let ⟨m, hm⟩ := List.mem_iff_getElem?.1 hr; (hrows m r hm).1, by rw [size_madeCells]; exact Nat.le_refl _, rows_cellAt (by omega) hrows⟩)
  refine ⟨_, _, _, β, ⟨.inl hrun, ev, fs', .val _ _ (.own _ _ _ _ _ _ _ i.size 0 (by simp [arrInfo]) (Nat.le_refl _) (fun _ => ?_)), fun _ _ h => .inl h⟩⟩
  refine ⟨by omega, fun h => by simp at h, fun _ _ => by simp [pushEnv], by simp [pushEnv]; omega, fun _ _ => by simp [pushEnv]⟩
end Go.Mu
