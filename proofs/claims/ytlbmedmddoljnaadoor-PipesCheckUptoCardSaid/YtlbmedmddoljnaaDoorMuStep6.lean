/-
  Mu: the operations, one by one (what is appended).
-/
import Derived.Test.YtlbmedmddoljnaaDoorMuGrow
import Derived.Laws.IdiomStrings
set_option linter.unusedVariables false
set_option linter.unusedSimpArgs false
namespace Go.Mu
open Go
variable {P : Program} {fh : FH} {w w' : World} {a : Act} {E E' : Env} {H H' : Heap} {β : Nat → Option Nat} {T : List AVal} {B : Boxes} {G : Tags}
  {dst : Option Nat} {type : TypeId} {pos : String} {after : Array Edge} {guard : Option (Nat × Bool)} {r : SR}

/-- rows, one behind another, as cells -/
structure RowsRep (w : World) (E : Env) (H : Heap) (sz : Nat) (rows : List (List AVal)) (cs : List Value) : Prop where
  len : cs.length = rows.length * sz
  rlen : ∀ r ∈ rows, r.length = sz
  one : ∀ u ∈ cs, u.oneCell' = true
  cell : ∀ (m : Nat) (row : List AVal), rows[m]? = some row → ∀ j, j < sz → ∃ c, cs[m * sz + j]? = some c ∧ Rep w E H (row.getD j .undef) c

theorem mul_lt {m n j sz : Nat} (h : m < n) (hj : j < sz) : m * sz + j < n * sz := by
  have : (m + 1) * sz ≤ n * sz := Nat.mul_le_mul_right _ h
  rw [Nat.add_mul, Nat.one_mul] at this; omega
theorem RowsRep.nil {sz : Nat} : RowsRep w E H sz [] [] := ⟨by simp, fun r hr => by simp at hr, fun u hu => by simp at hu, fun m row hm => by simp at hm⟩
theorem RowsRep.append {sz : Nat} {r1 r2 : List (List AVal)} {c1 c2 : List Value} (h1 : RowsRep w E H sz r1 c1) (h2 : RowsRep w E H sz r2 c2) : RowsRep w E H sz (r1 ++ r2) (c1 ++ c2) := by
  refine ⟨by simp [h1.len, h2.len, Nat.add_mul], fun r hr => ?_, fun u hu => ?_, fun m row hm j hj => ?_⟩
  · rcases List.mem_append.1 hr with h | h
    · exact h1.rlen r h
    · exact h2.rlen r h
  · rcases List.mem_append.1 hu with h | h
    · exact h1.one u h
    · exact h2.one u h
  · rcases Nat.lt_or_ge m r1.length with g | g
    · rw [List.getElem?_append_left g] at hm
      obtain ⟨c, k1, k2⟩ := h1.cell m row hm j hj
      refine ⟨c, ?_, k2⟩
      rw [List.getElem?_append_left (by rw [h1.len]; exact mul_lt g hj)]; exact k1
    · rw [List.getElem?_append_right g] at hm
      obtain ⟨c, k1, k2⟩ := h2.cell (m - r1.length) row hm j hj
      refine ⟨c, ?_, k2⟩
      have e : m * sz = r1.length * sz + (m - r1.length) * sz := by rw [← Nat.add_mul]; congr 1; omega
      rw [List.getElem?_append_right (by rw [h1.len]; omega), h1.len, ← k1]
      congr 1; omega
theorem RowsRep.mono {sz : Nat} {rows : List (List AVal)} {cs : List Value} (hs : Sees w E H w' E' H') (h : RowsRep w E H sz rows cs) : RowsRep w' E' H' sz rows cs :=
  ⟨h.len, h.rlen, h.one, fun m row hm j hj => let ⟨c, k1, k2⟩ := h.cell m row hm j hj; ⟨c, k1, k2.mono hs⟩⟩
theorem RowsRep.cellAt {sz : Nat} {rows : List (List AVal)} {cs : List Value} (hsz : 0 < sz) (h : RowsRep w E H sz rows cs) (j : Nat) (v : AVal) (hv : cellAt sz rows j = some v) : ∃ c, cs[j]? = some c ∧ c.oneCell' = true ∧ Rep w E H v c := by
  have := rows_cellAt (w := w) (E := E) (H := H) (sz := sz) (rows := rows) (ds := cs.toArray) hsz (fun m row hm => ⟨h.rlen row (List.mem_of_getElem? hm), fun j hj => by
    obtain ⟨c, k1, k2⟩ := h.cell m row hm j hj
    exact ⟨c, by simpa using k1, h.one c (List.mem_of_getElem? k1), k2⟩⟩) j v hv
  simpa using this
theorem getD_some {α : Type} {l : List α} {j : Nat} (d : α) (h : j < l.length) : l[j]? = some (l.getD j d) := by
  rw [List.getD_eq_getElem?_getD, List.getElem?_eq_getElem h]; rfl

/-- what lies behind a slice -/
theorem slice_rows (fs : FS w a E H β T B G) {sz : Nat} {x : AVal} {c : Value} {ys : List (List AVal)} (hx : (∃ full n row, x = .list full n row) ∨ (∃ k off len ver clip, x = .own k off len ver clip)) (h : rowsOf sz H x = some (true, ys)) (hr : RepT w E H β x c) :
    ∃ ao cap cs, c = .slice ao ys.length cap ∧ RowsRep w E H sz ys cs ∧ (ys = [] ∨ ∃ ad, ao = some ad ∧ ∀ j u, cs[j]? = some u → w.cell? (ad.add j) = some u) := by
  rcases hx with ⟨full, n, row, rfl⟩ | ⟨k, off, len, ver, clip, rfl⟩
  · simp only [rowsOf, Option.some.injEq, Prod.mk.injEq] at h
    obtain ⟨h1, rfl⟩ := h
    obtain ⟨ao, cap, rfl, hle, _, hc⟩ := rep_list (noTmp_of hr (by simp))
    by_cases hn : n = 0
    · subst hn
      exact ⟨ao, cap, [], by simp, RowsRep.nil, .inl (by simp)⟩
    · obtain ⟨blk, o, sz', cs, rfl, himm, hl, hcell, hrep⟩ := hc hn
      have hz : sz' = sz := by
        rw [← hl 0 (by omega)]
        simp only [Bool.or_eq_true, decide_eq_true_eq, beq_iff_eq] at h1
        rcases h1 with h1 | h1
        · exact h1
        · exact absurd h1 hn
      subst hz
      have key : ∀ q, q < n * sz' → 0 < sz' ∧ q / sz' < n ∧ q % sz' < sz' := fun q hq => by
        have h0 : 0 < sz' := by
          rcases Nat.eq_zero_or_pos sz' with e | e
          · rw [e] at hq; simp at hq
          · exact e
        exact ⟨h0, Nat.div_lt_of_lt_mul (by rw [Nat.mul_comm]; exact hq), Nat.mod_lt _ h0⟩
      refine ⟨_, cap, (List.range (n * sz')).map fun q => cs (q / sz') (q % sz'), by simp, ⟨by simp, ?_, ?_, ?_⟩, .inr ⟨⟨blk, o, none⟩, rfl, ?_⟩⟩
      · intro r hr
        simp only [List.mem_map, List.mem_range] at hr
        obtain ⟨i, hi, rfl⟩ := hr
        exact hl i hi
      · intro u hu
        simp only [List.mem_map, List.mem_range] at hu
        obtain ⟨q, hq, rfl⟩ := hu
        obtain ⟨h0, g1, g2⟩ := key q hq
        exact (hcell _ _ g1 g2).2
      · intro m r hm j hj
        have hmn : m < n := by
          rcases Nat.lt_or_ge m n with g | g
          · exact g
          · rw [List.getElem?_eq_none (by simpa using g)] at hm; simp at hm
        have h0 : 0 < sz' := by omega
        simp only [List.getElem?_map, List.getElem?_range hmn, Option.map_some, Option.some.injEq] at hm
        subst hm
        refine ⟨cs m j, ?_, .pure _ _ (hrep m j hmn hj)⟩
        rw [List.getElem?_map, List.getElem?_range (mul_lt hmn hj), Option.map_some]
        rw [show (m * sz' + j) / sz' = m by rw [Nat.mul_comm, Nat.mul_add_div h0, Nat.div_eq_of_lt hj, Nat.add_zero], show (m * sz' + j) % sz' = j by rw [Nat.mul_comm, Nat.mul_add_mod, Nat.mod_eq_of_lt hj]]
      · intro q u hu
        have hq : q < n * sz' := by
          rcases Nat.lt_or_ge q (n * sz') with g | g
          · exact g
          · rw [List.getElem?_eq_none (by simpa using g)] at hu; simp at hu
        simp only [List.getElem?_map, List.getElem?_range hq, Option.map_some, Option.some.injEq] at hu
        obtain ⟨h0, g1, g2⟩ := key q hq
        rw [addr_add, ← hu, ← (hcell _ _ g1 g2).1]
        congr 2
        rw [Nat.add_assoc, Nat.mul_comm, Nat.div_add_mod]
  · simp only [rowsOf] at h
    split at h
    · rename_i sz' rows v hk
      simp only [Option.some.injEq, Prod.mk.injEq, Bool.and_eq_true, beq_iff_eq, decide_eq_true_eq] at h
      obtain ⟨⟨⟨rfl, rfl⟩, hle⟩, rfl⟩ := h
      obtain ⟨ao, cap, sz2, u, rfl, g1, g2, g3⟩ := rep_own (noTmp_of hr (by simp))
      rw [arr_of_get hk] at g1
      simp only [Option.some.injEq, Prod.mk.injEq] at g1
      obtain ⟨rfl, rfl⟩ := g1
      obtain ⟨s1, s2, s3, s4, s5⟩ := g3 rfl
      obtain ⟨k1, k2, k3, k4⟩ := fs.sim.arr k sz' rows v hk
      have hlen : ((rows.drop off).take len).length = len := by simp; omega
      by_cases h0 : len = 0
      · subst h0
        exact ⟨ao, cap, [], by simp, by simpa using RowsRep.nil, .inl (by simp)⟩
      · have hcap : E.cap k ≠ 0 := by omega
        obtain ⟨ds, ty, fr, b1, b2, b3, b4⟩ := k4 hcap
        have hcm : (off + len) * sz' ≤ E.cap k * sz' := Nat.mul_le_mul_right _ s4
        rw [Nat.add_mul] at hcm
        have cellq : ∀ m j, m < len → j < sz' → ∃ r c, rows[off + m]? = some r ∧ r.length = sz' ∧ ds[off * sz' + (m * sz' + j)]? = some c ∧ c.oneCell' = true ∧ Rep w E H (r.getD j .undef) c := fun m j hm hj => by
          have hlt : off + m < rows.length := by omega
          have hrl := k3 _ (List.getElem_mem hlt)
          obtain ⟨c, c1, c2, c3⟩ := b4 ((off + m) * sz' + j) (rows[off + m].getD j .undef) (by
            show cellAt sz' rows ((off + m) * sz' + j) = _
            unfold Mu.cellAt
            rw [show ((off + m) * sz' + j) / sz' = off + m by rw [Nat.mul_comm, Nat.mul_add_div k1, Nat.div_eq_of_lt hj, Nat.add_zero], show ((off + m) * sz' + j) % sz' = j by rw [Nat.mul_comm, Nat.mul_add_mod, Nat.mod_eq_of_lt hj],
              List.getElem?_eq_getElem hlt]
            exact getD_some _ (by omega))
          exact ⟨_, c, List.getElem?_eq_getElem hlt, hrl, by rw [← c1]; congr 1; rw [Nat.add_mul]; omega, c2, c3⟩
        refine ⟨_, cap, (List.range (len * sz')).map fun q => ds.getD (off * sz' + q) undef, by rw [hlen], ⟨by rw [hlen]; simp, ?_, ?_, ?_⟩, .inr ⟨_, s5 hcap (.inl h0), ?_⟩⟩
        · intro r hr
          exact k3 r (List.mem_of_mem_drop (List.mem_of_mem_take hr))
        · intro u hu
          simp only [List.mem_map, List.mem_range] at hu
          obtain ⟨q, hq, rfl⟩ := hu
          obtain ⟨r, c, e1, e2, e3, e4, e5⟩ := cellq (q / sz') (q % sz') (Nat.div_lt_of_lt_mul (by rw [Nat.mul_comm]; exact hq)) (Nat.mod_lt _ k1)
          rw [show q / sz' * sz' + q % sz' = q by rw [Nat.mul_comm, Nat.div_add_mod]] at e3
          simp [e3, e4]
        · intro m r hm j hj
          have hml : m < len := by
            have := (List.getElem?_eq_some_iff.1 hm).1
            omega
          rw [List.getElem?_take_of_lt hml, List.getElem?_drop] at hm
          obtain ⟨r', c, e1, e2, e3, e4, e5⟩ := cellq m j hml hj
          rw [hm] at e1
          cases Option.some.inj e1
          refine ⟨c, ?_, e5⟩
          rw [List.getElem?_map, List.getElem?_range (mul_lt hml hj), Option.map_some]
          simp [e3]
        · intro q u hu
          have hq : q < len * sz' := by
            rcases Nat.lt_or_ge q (len * sz') with g | g
            · exact g
            · rw [List.getElem?_eq_none (by simpa using g)] at hu; simp at hu
          simp only [List.getElem?_map, List.getElem?_range hq, Option.map_some, Option.some.injEq] at hu
          rw [addr_add, cell?_block b1, ← hu]
          have : off * sz' + q < ds.size := by omega
          simp [this]
    · simp at h

/-- what is appended -/
theorem rows_src (fs : FS w a E H β T B G) {sz : Nat} {tx : TypeId} {x : AVal} {c : Value} {ys : List (List AVal)} (hs : srcOk (P.underlying tx) x = true) (h : rowsOf sz H x = some (true, ys)) (hr : RepT w E H β x c) :
    ∃ news, Src P sz tx c ys.length news w ∧ RowsRep w E H sz ys news := by
  have hsl : ∀ e, P.underlying tx = some (.slice e) → ((∃ full n row, x = .list full n row) ∨ (∃ k off len ver clip, x = .own k off len ver clip)) → ∃ news, Src P sz tx c ys.length news w ∧ RowsRep w E H sz ys news := by
    intro e he hx
    obtain ⟨ao, cap, cs, rfl, hrr, hcell⟩ := slice_rows fs hx h hr
    refine ⟨cs, ?_, hrr⟩
    cases ao with
    | some ad =>
      rcases hcell with rfl | ⟨ad', e', hc⟩
      · have : cs = [] := List.eq_nil_of_length_eq_zero (by rw [hrr.len]; simp)
        subst this
        exact Src.ofSlice w he ad 0 cap [] (by simp) (fun j u hj => by simp at hj) hrr.one
      · cases Option.some.inj e'
        exact Src.ofSlice w he ad _ cap cs hrr.len hc hrr.one
    | none =>
      rcases hcell with rfl | ⟨ad', e', hc⟩
      · have : cs = [] := List.eq_nil_of_length_eq_zero (by rw [hrr.len]; simp)
        subst this
        exact Src.ofNil w he cap
      · cases e'
  unfold srcOk at hs
  split at hs
  · rename_i s hu
    obtain ⟨b, rfl, hb⟩ := repT_str hr
    simp only [rowsOf, Option.some.injEq, Prod.mk.injEq, beq_iff_eq] at h
    obtain ⟨rfl, rfl⟩ := h
    have e : (s.map byteRow).length = b.size := by rw [List.length_map, size_eq, hb]
    refine ⟨byteCells b, e ▸ Src.ofString w hu b, ⟨by rw [byteCells_length, Nat.mul_one, e], fun r hr => ?_, fun u hu => ?_, fun m row hm j hj => ?_⟩⟩
    · obtain ⟨_, _, rfl⟩ := List.mem_map.1 hr; rfl
    · obtain ⟨_, _, rfl⟩ := List.mem_map.1 hu; rfl
    · have hj0 : j = 0 := by omega
      subst hj0
      rw [List.getElem?_map, Option.map_eq_some_iff] at hm
      obtain ⟨y, hy, rfl⟩ := hm
      refine ⟨.int .u8 y.toNat, ?_, .pure _ _ (.int _ _)⟩
      simp only [byteCells, Nat.mul_one, Nat.add_zero, List.getElem?_map, hb, hy, Option.map_some]
  · exact hsl _ (by assumption) (.inl ⟨_, _, _, rfl⟩)
  · exact hsl _ (by assumption) (.inr ⟨_, _, _, _, _, rfl⟩)
  · simp at hs

/-- the arm that grows -/
theorem grow_run {t tx ty e : TypeId} {sz by_ : Nat} (he : elemT P t = some e) (hs : sizeT P e = some sz) (hb : bytesT P e = some by_) (hz : zeroOk P e sz = true) (hb0 : by_ ≠ 0) {base : Option Addr} {len cap : Nat} {olds : List Value}
    (hold : (Builtin.firstCells sz len (.slice base len cap)).run P w.drew = .ok olds.toArray w.drew) (ho : olds.length = len * sz) {x : Value} {n : Nat} {news : List Value} (hsrc : Src P sz tx x n news w) (hg : cap < len + n)
    (hbig : (2 * (len + n) + 1000) * by_ ≤ 281474976710656) :
    ∃ c w' ds, (Builtin.append_ #[t, tx] ty #[.slice base len cap, x]).run P w = .ok (.slice (some ⟨w.heap.size, 0, none⟩) (len + n) c) w' ∧ Pushed w w' ds e (0, 0) ∧ len + n ≤ c ∧ ds.size = c * sz ∧
      ∀ j, j < (len + n) * sz → ds[j]? = (olds ++ news)[j]? := by
  have hu := elemT_some he
  unfold sizeT at hs
  unfold bytesT at hb
  obtain ⟨i, hi, rfl⟩ := Option.map_eq_some_iff.1 hs
  rw [hi] at hb
  simp only [Option.map_some, Option.some.injEq] at hb
  subst hb
  unfold zeroOk at hz
  split at hz
  case h_2 => simp at hz
  rename_i z0 hzz
  simp only [beq_iff_eq] at hz
  unfold zeroT at hzz
  rw [hi] at hzz
  simp only at hzz
  split at hzz
  case h_2 => simp at hzz
  rename_i z hzi
  split at hzz
  case isFalse => simp at hzz
  rename_i hone
  simp only [Option.some.injEq] at hzz
  have hzs : z.cells.size = i.size := by rw [← hz, ← hzz]; simp
  have h1 : 1 ≤ i.bytes := by omega
  have hneed : 2 * (len + n) + 1000 ≤ 281474976710656 := Nat.le_trans (Nat.le_mul_of_pos_right _ h1) hbig
  have hfit : Builtin.nextslicecap (len + n) cap * i.bytes ≤ 281474976710656 := Nat.le_trans (Nat.mul_le_mul_right _ (Nat.le_trans (nextslicecap_le hg) (by omega))) hbig
  have hrun := run_append_grow_src (P := P) w t tx ty e i z hu hi hzi base len cap olds hold x n news hsrc hg (by omega) hfit
  have hge := grownCap_ge w (len + n) cap e
  have hnl := hsrc.newsLen
  have hsize : (olds ++ news).length = (len + n) * i.size := by rw [List.length_append, ho, hnl, Nat.add_mul]
  refine ⟨_, _, _, hrun, ⟨rfl, rfl, rfl, rfl⟩, hge, ?_, fun j hj => ?_⟩
  · rw [Array.size_append, List.size_toArray, hsize]
    have : (Builtin.zeroCells z.cells (grownCap w (len + n) cap e - (len + n))).size = (grownCap w (len + n) cap e - (len + n)) * i.size := by simp [Builtin.zeroCells, hzs]
    rw [this, ← Nat.add_mul]
    congr 1; omega
  · rw [Array.getElem?_append_left (by rw [List.size_toArray, hsize]; exact hj)]
    simp

theorem firstCells_rows {sz : Nat} {ys : List (List AVal)} {ao : Option Addr} {cap : Nat} {cs : List Value} (hrr : RowsRep w E H sz ys cs) (hc : ys = [] ∨ ∃ ad, ao = some ad ∧ ∀ j u, cs[j]? = some u → w.cell? (ad.add j) = some u) :
    (Builtin.firstCells sz ys.length (.slice ao ys.length cap)).run P w.drew = .ok cs.toArray w.drew := by
  have hl := hrr.len
  cases ao with
  | some ad =>
    rcases hc with rfl | ⟨ad', e', hc⟩
    · have : cs = [] := List.eq_nil_of_length_eq_zero (by rw [hl]; simp)
      subst this
      exact run_firstCells_some w.drew sz 0 ad 0 cap [] (by simp) (fun j u hj => by simp at hj)
    · cases Option.some.inj e'
      exact run_firstCells_some w.drew sz _ ad _ cap cs hl (by simpa using hc)
  | none =>
    rcases hc with rfl | ⟨ad', e', hc⟩
    · have : cs = [] := List.eq_nil_of_length_eq_zero (by rw [hl]; simp)
      subst this
      exact run_firstCells_none w.drew sz 0 0 cap
    · cases e'


theorem two_args {α : Type} {xs : Array α} {x y : α} (h : xs.size = 2) (h0 : xs[0]? = some x) (h1 : xs[1]? = some y) : xs = #[x, y] := by
  obtain ⟨l⟩ := xs
  match l, h with
  | [p, q], _ =>
    simp at h0 h1
    subst h0 h1
    rfl
theorem call_append {s x : Operand} {c : Call} (hc : c.callee = .builtin .append) (ha : c.args = #[s, x]) {t u : TypeId} (ht : c.argTypes = #[t, u]) {v : Value} (h : (Builtin.append_ #[t, u] type #[a.eval s, a.eval x]).run P w = .ok v w') :
    (execOp a.eval (mkO dst (.call c) type pos after guard)).run P w = .ok (.value v) w' := by
  simp only [execOp, resolve, hc, ha, ht, Sem.run_bind, Sem.run_pure, Result.andThen_ok, invoke, builtin, List.map_toArray, List.map_cons, List.map_nil, h]
theorem own_shape0 {k b c n sz : Nat} (hn : n ≤ c) : OwnShape (pushEnv E k b c) k 0 n false sz (some ⟨b, 0, none⟩) c :=
  ⟨hn, fun h => by simp at h, fun _ _ => by simp [pushEnv], by simpa [pushEnv] using hn, fun _ _ => by simp [pushEnv]⟩
theorem step_append (fs : FS w a E H β T B G) {c : Call} {t u : TypeId} {s x : Operand} (hv : okTmps G (mkO dst (.call c) type pos after guard)) (hc : c.callee = .builtin .append) (ht : c.argTypes[0]? = some t) (hs : c.args[0]? = some s)
    (hx : c.args[1]? = some x) (hu : c.argTypes[1]? = some u) (h2 : c.args.size = 2 ∧ c.argTypes.size = 2 ∧ srcOk (P.underlying u) (aeval T x) = true) (h : appendA P t B H (aeval T s) (aeval T x) = some r) (hok : r.ok = true) :
    Sound P w a E H β T G (mkO dst (.call c) type pos after guard) r := by
  have ha := two_args h2.1 hs hx
  have hat := two_args h2.2.1 ht hu
  have rs := okTmps_rep fs hv (x := s) (by simp [Op.operands, Call.operands, hc, ha])
  have rx := okTmps_rep fs hv (x := x) (by simp [Op.operands, Call.operands, hc, ha])
  have hsrc := h2.2.2
  generalize aeval T s = sv at *
  generalize aeval T x = xv at *
  unfold appendA at h
  split at h
  case h_1 => simp at h
  rename_i e he
  split at h
  case h_2 => simp at h
  rename_i sz by_ hsz hby
  split at h
  case h_2 => simp at h
  rename_i ok1 ys hys
  split at h
  · simp at h
  rename_i hcond
  have hz0 : 0 < sz := by omega
  have hb0 : by_ ≠ 0 := fun e => hcond (.inr (.inl e))
  have hzo : zeroOk P e sz = true := by
    cases e : zeroOk P _ sz with
    | true => rfl
    | false => exact absurd (.inr (.inr e)) hcond
  have hu' := elemT_some he
  have fit : ok1 = true → ∃ news, Src P sz u (a.eval x) ys.length news w ∧ RowsRep w E H sz ys news := fun e => rows_src fs hsrc (e ▸ hys) rx
  split at h
  · -- a list
    rename_i n row
    simp only [Option.some.injEq] at h
    subst h
    simp only [Bool.and_eq_true, Bool.or_eq_true, decide_eq_true_eq, beq_iff_eq] at hok
    obtain ⟨⟨⟨o1, o2⟩, o3⟩, o4⟩ := hok
    obtain ⟨news, src, hnews⟩ := fit o1
    have hbase : rowsOf sz H (.list true n row) = some (true, (List.range n).map row) := by
      simp only [rowsOf, Option.some.injEq, Prod.mk.injEq, and_true]
      simpa using o2
    obtain ⟨ao, cap, olds, e1, hrr, hcell⟩ := slice_rows fs (.inl ⟨_, _, _, rfl⟩) hbase rs
    obtain ⟨_, cap', e2, hle, hfull, _⟩ := rep_list (noTmp_of rs (by simp))
    rw [e1] at e2
    simp only [List.length_map, List.length_range, Value.slice.injEq] at e1 e2
    obtain ⟨-, -, rfl⟩ := e2
    have hcap := hfull rfl
    rcases Nat.eq_zero_or_pos ys.length with hy | hy
    · have hn : n = 0 := by omega
      subst hn
      subst hcap
      have hye : ys = [] := List.eq_nil_of_length_eq_zero hy
      subst hye
      have hne : news = [] := List.eq_nil_of_length_eq_zero (by rw [hnews.len]; simp)
      subst hne
      obtain ⟨i, hi, rfl⟩ := info_size hsz
      have run := run_append_nothing (P := P) w t u type e i hu' hi ao 0 0 (Nat.le_refl _) (a.eval x) src
      obtain ⟨ev, fs'⟩ := fresh_virtual fs hz0
      simp only [List.range_zero, List.map_nil, List.nil_append, List.length_nil, Nat.add_zero]
      refine ⟨_, _, _, β, ⟨.inl (call_append hc ha hat (by rw [e1]; exact run)), ev, fs', .val _ _ (.own _ _ _ _ _ _ _ i.size 0 (by simp [arrInfo]) (Nat.le_refl _) (fun _ => ?_)), fun _ _ h => .inl h⟩⟩
      exact ⟨Nat.le_refl _, fun h => by simp at h, fun _ _ => by simp [pushEnv], by simp, fun h => by simp [pushEnv] at h⟩
    · have hrl := hrr.len
      have hfc := firstCells_rows (P := P) (cap := cap) hrr hcell
      simp only [List.length_map, List.length_range] at hrl hfc
      obtain ⟨cc, w1, ds, run, hp, hge, hds, hcells⟩ := grow_run (P := P) (w := w) (tx := u) (ty := type) he hsz hby hzo hb0 hfc hrl src (by omega) o4
      have hall := hrr.append hnews
      obtain ⟨ev, fs'⟩ := fresh_obj fs hp (thawed0 _) (obj := .arr sz ((List.range n).map row ++ ys) 0) (c := cc) (fun cs e => by cases e) (fun sz' rows' u e => by
        cases e
        refine ⟨hz0, by simpa using hge, hall.rlen, by omega, fun j v hv => ?_⟩
        obtain ⟨c, k1, k2, k3⟩ := hall.cellAt hz0 j v hv
        have : j < (n + ys.length) * sz := by
          have := (List.getElem?_eq_some_iff.1 k1).1
          rw [hall.len] at this; simpa using this
        exact ⟨c, by rw [hcells j this]; exact k1, k2, k3⟩)
      exact ⟨_, _, _, β, ⟨.inl (call_append hc ha hat (by rw [e1]; exact run)), ev, fs', .val _ _ (.own _ _ _ _ _ _ _ sz 0 (by simp [arrInfo]) (Nat.le_refl _) (fun _ => own_shape0 hge)), fun _ _ h => .inl h⟩⟩
  · -- an array of one's own
    rename_i k off len ver clip
    split at h
    case h_2 => simp at h
    rename_i sz' rows v hk
    split at h
    case isFalse => simp at h
    rename_i hoz
    obtain ⟨rfl, rfl⟩ := hoz
    obtain ⟨k1, k2, k3, k4⟩ := fs.sim.arr k sz' rows v hk
    split at h
    · rename_i hclip
      subst hclip
      simp only [Option.some.injEq] at h
      subst h
      simp only [Bool.and_eq_true, decide_eq_true_eq, beq_iff_eq] at hok
      obtain ⟨⟨⟨⟨o1, rfl⟩, o2⟩, o3⟩, o4⟩ := hok
      obtain ⟨news, src, hnews⟩ := fit o1
      have hbase : rowsOf sz' H (.own k 0 len v true) = some (true, rows.take len) := by
        simp [rowsOf, hk, o2]
      obtain ⟨ao, cap, olds, e1, hrr, hcell⟩ := slice_rows fs (.inr ⟨_, _, _, _, _, rfl⟩) hbase rs
      obtain ⟨_, cap', sz2, u', e2, g1, g2, g3⟩ := rep_own (noTmp_of rs (by simp))
      rw [e1] at e2
      have hll : (rows.take len).length = len := by simp; omega
      rw [hll] at e1 e2
      simp only [Value.slice.injEq] at e2
      obtain ⟨-, -, rfl⟩ := e2
      rw [arr_of_get hk] at g1
      simp only [Option.some.injEq, Prod.mk.injEq] at g1
      obtain ⟨rfl, rfl⟩ := g1
      have hcap := (g3 rfl).2.1 rfl
      have hrl := hrr.len
      have hfc := firstCells_rows (P := P) (cap := cap) hrr hcell
      rw [hll] at hrl hfc
      obtain ⟨cc, w1, ds, run, hp, hge, hds, hcells⟩ := grow_run (P := P) (w := w) (tx := u) (ty := type) he hsz hby hzo hb0 hfc hrl src (by omega) o4
      have hall := hrr.append hnews
      obtain ⟨ev, fs'⟩ := fresh_obj fs hp (thawed0 _) (obj := .arr sz' (rows.take len ++ ys) 0) (c := cc) (fun cs e => by cases e) (fun sz' rows' u e => by
        cases e
        refine ⟨hz0, by rw [List.length_append, hll]; exact hge, hall.rlen, by omega, fun j v hv => ?_⟩
        obtain ⟨c, k1, k2, k3⟩ := hall.cellAt hz0 j v hv
        have : j < (len + ys.length) * sz' := by
          have := (List.getElem?_eq_some_iff.1 k1).1
          rw [hall.len, List.length_append, hll] at this; exact this
        exact ⟨c, by rw [hcells j this]; exact k1, k2, k3⟩)
      exact ⟨_, _, _, β, ⟨.inl (call_append hc ha hat (by rw [e1]; exact run)), ev, fs', .val _ _ (.own _ _ _ _ _ _ _ sz' 0 (by simp [arrInfo]) (Nat.le_refl _) (fun _ => own_shape0 hge)), fun _ _ h => .inl h⟩⟩
    · rename_i hclip
      have hclip : clip = false := by cases clip <;> simp_all
      subst hclip
      simp only [Option.some.injEq] at h
      subst h
      simp only [Bool.and_eq_true, decide_eq_true_eq, beq_iff_eq] at hok
      obtain ⟨⟨⟨o1, rfl⟩, rfl⟩, o4⟩ := hok
      obtain ⟨news, src, hnews⟩ := fit o1
      have hbase : rowsOf sz' H (.own k 0 rows.length v false) = some (true, rows) := by
        simp [rowsOf, hk]
      obtain ⟨ao, cap, olds, e1, hrr, hcell⟩ := slice_rows fs (.inr ⟨_, _, _, _, _, rfl⟩) hbase rs
      obtain ⟨_, cap', sz2, u', e2, g1, g2, g3⟩ := rep_own (noTmp_of rs (by simp))
      rw [e1] at e2
      simp only [Value.slice.injEq] at e2
      obtain ⟨rfl, -, rfl⟩ := e2
      rw [arr_of_get hk] at g1
      simp only [Option.some.injEq, Prod.mk.injEq] at g1
      obtain ⟨rfl, rfl⟩ := g1
      obtain ⟨s1, s2, s3, s4, s5⟩ := g3 rfl
      have hcap := s3 rfl rfl
      have hrl := hrr.len
      have hall := hrr.append hnews
      have hallcell : ∀ (j : Nat) (v : AVal), cellAt sz' (rows ++ ys) j = some v → j < (rows.length + ys.length) * sz' ∧ ∃ c, (olds ++ news)[j]? = some c ∧ c.oneCell' = true ∧ Rep w E H v c := fun j v hv => by
        obtain ⟨c, k1, k2, k3⟩ := hall.cellAt hz0 j v hv
        refine ⟨?_, c, k1, k2, k3⟩
        have := (List.getElem?_eq_some_iff.1 k1).1
        rw [hall.len] at this; simpa using this
      rcases Nat.lt_or_ge cap (rows.length + ys.length) with hg | hg
      · have hfc := firstCells_rows (P := P) (cap := cap) hrr hcell
        obtain ⟨cc, w1, ds, run, hp, hge, hds, hcells⟩ := grow_run (P := P) (w := w) (tx := u) (ty := type) he hsz hby hzo hb0 hfc hrl src hg o4
        obtain ⟨ev, fs'⟩ := move_own fs hk (rows' := rows ++ ys) hp (thawed0 _) (c := cc) (by simpa using hge) hall.rlen (by omega) (fun j v hv => by
          obtain ⟨q, c, c1, c2, c3⟩ := hallcell j v hv
          exact ⟨c, by rw [hcells j q]; exact c1, c2, c3⟩)
        exact ⟨_, _, _, β, ⟨.inl (call_append hc ha hat (by rw [e1]; exact run)), ev, fs', .val _ _ (.own _ _ _ _ _ _ _ sz' (v + 1) (by rw [arrInfo_setArr hk, if_pos rfl]) (Nat.le_refl _) (fun _ => own_shape0 hge)), fun _ _ h => .inl h⟩⟩
      · by_cases h0 : E.cap k = 0
        · have hr0 : rows = [] := List.eq_nil_of_length_eq_zero (by omega)
          have hy0 : ys = [] := List.eq_nil_of_length_eq_zero (by omega)
          subst hr0 hy0
          have hne : news = [] := List.eq_nil_of_length_eq_zero (by rw [hnews.len]; simp)
          subst hne
          obtain ⟨i, hi, rfl⟩ := info_size hsz
          have run := run_append_nothing (P := P) w t u type e i hu' hi ao 0 cap (by omega) (a.eval x) src
          obtain ⟨ev, fs'⟩ := bump_virtual fs hk h0
          simp only [List.nil_append, List.length_nil, Nat.add_zero]
          refine ⟨_, _, _, β, ⟨.inl (call_append hc ha hat (by rw [e1]; exact run)), ev, fs', .val _ _ (.own _ _ _ _ _ _ _ i.size (v + 1) (by rw [arrInfo_setArr hk, if_pos rfl]) (Nat.le_refl _) (fun _ => ?_)), fun _ _ h => .inl h⟩⟩
          exact ⟨by omega, fun h => by simp at h, fun _ _ => hcap, by omega, fun h => absurd h0 h⟩
        · have hao := s5 h0 (.inr ⟨rfl, rfl⟩)
          simp only [Nat.zero_mul] at hao
          subst hao
          have kb := k4 h0
          have hle2 : (rows.length + ys.length) * sz' ≤ E.cap k * sz' := Nat.mul_le_mul_right _ (by omega)
          rw [Nat.add_mul] at hle2
          have hnl := hnews.len
          obtain ⟨i, hi, rfl⟩ := info_size hsz
          have run := run_append_room_src (P := P) w t u type e i hu' hi (E.φ k) 0 rows.length cap (a.eval x) ys.length news src hg
            (fun j hj => (kb.some (j := 0 + rows.length * i.size + j) (by omega)).1) (fun j hj => (kb.some (j := 0 + rows.length * i.size + j) (by omega)).2)
          simp only [Nat.zero_add] at run
          obtain ⟨ev, fs'⟩ := bump_own fs hk (rows' := rows ++ ys) (off := rows.length * i.size) (vs := news) h0 (by simp; omega) hall.rlen (by omega) hnews.one
            (fun j v h1 h2 hv => by
              obtain ⟨q, c, c1, c2, c3⟩ := hallcell j v hv
              rw [List.getElem?_append_right (by omega), hrl] at c1
              rw [List.getD_eq_getElem?_getD, c1]; exact c3)
            (fun j v hn hv => by
              obtain ⟨q, _⟩ := hallcell j v hv
              rw [Nat.add_mul] at q
              have hj : j < rows.length * i.size := by omega
              unfold Mu.cellAt at hv ⊢
              rwa [List.getElem?_append_left (Nat.div_lt_of_lt_mul (by rw [Nat.mul_comm]; exact hj))] at hv)
          refine ⟨_, _, _, β, ⟨.inl (call_append hc ha hat (by rw [e1]; exact run)), ev, fs', .val _ _ (.own _ _ _ _ _ _ _ i.size (v + 1) (by rw [arrInfo_setArr hk, if_pos rfl]) (Nat.le_refl _) (fun _ => ?_)), fun _ _ h => .inl h⟩⟩
          exact ⟨hg, fun h => by simp at h, fun _ _ => hcap, by omega, fun _ _ => by simp⟩
  · simp at h
end Go.Mu
