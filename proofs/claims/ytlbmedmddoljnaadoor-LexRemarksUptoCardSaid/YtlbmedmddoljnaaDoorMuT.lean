/-
  Mu: plain data as trees; what a row's arguments stand for.
-/
import Derived.Test.YtlbmedmddoljnaaDoorMuLoop
import Derived.RowKit
set_option linter.unusedVariables false
set_option linter.unusedSimpArgs false
namespace Go.Mu
open Go
variable {P : Program} {w : World}

/-- plain data -/
inductive T where
  | b (x : Bool)
  | i (k : IntKind) (n : Int)
  | s (x : List UInt8)
  | l (full : Bool) (es : List T)
  | r (fs : List T)
instance : Inhabited T := ⟨.r []⟩
mutual
def T.enc : T → List AVal
  | .b x => [.bool x]
  | .i k n => [.int k n]
  | .s x => [.str x]
  | .l full es => [.list full es.length (T.encAt es)]
  | .r fs => T.encAll fs
def T.encAt : List T → Nat → List AVal
  | [], _ => []
  | t :: _, 0 => t.enc
  | _ :: ts, j + 1 => T.encAt ts j
def T.encAll : List T → List AVal
  | [] => []
  | t :: ts => t.enc ++ T.encAll ts
end
theorem T.encAt_get : ∀ (es : List T) (j : Nat) (x : T), es[j]? = some x → T.encAt es j = x.enc
  | [], j, x, h => by simp at h
  | t :: ts, 0, x, h => by simp at h; subst h; simp [T.encAt]
  | t :: ts, j + 1, x, h => by
    simp only [T.encAt]
    exact T.encAt_get ts j x (by simpa using h)
theorem T.encAt_none : ∀ (es : List T) (j : Nat), es.length ≤ j → T.encAt es j = []
  | [], j, h => by simp [T.encAt]
  | t :: ts, 0, h => by simp at h
  | t :: ts, j + 1, h => by
    simp only [T.encAt]
    exact T.encAt_none ts j (by simpa using h)
theorem T.encAll_eq : ∀ es : List T, T.encAll es = es.flatMap T.enc
  | [] => by simp [T.encAll]
  | t :: ts => by simp [T.encAll, T.encAll_eq ts]
mutual
def tOf {H : Type} : DataW H → T
  | .lit (.bool x) => .b x
  | .lit (.int k n) => .i k n
  | .lit (.string x) => .s x
  | .nil => .l true []
  | .slice es sp => .l sp.isEmpty (tOfs es)
  | .agg ps => .r (tOfs ps)
  | _ => .r []
def tOfs {H : Type} : List (DataW H) → List T
  | [] => []
  | d :: ds => tOf d :: tOfs ds
end
theorem tOfs_map {H : Type} : ∀ ds : List (DataW H), tOfs ds = ds.map tOf
  | [] => by simp [tOfs]
  | d :: ds => by simp [tOfs, tOfs_map ds]
inductive HasT (P : Program) : TypeId → T → Prop
  | b {t x} : P.underlying t = some .bool → HasT P t (.b x)
  | i {t k n} : P.underlying t = some (.int k) → (Lit.int k n).wf = true → HasT P t (.i k n)
  | s {t x} : P.underlying t = some .string → HasT P t (.s x)
  | l {t e full es} : P.underlying t = some (.slice e) → (∀ x ∈ es, HasT P e x) → HasT P t (.l full es)
  | r {t fs parts} : P.underlying t = some (.struct fs) → parts.length = fs.size → (∀ (j : Nat) (f : Field) (x : T), fs.toList[j]? = some f → parts[j]? = some x → HasT P f.type x) → HasT P t (.r parts)

section
variable {H : Type} {enc : TypeId × Value → H} {base : Nat} {held : Bool} {ts : List TypeId}

theorem fields_t {fuel : Nat} (ih : ∀ t cs d ps, ts.contains t = true → DataW.trod enc P w base (fun _ => true) held fuel t cs = some (d, ps) → (CellsP w (tOf d).enc cs ∧ HasT P t (tOf d))) (cs : List Value) : ∀ (fs : List Field) (o : Nat) (xs : List (DataW H × List MemPlace)) (total : Nat),
    tile P o fs = some total → cs.length = total → fs.all (fun f => ts.contains f.type) = true → o ≤ total → fs.mapM (fun f => DataW.trod enc P w base (fun _ => true) held fuel f.type ((cs.drop f.offset).take (P.cellsOf f.type))) = some xs →
    (CellsP w (T.encAll (tOfs (xs.map (·.1)))) (cs.drop o) ∧ xs.length = fs.length ∧ ∀ (j : Nat) (f : Field) (x : DataW H × List MemPlace), fs[j]? = some f → xs[j]? = some x → HasT P f.type (tOf x.1))
  | [], o, xs, total, ht, hl, _, ho, hm => by
    simp only [tile, Option.some.injEq] at ht
    subst ht
    rw [List.drop_eq_nil_iff.2 (by omega)]
    have hxs : xs = [] := by simpa using hm
    subst hxs
    exact ⟨⟨by simp [tOfs, T.encAll], fun j hj => by simp at hj⟩, rfl, fun j f x hf => by simp at hf⟩
  | f :: fs, o, xs, total, ht, hl, hall, ho, hm => by
    simp only [tile] at ht
    split at ht
    case isFalse => simp at ht
    rename_i hoff
    have hle : ∀ (fs : List Field) (o total : Nat), tile P o fs = some total → o ≤ total := by
      intro fs
      induction fs with
      | nil => intro o total h; simp [tile] at h; omega
      | cons f fs ihf =>
        intro o total h
        simp only [tile] at h
        split at h
        · have := ihf _ _ h; omega
        · simp at h
    have hle' := hle _ _ _ ht
    simp only [List.all_cons, Bool.and_eq_true] at hall
    rw [List.mapM_cons] at hm
    cases hx : DataW.trod enc P w base (fun _ => true) held fuel f.type ((cs.drop f.offset).take (P.cellsOf f.type)) with
    | none => rw [hx] at hm; simp at hm
    | some x =>
      cases hxs : fs.mapM (fun f => DataW.trod enc P w base (fun _ => true) held fuel f.type ((cs.drop f.offset).take (P.cellsOf f.type))) with
      | none => rw [hx, hxs] at hm; simp at hm
      | some ys =>
        rw [hx, hxs] at hm
        simp at hm
        subst hm
        have h1 := ih f.type _ x.1 x.2 hall.1 hx
        have h2 := fields_t ih cs fs (o + P.cellsOf f.type) ys total ht hl hall.2 hle' hxs
        have e : cs.drop o = (cs.drop o).take (P.cellsOf f.type) ++ cs.drop (o + P.cellsOf f.type) := by
          rw [← List.drop_drop, List.take_append_drop]
        rw [hoff] at h1
        rw [e]
        refine ⟨by simpa [tOfs, T.encAll] using h1.1.append h2.1, by simp [h2.2.1], fun j g y hg hy => ?_⟩
        cases j with
        | zero =>
          simp at hg hy
          subst hg hy
          exact h1.2
        | succ j => exact h2.2.2 j g y (by simpa using hg) (by simpa using hy)

theorem trod_t (hc : closedOk P ts = true) : ∀ (fuel : Nat) (t : TypeId) (cs : List Value) (d : DataW H) (ps : List MemPlace), ts.contains t = true → DataW.trod enc P w base (fun _ => true) held fuel t cs = some (d, ps) → (CellsP w (tOf d).enc cs ∧ HasT P t (tOf d)) := by
  intro fuel
  induction fuel with
  | zero => intro t cs d ps _ h; simp [DataW.trod] at h
  | succ fuel ih =>
    intro t cs d ps ht h
    unfold closedOk at hc
    have hct := List.all_eq_true.1 hc t (by simpa using ht)
    unfold DataW.trod at h
    cases hu : P.underlying t with
    | none => rw [hu] at hct; simp at hct
    | some desc =>
      rw [hu] at hct h
      cases desc <;> simp only [Bool.false_eq_true] at hct
      case bool =>
        rcases cs with _ | ⟨c, _ | ⟨c', cs⟩⟩ <;> try (simp at h; done)
        cases c <;> simp at h
        obtain ⟨rfl, rfl⟩ := h
        simp only [tOf, T.enc]
        exact ⟨.one (.bool _) rfl, .b hu⟩
      case int k =>
        rcases cs with _ | ⟨c, _ | ⟨c', cs⟩⟩ <;> try (simp at h; done)
        cases c <;> simp at h
        obtain ⟨⟨rfl, hwf⟩, rfl, rfl⟩ := h
        simp only [tOf, T.enc]
        exact ⟨.one (.int _ _) rfl, .i hu hwf⟩
      case string =>
        rcases cs with _ | ⟨c, _ | ⟨c', cs⟩⟩ <;> try (simp at h; done)
        cases c <;> simp at h
        obtain ⟨_, rfl, rfl⟩ := h
        simp only [tOf, T.enc]
        exact ⟨.one (.str _) rfl, .s hu⟩
      case struct fs =>
        simp only [Bool.and_eq_true, beq_iff_eq] at hct
        simp only at h
        split at h
        case isFalse => simp at h
        rename_i hlen
        rw [Option.map_eq_some_iff] at h
        obtain ⟨xs, hxs, he⟩ := h
        simp only [Prod.mk.injEq] at he
        obtain ⟨rfl, _⟩ := he
        have := fields_t ih cs fs.toList 0 xs _ hct.1 hlen hct.2 (Nat.zero_le _) hxs
        simp only [tOf, T.enc]
        refine ⟨by simpa using this.1, .r hu (by rw [tOfs_map]; simpa using this.2.1) (fun j f x hf hx => ?_)⟩
        rw [tOfs_map, List.getElem?_map, Option.map_eq_some_iff] at hx
        obtain ⟨y, hy, rfl⟩ := hx
        rw [List.getElem?_map, Option.map_eq_some_iff] at hy
        obtain ⟨z, hz, rfl⟩ := hy
        exact this.2.2 j f z hf hz
      case slice e =>
        simp only [Bool.and_eq_true, decide_eq_true_eq] at hct
        rcases cs with _ | ⟨c, _ | ⟨c', cs⟩⟩ <;> try (simp at h; done)
        cases c <;> try (simp at h; done)
        rename_i ao len cap
        cases ao with
        | none =>
          rcases len with _ | len <;> rcases cap with _ | cap <;> simp at h
          obtain ⟨rfl, rfl⟩ := h
          simp only [tOf, T.enc]
          exact ⟨.one (.list0 _ _ _ _ (fun _ => rfl)) rfl, .l hu (fun x hx => by simp at hx)⟩
        | some ad =>
          simp only [if_true] at h
          split at h
          case isFalse => simp at h
          rename_i hcond
          rw [Option.bind_eq_some_iff] at h
          obtain ⟨elems, hel, h⟩ := h
          rw [Option.map_eq_some_iff] at h
          obtain ⟨rest, hrest, he⟩ := h
          simp only [Prod.mk.injEq] at he
          obtain ⟨rfl, _⟩ := he
          obtain ⟨m1, m2⟩ := mapM_some hel
          obtain ⟨r1, _⟩ := mapM_some hrest
          simp only [List.length_range] at m1 r1
          simp only [tOf, T.enc]
          have hfull : (rest.map (·.1)).isEmpty = true → cap = len := fun hh => by
            have : rest = [] := by simpa using hh
            rw [this] at r1; simp at r1; omega
          rw [tOfs_map, show ((elems.map (·.1)).map tOf).length = len by simp [m1]]
          have hsz := hct.2
          have elemq : ∀ i, i < len → ∃ x csi, elems[i]? = some x ∧ w.cells? base (ad.add (i * P.cellsOf e)) (P.cellsOf e) = some csi ∧ (CellsP w (tOf x.1).enc csi ∧ HasT P e (tOf x.1)) := fun i hi => by
            obtain ⟨x, g1, g2⟩ := m2 i i (by simp [hi])
            rw [Option.bind_eq_some_iff] at g2
            obtain ⟨csi, g3, g4⟩ := g2
            exact ⟨x, csi, g1, g3, ih e csi x.1 x.2 hct.1 g4⟩
          have arow : ∀ i x, elems[i]? = some x → T.encAt ((elems.map (·.1)).map tOf) i = (tOf x.1).enc := fun i x hx =>
            T.encAt_get _ _ _ (by rw [List.getElem?_map, List.getElem?_map, hx]; rfl)
          refine ⟨.one ?_ rfl, .l hu (fun y hy => ?_)⟩
          rotate_left
          · rw [List.mem_iff_getElem?] at hy
            obtain ⟨i, hi⟩ := hy
            have hlt : i < len := by
              have := (List.getElem?_eq_some_iff.1 hi).1
              simp [m1] at this; exact this
            obtain ⟨x, csi, g1, g2, g3⟩ := elemq i hlt
            rw [List.getElem?_map, List.getElem?_map, g1] at hi
            simp at hi
            rw [← hi]; exact g3.2
          rcases Nat.eq_zero_or_pos len with h0 | h0
          · subst h0
            exact .list0 _ _ _ _ (fun hh => hfull hh)
          · have hspot : ad.spot = none := by
              obtain ⟨x, csi, g1, g2, g3⟩ := elemq 0 h0
              obtain ⟨_, q2, q3⟩ := World.cells?_some g2
              have hc0 := q3 0 hsz
              rw [List.getElem?_eq_getElem (by omega)] at hc0
              have := World.cell?_spot hc0
              simpa [Addr.add] using this
            obtain ⟨b, off, spot⟩ := ad
            simp only at hspot
            subst hspot
            have hb : b < w.heap.size := by
              obtain ⟨x, csi, g1, g2, g3⟩ := elemq 0 h0
              have := World.cells?_block g2 hsz
              simpa [Addr.add] using this
            refine .list _ len _ b off cap (P.cellsOf e) (fun i j => (w.cell? ⟨b, off + i * P.cellsOf e + j, none⟩).getD undef) hcond.2.1 hfull hb (fun i hi => ?_) (fun i j hi hj => ?_) (fun i j hi hj => ?_)
            · obtain ⟨x, csi, g1, g2, g3⟩ := elemq i hi
              rw [arow i x g1, g3.1.1]; exact (World.cells?_some g2).2.1
            · obtain ⟨x, csi, g1, g2, g3⟩ := elemq i hi
              obtain ⟨_, q2, q3⟩ := World.cells?_some g2
              have := q3 j hj
              rw [addr_add, addr_add] at this
              have hjl : j < csi.length := by omega
              rw [List.getElem?_eq_getElem hjl] at this
              rw [this]
              have := (g3.1.2 j hjl).1
              rw [List.getD_eq_getElem?_getD, List.getElem?_eq_getElem hjl] at this
              exact ⟨rfl, this⟩
            · obtain ⟨x, csi, g1, g2, g3⟩ := elemq i hi
              obtain ⟨_, q2, q3⟩ := World.cells?_some g2
              have := q3 j hj
              rw [addr_add, addr_add] at this
              have hjl : j < csi.length := by omega
              rw [List.getElem?_eq_getElem hjl] at this
              rw [this, arow i x g1]
              have := (g3.1.2 j hjl).2
              rw [List.getD_eq_getElem?_getD (l := csi), List.getElem?_eq_getElem hjl] at this
              exact this
end

/- sizes -/
mutual
def T.size : T → Nat
  | .b _ => 1
  | .i _ _ => 1
  | .s x => x.length + 1
  | .l _ es => T.sizes es + 1
  | .r fs => T.sizes fs + 1
def T.sizes : List T → Nat
  | [] => 0
  | t :: ts => t.size + T.sizes ts
end
theorem T.size_pos (t : T) : 1 ≤ t.size := by cases t <;> simp [T.size]
theorem T.size_mem : ∀ (ts : List T) (t : T), t ∈ ts → t.size ≤ T.sizes ts
  | [], t, h => by simp at h
  | x :: ts, t, h => by
    simp only [T.sizes]
    rcases List.mem_cons.1 h with rfl | h
    · omega
    · have := T.size_mem ts t h; omega
theorem T.length_sizes : ∀ ts : List T, ts.length ≤ T.sizes ts
  | [] => by simp
  | x :: ts => by
    have := T.length_sizes ts
    have := x.size_pos
    simp only [T.sizes, List.length_cons]; omega

/- arguments -/
def argT (x : T) : AVal := match x with
  | .r fs => .agg (T.encAll fs)
  | x => x.enc.getD 0 .undef
theorem okWide_cells {W : World} {base : Nat} {t : TypeId} {v : Value} (hs : ∀ fs, P.underlying t ≠ some (.struct fs)) (ha : ∀ n e, P.underlying t ≠ some (.array n e)) (hi : ∀ ms, P.underlying t ≠ some (.interface ms)) (h : Value.okWide P W .any base t v) : v.cells = #[v] := by
  cases v <;> try rfl
  rename_i cs
  unfold Value.okWide at h
  split at h
  · rename_i fs e; exact absurd e (hs fs)
  · rename_i n e' e; exact absurd e (ha n e')
  · exfalso
    unfold Cell.okWide at h
    split at h <;> first | (rename_i e; cases e; done) | skip
    all_goals (unfold Cell.ok at h; split at h <;> simp_all)
theorem arg_t {H : Type} {enc : TypeId × Value → H} {W : World} {ts : List TypeId} (hc : closedOk P ts = true) {base : Nat} {t : TypeId} {v : Value} {d : DataW H} {ps : List MemPlace} (ht : ts.contains t = true) (hv : Value.okWide P W .any base t v) (h : DataW.Trod enc P W 0 (fun _ => true) true t v d ps) :
    RepP W (oldB W) (argT (tOf d)) v ∧ HasT P t (tOf d) := by
  obtain ⟨n, hn⟩ := h
  obtain ⟨h1, h2⟩ := trod_t hc n t _ d ps ht hn
  refine ⟨?_, h2⟩
  have one : ∀ x, v.cells = #[v] → CellsP W [x] v.cells.toList → RepP W (oldB W) x v := fun x e k => by
    rw [e] at k
    exact (k.2 0 (by simp)).2
  generalize tOf d = x at h1 h2 ⊢
  cases h2 with
  | b hu => exact one _ (okWide_cells (by simp [hu]) (by simp [hu]) (by simp [hu]) hv) h1
  | i hu hw => exact one _ (okWide_cells (by simp [hu]) (by simp [hu]) (by simp [hu]) hv) h1
  | s hu => exact one _ (okWide_cells (by simp [hu]) (by simp [hu]) (by simp [hu]) hv) h1
  | l hu he' => exact one _ (okWide_cells (by simp [hu]) (by simp [hu]) (by simp [hu]) hv) (by simpa [T.enc, argT] using h1)
  | r hu hl hr =>
    unfold Value.okWide at hv
    rw [hu] at hv
    obtain ⟨cs, rfl, _, _⟩ := hv
    simp only [T.enc, Value.cells] at h1
    have := RepP.agg (w := W) (imm := oldB W) (T.encAll _) cs.toList h1.1 (fun j hj => (h1.2 j (by rw [← h1.1]; exact hj)).1) (fun j hj => (h1.2 j (by rw [← h1.1]; exact hj)).2)
    simpa [argT] using this

inductive HasTs (P : Program) : List TypeId → List T → Prop
  | nil : HasTs P [] []
  | cons {t x ts xs} : HasT P t x → HasTs P ts xs → HasTs P (t :: ts) (x :: xs)
theorem args_t {H : Type} {enc : TypeId × Value → H} {W : World} {ts : List TypeId} (hc : closedOk P ts = true) {base : Nat} : ∀ (tl : List TypeId) (vs : List Value) (ds : List (DataW H)) (ps : List MemPlace), tl.all (fun t => ts.contains t) = true →
    (∀ (j : Nat) t v, tl[j]? = some t → vs[j]? = some v → Value.okWide P W .any base t v) → DataW.TrodAll enc P W 0 (fun _ => true) true tl vs ds ps → RepL W (oldE W) [] ((tOfs ds).map argT) vs ∧ HasTs P tl (tOfs ds)
  | [], [], [], ps, _, _, h => ⟨⟨rfl, fun j hj => by simp [tOfs] at hj⟩, .nil⟩
  | t :: tl, v :: vs, d :: ds, ps, ht, hv, ⟨p, q, h1, h2, e⟩ => by
    simp only [List.all_cons, Bool.and_eq_true] at ht
    obtain ⟨g1, g2⟩ := arg_t hc ht.1 (hv 0 t v rfl rfl) h1
    obtain ⟨k1, k2⟩ := args_t hc tl vs ds q ht.2 (fun j t v a b => hv (j + 1) t v (by simpa using a) (by simpa using b)) h2
    simp only [tOfs]
    refine ⟨⟨by simp [k1.1], fun j hj => ?_⟩, .cons g2 k2⟩
    cases j with
    | zero => exact .pure _ _ g1
    | succ j =>
      have := k1.2 j (by simpa using hj)
      simpa using this
  | [], _ :: _, _, _, _, _, h => h.elim
  | [], [], _ :: _, _, _, _, h => h.elim
  | _ :: _, [], _, _, _, _, h => h.elim
  | _ :: _, _ :: _, [], _, _, _, h => h.elim

theorem trodAll_len {H : Type} {enc : TypeId × Value → H} {W : World} {sp : Nat → Bool} {held : Bool} : ∀ (tl : List TypeId) (vs : List Value) (ds : List (DataW H)) (ps : List MemPlace), DataW.TrodAll enc P W 0 sp held tl vs ds ps → ds.length = tl.length
  | [], [], [], ps, _ => rfl
  | t :: tl, v :: vs, d :: ds, ps, ⟨p, q, h1, h2, e⟩ => by simp [trodAll_len tl vs ds q h2]
  | [], _ :: _, _, _, h => h.elim
  | [], [], _ :: _, _, h => h.elim
  | _ :: _, [], _, _, h => h.elim
  | _ :: _, _ :: _, [], _, h => h.elim
/-- a row that says: true, and the arguments read as they did: from what its call tells of plain data -/
theorem row_true {H : Type} {enc : TypeId × Value → H} {W : World} {ts : List TypeId} (hc : closedOk P ts = true) {f : FuncId} {fn : Func} {s : ChangeSpec} {apart fresh handsOn again : Bool} {args : Array Value} {ds gs : List (DataW H)} {before : List MemPlace} {tb : TypeId} {base : Nat}
    (hg : GlobOK W (oldB W)) (hpar : fn.params.toList.all (fun t => ts.contains t) = true) (hvars : s.vars = []) (hrt : fn.resultTypes = #[tb]) (hub : P.underlying tb = some .bool)
    (hval : ∀ (j : Nat) t v, fn.params[j]? = some t → args[j]? = some v → Value.okWide P W .any base t v)
    (hW : DataW.Whole enc P fn.params.toList s.vars apart W args.toList ds gs before) (hfn : ∀ d : List (DataW H), d = ds → gs = [] → d.length = fn.params.toList.length → (s.fn H (d ++ [])).results = [.lit (.bool true)] ∧ (s.fn H (d ++ [])).args = d ∧ (s.fn H (d ++ [])).vars = [])
    (hcall : HasTs P fn.params.toList (tOfs ds) → ∃ Hn, CallOK P f ((tOfs ds).map argT) [] (.ret (.bool true) Hn)) :
    Calls P f args W fun e W' => ∃ v, e = .returned v ∧ s.post enc P fn apart fresh handsOn again W args v W' := by
  have hW' := hW
  obtain ⟨p, q, hA, hV, rfl, hfz, hnd⟩ := hW
  obtain ⟨h1, h2⟩ := args_t hc _ _ ds p hpar (fun j t v a b => hval j t v (by simpa using a) (by simpa using b)) hA
  obtain ⟨Hn, hok⟩ := hcall h2
  have := hok W (oldE W) args.toList (sim_nil (fun b hb => hb) hg _ _) h1.1 h1.2
  rw [Array.toArray_toList] at this
  refine this.mono (fun e W' hp => ?_)
  cases e with
  | returned c =>
    obtain ⟨E', ev, _, hrep⟩ := hp
    have e1 := rep_bool hrep
    subst e1
    exact ⟨_, rfl, true_post hc hpar hvars hrt hub hW' (fun d a b => hfn d a b (by rw [a]; exact (trodAll_len _ _ _ _ hA))) (Go.RowKit.ok_one hrt rfl (Go.RowKit.okWide_bool_mk hub _)) (fun b hb => ev.kept b hb (fun h => h) (fun k hk => absurd hk live_nil)) ev.os ev.output⟩
  | panicked _ => exact hp.elim
  | outgrown => exact hp.elim

theorem HasT.slice_inv {t e : TypeId} {x : T} (h : HasT P t x) (hu : P.underlying t = some (.slice e)) : ∃ full es, x = .l full es ∧ ∀ y ∈ es, HasT P e y := by
  cases h with
  | l h1 h2 => rw [hu] at h1; cases h1; exact ⟨_, _, rfl, h2⟩
  | b h1 | i h1 | s h1 | r h1 => rw [hu] at h1; cases h1
theorem HasT.str_inv {t : TypeId} {x : T} (h : HasT P t x) (hu : P.underlying t = some .string) : ∃ s, x = .s s := by
  cases h with
  | s h1 => exact ⟨_, rfl⟩
  | b h1 | i h1 | l h1 | r h1 => rw [hu] at h1; cases h1
theorem HasT.int_inv {t : TypeId} {k : IntKind} {x : T} (h : HasT P t x) (hu : P.underlying t = some (.int k)) : ∃ n, x = .i k n ∧ (Lit.int k n).wf = true := by
  cases h with
  | i h1 h2 => rw [hu] at h1; cases h1; exact ⟨_, rfl, h2⟩
  | b h1 | s h1 | l h1 | r h1 => rw [hu] at h1; cases h1
theorem HasT.bool_inv {t : TypeId} {x : T} (h : HasT P t x) (hu : P.underlying t = some .bool) : ∃ b, x = .b b := by
  cases h with
  | b h1 => exact ⟨_, rfl⟩
  | i h1 | s h1 | l h1 | r h1 => rw [hu] at h1; cases h1
theorem HasTs.of_list : ∀ (fs : List Field) (parts : List T), parts.length = fs.length → (∀ (j : Nat) (f : Field) (x : T), fs[j]? = some f → parts[j]? = some x → HasT P f.type x) → HasTs P (fs.map (·.type)) parts
  | [], [], _, _ => .nil
  | f :: fs, x :: parts, hl, h => .cons (h 0 f x rfl rfl) (HasTs.of_list fs parts (by simpa using hl) (fun j g y hg hy => h (j + 1) g y (by simpa using hg) (by simpa using hy)))
  | [], _ :: _, hl, _ => by simp at hl
  | _ :: _, [], hl, _ => by simp at hl
theorem HasT.struct_inv {t : TypeId} {fs : Array Field} {x : T} (h : HasT P t x) (hu : P.underlying t = some (.struct fs)) : ∃ parts, x = .r parts ∧ HasTs P (fs.toList.map (·.type)) parts := by
  cases h with
  | r h1 h2 h3 => rw [hu] at h1; cases h1; exact ⟨_, rfl, HasTs.of_list _ _ (by simpa using h2) h3⟩
  | b h1 | i h1 | s h1 | l h1 => rw [hu] at h1; cases h1
theorem HasTs.cons_inv {t : TypeId} {ts : List TypeId} {xs : List T} (h : HasTs P (t :: ts) xs) : ∃ x xs', xs = x :: xs' ∧ HasT P t x ∧ HasTs P ts xs' := by
  cases h with
  | cons h1 h2 => exact ⟨_, _, rfl, h1, h2⟩
theorem HasTs.nil_inv {xs : List T} (h : HasTs P [] xs) : xs = [] := by cases h; rfl
end Go.Mu
