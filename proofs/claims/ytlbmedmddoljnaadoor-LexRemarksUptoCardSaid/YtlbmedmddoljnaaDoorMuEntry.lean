/-
  Mu: what a row's arguments stand for.
-/
import Derived.Test.YtlbmedmddoljnaaDoorMuDraw
import Derived.DataReads
import Derived.ChangeOld
set_option linter.unusedVariables false
set_option linter.unusedSimpArgs false
namespace Go.Mu
open Go
variable {P : Program} {w : World}

noncomputable def aOf {H : Type} (P : Program) : Nat → TypeId → DataW H → List AVal
  | 0, _, _ => []
  | f + 1, t, d => match P.underlying t, d with
    | _, .lit (.bool b) => [.bool b]
    | _, .lit (.int k n) => [.int k n]
    | _, .lit (.string s) => [.str s]
    | some (.slice e), .nil => [nilList]
    | some (.slice e), .slice elems spare => [.list spare.isEmpty elems.length (fun i => aOf P f e (elems.getD i .nil))]
    | some (.struct fs), .agg parts => (fs.toList.zip parts).flatMap (fun x => aOf P f x.1.type x.2)
    | _, _ => []

def tile (P : Program) : Nat → List Field → Option Nat
  | o, [] => some o
  | o, f :: fs => if f.offset = o then tile P (o + P.cellsOf f.type) fs else none
def closedOk (P : Program) (ts : List TypeId) : Bool :=
  ts.all fun t => match P.underlying t with
    | some .bool => true
    | some (.int _) => true
    | some .string => true
    | some (.slice e) => ts.contains e && decide (0 < P.cellsOf e)
    | some (.struct fs) => tile P 0 fs.toList == some (P.cellsOf t) && fs.toList.all (fun f => ts.contains f.type)
    | _ => false

def oldB (w : World) (b : Nat) : Prop := b < w.heap.size
def CellsP (w : World) (A : List AVal) (cs : List Value) : Prop := A.length = cs.length ∧ ∀ j, j < cs.length → (cs.getD j undef).oneCell' = true ∧ RepP w (oldB w) (A.getD j .undef) (cs.getD j undef)
theorem CellsP.one {v : AVal} {c : Value} (h : RepP w (oldB w) v c) (h1 : c.oneCell' = true) : CellsP w [v] [c] := ⟨rfl, fun j hj => by
  have : j = 0 := by simp at hj; omega
  subst this
  exact ⟨h1, h⟩⟩
theorem CellsP.append {A B : List AVal} {cs ds : List Value} (h : CellsP w A cs) (g : CellsP w B ds) : CellsP w (A ++ B) (cs ++ ds) := by
  refine ⟨by simp [h.1, g.1], fun j hj => ?_⟩
  simp only [List.getD_eq_getElem?_getD]
  rcases Nat.lt_or_ge j cs.length with k | k
  · rw [List.getElem?_append_left k, List.getElem?_append_left (by rw [h.1]; exact k)]
    have := h.2 j k
    simpa [List.getD_eq_getElem?_getD] using this
  · rw [List.getElem?_append_right k, List.getElem?_append_right (by rw [h.1]; exact k), h.1]
    have := g.2 (j - cs.length) (by simp at hj; omega)
    simpa [List.getD_eq_getElem?_getD] using this

section
variable {H : Type} {enc : TypeId × Value → H} {base : Nat} {held : Bool} {ts : List TypeId}

theorem fields_rep {fuel : Nat} (ih : ∀ t cs d ps, ts.contains t = true → DataW.trod enc P w base (fun _ => true) held fuel t cs = some (d, ps) → CellsP w (aOf P fuel t d) cs) (cs : List Value) : ∀ (fs : List Field) (o : Nat) (xs : List (DataW H × List MemPlace)) (total : Nat),
    tile P o fs = some total → cs.length = total → fs.all (fun f => ts.contains f.type) = true → o ≤ total → fs.mapM (fun f => DataW.trod enc P w base (fun _ => true) held fuel f.type ((cs.drop f.offset).take (P.cellsOf f.type))) = some xs →
    CellsP w ((fs.zip (xs.map (·.1))).flatMap (fun x => aOf P fuel x.1.type x.2)) (cs.drop o)
  | [], o, xs, total, ht, hl, _, ho, hm => by
    simp only [tile, Option.some.injEq] at ht
    subst ht
    rw [List.drop_eq_nil_iff.2 (by omega)]
    exact ⟨by simp, fun j hj => by simp at hj⟩
  | f :: fs, o, xs, total, ht, hl, hall, ho, hm => by
    simp only [tile] at ht
    split at ht
    case isFalse => simp at ht
    rename_i hoff
    have hle : ∀ (fs : List Field) (o total : Nat), tile P o fs = some total → o ≤ total := by
      intro fs
      induction fs with
      | nil => intro o total h; simp [tile] at h; omega
      | cons f fs ihf =>
        intro o total h
        simp only [tile] at h
        split at h
        · have := ihf _ _ h; omega
        · simp at h
    have hle' := hle _ _ _ ht
    simp only [List.all_cons, Bool.and_eq_true] at hall
    rw [List.mapM_cons] at hm
    cases hx : DataW.trod enc P w base (fun _ => true) held fuel f.type ((cs.drop f.offset).take (P.cellsOf f.type)) with
    | none => rw [hx] at hm; simp at hm
    | some x =>
      cases hxs : fs.mapM (fun f => DataW.trod enc P w base (fun _ => true) held fuel f.type ((cs.drop f.offset).take (P.cellsOf f.type))) with
      | none => rw [hx, hxs] at hm; simp at hm
      | some ys =>
        rw [hx, hxs] at hm
        simp at hm
        subst hm
        have h1 := ih f.type _ x.1 x.2 hall.1 hx
        have h2 := fields_rep ih cs fs (o + P.cellsOf f.type) ys total ht hl hall.2 hle' hxs
        have e : cs.drop o = (cs.drop o).take (P.cellsOf f.type) ++ cs.drop (o + P.cellsOf f.type) := by
          rw [← List.drop_drop, List.take_append_drop]
        rw [hoff] at h1
        rw [e]
        simpa using h1.append h2

theorem trod_rep (hc : closedOk P ts = true) : ∀ (fuel : Nat) (t : TypeId) (cs : List Value) (d : DataW H) (ps : List MemPlace), ts.contains t = true → DataW.trod enc P w base (fun _ => true) held fuel t cs = some (d, ps) → CellsP w (aOf P fuel t d) cs := by
  intro fuel
  induction fuel with
  | zero => intro t cs d ps _ h; simp [DataW.trod] at h
  | succ fuel ih =>
    intro t cs d ps ht h
    unfold closedOk at hc
    have hct := List.all_eq_true.1 hc t (by simpa using ht)
    unfold DataW.trod at h
    cases hu : P.underlying t with
    | none => rw [hu] at hct; simp at hct
    | some desc =>
      rw [hu] at hct h
      cases desc <;> simp only [Bool.false_eq_true] at hct
      case bool =>
        rcases cs with _ | ⟨c, _ | ⟨c', cs⟩⟩ <;> try (simp at h; done)
        cases c <;> simp at h
        obtain ⟨rfl, rfl⟩ := h
        simp only [aOf, hu]
        exact .one (.bool _) rfl
      case int k =>
        rcases cs with _ | ⟨c, _ | ⟨c', cs⟩⟩ <;> try (simp at h; done)
        cases c <;> simp at h
        obtain ⟨⟨rfl, _⟩, rfl, rfl⟩ := h
        simp only [aOf, hu]
        exact .one (.int _ _) rfl
      case string =>
        rcases cs with _ | ⟨c, _ | ⟨c', cs⟩⟩ <;> try (simp at h; done)
        cases c <;> simp at h
        obtain ⟨_, rfl, rfl⟩ := h
        simp only [aOf, hu]
        exact .one (.str _) rfl
      case struct fs =>
        simp only [Bool.and_eq_true, beq_iff_eq] at hct
        simp only at h
        split at h
        case isFalse => simp at h
        rename_i hlen
        rw [Option.map_eq_some_iff] at h
        obtain ⟨xs, hxs, he⟩ := h
        simp only [Prod.mk.injEq] at he
        obtain ⟨rfl, _⟩ := he
        have := fields_rep ih cs fs.toList 0 xs _ hct.1 hlen hct.2 (Nat.zero_le _) hxs
        simp only [aOf, hu]
        simpa using this
      case slice e =>
        simp only [Bool.and_eq_true, decide_eq_true_eq] at hct
        rcases cs with _ | ⟨c, _ | ⟨c', cs⟩⟩ <;> try (simp at h; done)
        cases c <;> try (simp at h; done)
        rename_i ao len cap
        cases ao with
        | none =>
          rcases len with _ | len <;> rcases cap with _ | cap <;> simp at h
          obtain ⟨rfl, rfl⟩ := h
          simp only [aOf, hu]
          exact .one (.list0 _ _ _ _ (fun _ => rfl)) rfl
        | some ad =>
          simp only [if_true] at h
          split at h
          case isFalse => simp at h
          rename_i hcond
          rw [Option.bind_eq_some_iff] at h
          obtain ⟨elems, hel, h⟩ := h
          rw [Option.map_eq_some_iff] at h
          obtain ⟨rest, hrest, he⟩ := h
          simp only [Prod.mk.injEq] at he
          obtain ⟨rfl, _⟩ := he
          obtain ⟨m1, m2⟩ := mapM_some hel
          obtain ⟨r1, _⟩ := mapM_some hrest
          simp only [List.length_range] at m1 r1
          simp only [aOf, hu]
          refine .one ?_ rfl
          have hfull : (rest.map (·.1)).isEmpty = true → cap = len := fun hh => by
            have : rest = [] := by simpa using hh
            rw [this] at r1; simp at r1; omega
          rw [show (elems.map (·.1)).length = len by simp [m1]]
          have hsz := hct.2
          have elemq : ∀ i, i < len → ∃ x csi, elems[i]? = some x ∧ w.cells? base (ad.add (i * P.cellsOf e)) (P.cellsOf e) = some csi ∧ CellsP w (aOf P fuel e x.1) csi := fun i hi => by
            obtain ⟨x, g1, g2⟩ := m2 i i (by simp [hi])
            rw [Option.bind_eq_some_iff] at g2
            obtain ⟨csi, g3, g4⟩ := g2
            exact ⟨x, csi, g1, g3, ih e csi x.1 x.2 hct.1 g4⟩
          have arow : ∀ i x, elems[i]? = some x → aOf P fuel e ((elems.map (·.1)).getD i .nil) = aOf P fuel e x.1 := fun i x hx => by
            rw [List.getD_eq_getElem?_getD, List.getElem?_map, hx]; rfl
          rcases Nat.eq_zero_or_pos len with h0 | h0
          · subst h0
            exact .list0 _ _ _ _ (fun hh => hfull hh)
          · have hspot : ad.spot = none := by
              obtain ⟨x, csi, g1, g2, g3⟩ := elemq 0 h0
              obtain ⟨_, q2, q3⟩ := World.cells?_some g2
              have hc0 := q3 0 hsz
              rw [List.getElem?_eq_getElem (by omega)] at hc0
              have := World.cell?_spot hc0
              simpa [Addr.add] using this
            obtain ⟨b, off, spot⟩ := ad
            simp only at hspot
            subst hspot
            have hb : b < w.heap.size := by
              obtain ⟨x, csi, g1, g2, g3⟩ := elemq 0 h0
              have := World.cells?_block g2 hsz
              simpa [Addr.add] using this
            refine .list _ len _ b off cap (P.cellsOf e) (fun i j => (w.cell? ⟨b, off + i * P.cellsOf e + j, none⟩).getD undef) hcond.2.1 hfull hb (fun i hi => ?_) (fun i j hi hj => ?_) (fun i j hi hj => ?_)
            · obtain ⟨x, csi, g1, g2, g3⟩ := elemq i hi
              rw [arow i x g1, g3.1]; exact (World.cells?_some g2).2.1
            · obtain ⟨x, csi, g1, g2, g3⟩ := elemq i hi
              obtain ⟨_, q2, q3⟩ := World.cells?_some g2
              have := q3 j hj
              rw [addr_add, addr_add] at this
              have hjl : j < csi.length := by omega
              rw [List.getElem?_eq_getElem hjl] at this
              rw [this]
              have := (g3.2 j hjl).1
              rw [List.getD_eq_getElem?_getD, List.getElem?_eq_getElem hjl] at this
              exact ⟨rfl, this⟩
            · obtain ⟨x, csi, g1, g2, g3⟩ := elemq i hi
              obtain ⟨_, q2, q3⟩ := World.cells?_some g2
              have := q3 j hj
              rw [addr_add, addr_add] at this
              have hjl : j < csi.length := by omega
              rw [List.getElem?_eq_getElem hjl] at this
              rw [this, arow i x g1]
              have := (g3.2 j hjl).2
              rw [List.getD_eq_getElem?_getD (l := csi), List.getElem?_eq_getElem hjl] at this
              exact this
end
end Go.Mu
