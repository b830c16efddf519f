/-
  Mu: a row's end: true, and the arguments read as they did.
-/
import Derived.Test.YtlbmedmddoljnaaDoorMuEntry
import Derived.ChangeSame
import Derived.ChangeOld
import Derived.ChangeReads
set_option linter.unusedVariables false
set_option linter.unusedSimpArgs false
namespace Go.Mu
open Go
variable {P : Program} {w w' W W' : World} {H : Type} {enc : TypeId × Value → H} {base : Nat} {held : Bool} {ts : List TypeId} {sp : Nat → Bool}

theorem trod_spare (hc : closedOk P ts = true) : ∀ (fuel : Nat) (t : TypeId) (cs : List Value) (x : DataW H × List MemPlace), ts.contains t = true → DataW.trod enc P w base (fun _ => true) held fuel t cs = some x → (∀ p ∈ x.2, sp p.block = true) → DataW.trod enc P w base sp held fuel t cs = some x := by
  intro fuel
  induction fuel with
  | zero => intro t cs x _ h; simp [DataW.trod] at h
  | succ fuel ih =>
    intro t cs x ht h hp
    have hct := List.all_eq_true.1 hc t (by simpa using ht)
    unfold DataW.trod at h ⊢
    cases hu : P.underlying t with
    | none => rw [hu] at hct; simp at hct
    | some desc =>
      rw [hu] at hct h
      cases desc <;> simp only [Bool.false_eq_true] at hct
      case bool =>
        rcases cs with _ | ⟨c, _ | ⟨c', cs⟩⟩ <;> try (simp at h; done)
        cases c <;> first | exact h | (simp at h; done)
      case int k =>
        rcases cs with _ | ⟨c, _ | ⟨c', cs⟩⟩ <;> try (simp at h; done)
        cases c <;> first | exact h | (simp at h; done)
      case string =>
        rcases cs with _ | ⟨c, _ | ⟨c', cs⟩⟩ <;> try (simp at h; done)
        cases c <;> first | exact h | (simp at h; done)
      case struct fs =>
        simp only [Bool.and_eq_true, beq_iff_eq] at hct
        simp only at h ⊢
        split at h
        case isFalse => simp at h
        rename_i hlen
        rw [if_pos hlen]
        rw [Option.map_eq_some_iff] at h ⊢
        obtain ⟨xs, hxs, rfl⟩ := h
        refine ⟨xs, mapM_carry hxs (fun f y hf hy hfy => ih f.type _ y (List.all_eq_true.1 hct.2 f hf) hfy (fun p hpp => hp p (by simp only [List.mem_flatMap]; exact ⟨y, hy, hpp⟩))), rfl⟩
      case slice e =>
        simp only [Bool.and_eq_true, decide_eq_true_eq] at hct
        rcases cs with _ | ⟨c, _ | ⟨c', cs⟩⟩ <;> try (simp at h; done)
        cases c <;> try (simp at h; done)
        rename_i ao len cap
        cases ao with
        | none => rcases len with _ | len <;> rcases cap with _ | cap <;> first | exact h | (simp at h; done)
        | some ad =>
          simp only [if_true] at h ⊢
          split at h
          case isFalse => simp at h
          rename_i hcond
          rw [if_pos hcond]
          rw [Option.bind_eq_some_iff] at h ⊢
          obtain ⟨elems, hel, h⟩ := h
          rw [Option.map_eq_some_iff] at h
          obtain ⟨rest, hrest, rfl⟩ := h
          have hin : ∀ (k : Nat) (y : DataW H × List MemPlace), y ∈ elems ++ rest → ((w.cells? base (ad.add (k * P.cellsOf e)) (P.cellsOf e)).bind (DataW.trod enc P w base (fun _ => true) held fuel e)) = some y →
              ((w.cells? base (ad.add (k * P.cellsOf e)) (P.cellsOf e)).bind (DataW.trod enc P w base sp held fuel e)) = some y := fun k y hy hky => by
            rw [Option.bind_eq_some_iff] at hky ⊢
            obtain ⟨csi, g1, g2⟩ := hky
            exact ⟨csi, g1, ih e csi y hct.1 g2 (fun p hpp => hp p (List.mem_append_right _ (List.mem_flatMap.2 ⟨y, hy, hpp⟩)))⟩
          refine ⟨elems, mapM_carry hel (fun k y _ hy hky => hin k y (List.mem_append_left _ hy) hky), ?_⟩
          rw [Option.map_eq_some_iff]
          refine ⟨rest, ?_, rfl⟩
          have hr2 := mapM_carry hrest (fun k y _ hy hky => hin (len + k) y (List.mem_append_right _ hy) hky)
          split
          · exact hr2
          · rename_i hspf
            have r1 := (mapM_some hrest).1
            have m1 := (mapM_some hel).1
            simp only [List.length_range] at r1 m1
            rcases Nat.eq_zero_or_pos (elems.length + rest.length) with h0 | h0
            · have : rest = [] := List.eq_nil_of_length_eq_zero (by omega)
              rw [this]
            · refine absurd (hp (.cell ad.block (ad.off + 0)) (List.mem_append_left _ ?_)) hspf
              simp only [MemPlace.row, List.mem_map, List.mem_range]
              exact ⟨0, Nat.mul_pos h0 hct.2, rfl⟩

theorem trodAll_keep (hc : closedOk P ts = true) (hk : ∀ b, b < W.heap.size → W'.heap[b]? = W.heap[b]?) : ∀ (tl : List TypeId) (vs : List Value) (ds : List (DataW H)) (ps : List MemPlace), tl.all (fun t => ts.contains t) = true → (∀ p ∈ ps, p.block < W.heap.size) →
    DataW.TrodAll enc P W 0 (fun _ => true) true tl vs ds ps → (∀ p ∈ ps, sp p.block = true) → DataW.TrodAll enc P W' 0 sp true tl vs ds ps
  | [], [], [], ps, _, _, h, _ => h
  | t :: tl, v :: vs, d :: ds, ps, ht, hlt, ⟨p, q, ⟨n, h1⟩, h2, e⟩, hp => by
    subst e
    simp only [List.all_cons, Bool.and_eq_true] at ht
    refine ⟨p, q, ⟨n, ?_⟩, trodAll_keep hc hk tl vs ds q ht.2 (fun x hx => hlt x (by simp [hx])) h2 (fun x hx => hp x (by simp [hx])), rfl⟩
    refine trod_spare hc n t _ (d, p) ht.1 (DataW.trod_carry n t _ (d, p) h1 (fun x hx => ?_)) (fun x hx => hp x (by simp only at hx; simp [hx]))
    have := hlt x (by simp only at hx; simp [hx])
    cases x with
    | cell b off => exact cell?_same (hk b this) off
    | map b => exact hk b this
  | [], _ :: _, _, _, _, _, h, _ => h.elim
  | [], [], _ :: _, _, _, _, h, _ => h.elim
  | _ :: _, [], _, _, _, _, h, _ => h.elim
  | _ :: _, _ :: _, [], _, _, _, h, _ => h.elim

/-- a row that says: true, and the arguments read as they did -/
theorem true_post {f : Func} {s : ChangeSpec} {apart fresh handsOn again : Bool} {args : Array Value} {ds gs : List (DataW H)} {before : List MemPlace} {tb : TypeId}
    (hc : closedOk P ts = true) (hpar : f.params.toList.all (fun t => ts.contains t) = true) (hvars : s.vars = []) (hrt : f.resultTypes = #[tb]) (hub : P.underlying tb = some .bool)
    (hW : DataW.Whole enc P f.params.toList s.vars apart W args.toList ds gs before) (hfn : ∀ d : List (DataW H), d = ds → gs = [] → (s.fn H (d ++ [])).results = [.lit (.bool true)] ∧ (s.fn H (d ++ [])).args = d ∧ (s.fn H (d ++ [])).vars = [])
    (hok : ∀ (j : Nat) (t : TypeId) (r : Value), f.resultTypes[j]? = some t → ((Value.bool true).resultList f.resultTypes.size)[j]? = some r → Value.okWide P W' .any 0 t r)
    (hk : ∀ b, b < W.heap.size → W'.heap[b]? = W.heap[b]?) (hos : W'.os = W.os) (hout : W'.output = W.output) : s.post enc P f apart fresh handsOn again W args (.bool true) W' := by
  have hlt := hW.lt
  have hW' := hW
  obtain ⟨p, q, hA, hV, rfl, hfz, hnd⟩ := hW
  rw [hvars] at hV
  have hq : gs = [] ∧ q = [] := by
    cases gs with
    | nil => exact ⟨rfl, hV⟩
    | cons g gs => exact hV.elim
  obtain ⟨rfl, rfl⟩ := hq
  obtain ⟨e1, e2, e3⟩ := hfn ds rfl rfl
  have hlt' : ∀ x ∈ p, x.block < W.heap.size := fun x hx => hlt x (by simp [hx])
  have targs : ∀ sp : Nat → Bool, (∀ x ∈ p, sp x.block = true) → DataW.TrodAll enc P W' 0 sp true f.params.toList args.toList (s.fn H (ds ++ [])).args p := fun sp hsp => by
    rw [e2]; exact trodAll_keep hc hk _ _ _ _ hpar hlt' hA hsp
  have tvars : ∀ sp : Nat → Bool, DataW.TrodVars enc P W' sp s.vars (s.fn H (ds ++ [])).vars [] := fun sp => by rw [hvars, e3]; rfl
  have tres : ∀ (b : Nat) (sp : Nat → Bool) (hd : Bool), DataW.TrodAll enc P W' b sp hd f.resultTypes.toList ((Value.bool true).resultList f.resultTypes.size) (s.fn H (ds ++ [])).results [] := fun b sp hd => by
    rw [e1, hrt]
    refine ⟨[], [], ⟨1, ?_⟩, rfl, rfl⟩
    have : (Value.bool true).cells.toList = [.bool true] := rfl
    unfold DataW.trod
    rw [this, hub]
  refine ⟨ds, [], p ++ [], [], p, [], hW', tres _ _ _, targs _ (fun x hx => by simpa using hlt' x hx), tvars _, ⟨hos, hout, fun i hi => ?_⟩, fun _ => ⟨hok, _, _, ([] ++ p) ++ [], ⟨[] ++ p, [], Go.ChangeShapes.trodAll_append (targs _ (fun _ _ => rfl)) (tres _ _ _), tvars _, rfl, ?_, ?_⟩, ?_⟩⟩
  · rw [hk i hi]
    cases hh : W.heap[i]? with
    | none => rfl
    | some o => cases o <;> simp
  · intro b off hx
    have hb := hlt (.cell b off) (by simpa using hx)
    have := hfz b off (by simpa using hx)
    unfold World.frozen? at this ⊢
    rw [hk b hb]; exact this
  · intro ha
    simpa using hnd ha
  · intro x hx _
    simpa using hx
end Go.Mu
