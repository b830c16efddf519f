/-
  Mu: what an operation looks at, and what it writes.
-/
import Derived.Test.YtlbmedmddoljnaaDoorMuPure
set_option linter.unusedVariables false
set_option linter.unusedSimpArgs false
namespace Go.Mu
open Go
variable {P : Program} {fh : FH} {ops : List Oper} {w w' : World} {a : Act} {E E' : Env} {H H' : Heap} {β β' : Nat → Option Nat} {T T' : List AVal} {B B' : Boxes} {G : Tags} {q : SR} {s s' : RS} {o : Oper}

def isAl (o : Oper) : Bool := match o.op with
  | .alloc _ => true
  | .box _ _ => true
  | _ => false

/-- what an operation comes to elsewhere -/
structure Same (o : Oper) (fh : FH) (T : List AVal) (B' : Boxes) (H' : Heap) (q q' : SR) : Prop where
  ok : q'.ok = true
  v : q'.v = q.v
  B : q'.B = (match writes o fh T with | some (some d) => bset B' d (q.B.getD d []) | _ => B')
  H : q'.H = (match writes o fh T with | some none => q.H | _ => H')

theorem bset_self (B : Boxes) (d : Nat) (c : List AVal) : bset B d ((bset B d c).getD d []) = bset B d c := by
  simp only [bset]
  rcases Nat.lt_or_ge d B.length with g | g
  · rw [List.getD_eq_getElem?_getD, List.getElem?_set_self g]; rfl
  · rw [List.set_eq_of_length_le g, List.set_eq_of_length_le g]
theorem bset_get (B B' : Boxes) (d : Nat) (c : List AVal) (h : B'.length = B.length) : bset B' d ((bset B d c).getD d []) = bset B' d c := by
  simp only [bset]
  rcases Nat.lt_or_ge d B.length with g | g
  · rw [List.getD_eq_getElem?_getD, List.getElem?_set_self g]; rfl
  · rw [List.set_eq_of_length_le (by omega), List.set_eq_of_length_le (by omega)]

theorem append_frame {nl : Bool} {t : TypeId} {s x : AVal} (h : appendA P nl t B H s x = some q) : appendA P nl t B' H s x = some { q with B := B' } ∧ q.B = B := by
  unfold appendA at h ⊢
  repeat' split at h
  all_goals first
    | (simp at h; done)
    | (simp only [Option.some.injEq] at h
       subst h
       simp_all)
theorem conv1 {own : Bool} {s d : TypeId} {x : AVal} (h : convA P own B H s d x = some q) : convA P own B' H s d x = some { q with B := B' } ∧ q.B = B := by
  unfold convA at h ⊢
  repeat' split at h
  all_goals first
    | (simp at h; done)
    | (simp only [Option.some.injEq] at h
       subst h
       simp_all)
theorem rowsOf_frame {sz : Nat} {x : AVal} (h : isOwn x = false) : rowsOf sz H' x = rowsOf sz H x := by
  cases x <;> first | (cases h; done) | rfl
theorem conv2 {s d : TypeId} {x : AVal} (hx : (isOwn x || isHp x) = false) (h : convA P false B H s d x = some q) : convA P false B' H' s d x = some { q with B := B', H := H' } := by
  unfold convA at h ⊢
  cases x <;> first
    | (cases hx; done)
    | (try simp only [rowsOf] at h ⊢
       repeat' split at h
       all_goals first
         | (simp at h; done)
         | (simp only [Option.some.injEq] at h
            subst h
            simp_all))
  all_goals exact absurd hx.2 (by simp [isHp])
theorem conv_frame {o : Oper} {own : Bool} {s d : TypeId} {x : AVal} (h : convA P own B H s d x = some q) (hok : q.ok = true) (hH : (isOwn x || isHp x) = true ∨ (if own = true then some none else (none : Option (Option Nat))) = some none → H' = H)
    (mk : ∀ {q' : SR} {r : Option SR}, r = some q' → q'.ok = true ∧ q'.v = q.v ∧ q'.B = (match (if own = true then some none else (none : Option (Option Nat))) with | some (some d) => bset B' d (q.B.getD d []) | _ => B') ∧ q'.H = (match (if own = true then some none else (none : Option (Option Nat))) with | some none => q.H | _ => H') → ∃ q', r = some q' ∧ Same o fh T B' H' q q') :
    ∃ q', convA P own B' H' s d x = some q' ∧ Same o fh T B' H' q q' := by
  have key : own = true ∨ (isOwn x || isHp x) = true → H' = H := fun hc => by
    rcases hc with rfl | hc
    · exact hH (.inr rfl)
    · exact hH (.inl hc)
  cases own with
  | true =>
    rw [key (.inl rfl)] at mk ⊢
    obtain ⟨e1, e2⟩ := conv1 (B' := B') h
    exact mk e1 ⟨hok, rfl, rfl, rfl⟩
  | false =>
    cases hx : (isOwn x || isHp x) with
    | true =>
      rw [key (.inr hx)] at mk ⊢
      obtain ⟨e1, e2⟩ := conv1 (B' := B') h
      exact mk e1 ⟨hok, rfl, rfl, (conv_BH h).2⟩
    | false => exact mk (conv2 (B' := B') (H' := H') hx h) ⟨hok, rfl, rfl, rfl⟩
theorem sliceA_frame {t : TypeId} {x : AVal} {lo hi mx : Option AVal} (h : isOwn x = false) : sliceA P H' t x lo hi mx = sliceA P H t x lo hi mx := by
  unfold sliceA
  cases hu : P.underlying t with
  | none => cases x <;> rfl
  | some d => cases x <;> first | (cases h; done) | (cases d <;> rfl)
theorem idxA_frame {t : TypeId} {x i : AVal} (h : isOwn x = false) : idxA P H' t x i = idxA P H t x i := by
  unfold idxA
  cases x <;> first | (cases h; done) | rfl
theorem fieldAddrA_frame {t : TypeId} {x : AVal} {f : Nat} (h : isEptr x = false) : fieldAddrA P H' t x f = fieldAddrA P H t x f := by
  unfold fieldAddrA
  cases x <;> first | (cases h; done) | rfl
theorem step_frame (hT : ∀ x ∈ o.op.operands.toList, aeval T' x = aeval T x) (hB : B'.length = B.length) (hal : isAl o = true → ∀ d, writes o fh T = some (some d) → T'.any (pointsTo d) = false)
    (hH : usesH o T = true ∨ writes o fh T = some none → H' = H) (hb : ∀ d, writes o fh T = some (some d) → isAl o = false → B'.getD d [] = B.getD d [])
    (hrd : ∀ t x, o.op = .load t x → loadA P B' H' t (aeval T x) = loadA P B H t (aeval T x)) (h : stepOp P fh T B H o = some q) (hok : q.ok = true) :
    ∃ q', stepOp P fh T' B' H' o = some q' ∧ Same o fh T B' H' q q' := by
  obtain ⟨dst, op, type, pos, after, guard⟩ := o
  have pureV : ∀ {x : Option (Bool × AVal)} {W : Option (Option Nat)}, W = none → val B H x = some q → ∃ q', val B' H' x = some q' ∧ q'.ok = true ∧ q'.v = q.v ∧ q'.B = (match W with | some (some d) => bset B' d (q.B.getD d []) | _ => B') ∧ q'.H = (match W with | some none => q.H | _ => H') := by
    intro x W hW hx
    obtain ⟨ok, v, rfl, rfl⟩ := val_some hx
    subst hW
    exact ⟨_, rfl, hok, rfl, rfl, rfl⟩
  have pureV1 : ∀ {x : Option AVal} {W : Option (Option Nat)}, W = none → val1 B H x = some q → ∃ q', val1 B' H' x = some q' ∧ q'.ok = true ∧ q'.v = q.v ∧ q'.B = (match W with | some (some d) => bset B' d (q.B.getD d []) | _ => B') ∧ q'.H = (match W with | some none => q.H | _ => H') := by
    intro x W hW hx
    obtain ⟨v, rfl, rfl⟩ := val1_some hx
    subst hW
    exact ⟨_, rfl, rfl, rfl, rfl, rfl⟩
  have mk : ∀ {q' : SR} {s : Option SR}, s = some q' → q'.ok = true ∧ q'.v = q.v ∧ q'.B = (match writes ⟨dst, op, type, pos, after, guard⟩ fh T with | some (some d) => bset B' d (q.B.getD d []) | _ => B') ∧ q'.H = (match writes ⟨dst, op, type, pos, after, guard⟩ fh T with | some none => q.H | _ => H') → ∃ q', s = some q' ∧ Same ⟨dst, op, type, pos, after, guard⟩ fh T B' H' q q' :=
    fun e hh => ⟨_, e, hh.1, hh.2.1, hh.2.2.1, hh.2.2.2⟩
  cases op <;> simp only [stepOp] at h ⊢ <;> simp only [Op.operands] at hT <;> try contradiction
  case move x =>
    rw [hT x (by simp)]
    simp only [Option.some.injEq] at h; subst h
    exact ⟨_, rfl, rfl, rfl, rfl, rfl⟩
  case assign x =>
    rw [hT x (by simp)]
    simp only [Option.some.injEq] at h; subst h
    exact ⟨_, rfl, rfl, rfl, rfl, rfl⟩
  case pick c x y =>
    rw [hT c (by simp), hT x (by simp), hT y (by simp)]
    split at h
    · rename_i p hq
      simp only [Option.some.injEq] at h; subst h
      exact ⟨_, rfl, rfl, rfl, rfl, rfl⟩
    · simp at h
  case alloc t =>
    split at h
    · rename_i d z hz
      simp only [writes, Option.getD_some] at hal hb hH mk
      split at h
      · rename_i hc
        simp only [Option.some.injEq] at h; subst h
        simp only [hc, if_true] at hal hb hH mk
        have e := hH (.inr (by simp))
        subst e
        refine mk (q' := ⟨true, .ptr (.hp H'.length) 0, B', H' ++ .var z :: noteOf fh d t z⟩) ?_ ⟨rfl, rfl, rfl, rfl⟩
        simp only [hz, hc, if_true]
      · rename_i hc
        split at h
        · rename_i hd
          simp only [Option.some.injEq] at h; subst h
          simp only [hc, if_false, Bool.false_eq_true] at hal hb hH mk
          have := hal rfl d rfl
          refine mk (q' := ⟨!T'.any (pointsTo d), .ptr (.tmp d) 0, bset B' d z, H'⟩) ?_ ⟨by simp [this], rfl, (bset_get B B' d z hB).symm, rfl⟩
          simp only [hz, hc, if_false, Bool.false_eq_true, hB, hd, if_true]
        · simp at h
    · simp at h
  case box t x =>
    rw [hT x (by simp)]
    split at h
    · rename_i d z hz
      simp only [writes, Option.getD_some] at hal hb hH mk
      split at h
      · rename_i hc
        simp only [Option.some.injEq] at h; subst h
        simp only [hc, if_true] at hal hb hH mk
        have e := hH (.inr (by simp))
        subst e
        refine mk (q' := ⟨noTmp (aeval T x), .ptr (.hp H'.length) 0, B', H' ++ .var z :: noteOf fh d t z⟩) ?_ ⟨hok, rfl, rfl, rfl⟩
        simp only [hz, hc, if_true]
      · rename_i hc
        split at h
        · rename_i hd
          simp only [Option.some.injEq] at h; subst h
          simp only [hc, if_false, Bool.false_eq_true] at hal hb hH mk
          have := hal rfl d rfl
          simp only [Bool.and_eq_true] at hok
          refine mk (q' := ⟨noTmp (aeval T x) && !T'.any (pointsTo d), .ptr (.tmp d) 0, bset B' d z, H'⟩) ?_ ⟨by simp [this, hok.1], rfl, (bset_get B B' d z hB).symm, rfl⟩
          simp only [hz, hc, if_false, Bool.false_eq_true, hB, hd, if_true]
        · simp at h
    · simp at h
  case build t ps =>
    have e1 : (ps.toList.map fun x => (x.1, aeval T' x.2)) = ps.toList.map fun x => (x.1, aeval T x.2) := List.map_congr_left fun x hx => by
      rw [hT x.2 (List.mem_map.2 ⟨x, hx, rfl⟩)]
    have e2 : (ps.toList.all fun x => noTmp (aeval T' x.2)) = ps.toList.all fun x => noTmp (aeval T x.2) := by
      have : ∀ l : List (Nat × Operand), (∀ x ∈ l, aeval T' x.2 = aeval T x.2) → (l.all fun x => noTmp (aeval T' x.2)) = l.all fun x => noTmp (aeval T x.2) := by
        intro l
        induction l with
        | nil => intro _; rfl
        | cons x l ih => intro hl; simp only [List.all_cons]; rw [hl x (by simp), ih (fun y hy => hl y (by simp [hy]))]
      exact this _ fun x hx => hT x.2 (List.mem_map.2 ⟨x, hx, rfl⟩)
    rw [e1, e2]
    split at h
    · rename_i v hb
      simp only [Option.some.injEq] at h; subst h
      exact ⟨_, rfl, hok, rfl, rfl, rfl⟩
    · simp at h
  case buildSlice t n ps =>
    have e1 : (ps.toList.map fun x => (x.1, aeval T' x.2)) = ps.toList.map fun x => (x.1, aeval T x.2) := List.map_congr_left fun x hx => by
      rw [hT x.2 (List.mem_map.2 ⟨x, hx, rfl⟩)]
    have e2 : (ps.toList.all fun x => noTmp (aeval T' x.2)) = ps.toList.all fun x => noTmp (aeval T x.2) := by
      have : ∀ l : List (Nat × Operand), (∀ x ∈ l, aeval T' x.2 = aeval T x.2) → (l.all fun x => noTmp (aeval T' x.2)) = l.all fun x => noTmp (aeval T x.2) := by
        intro l
        induction l with
        | nil => intro _; rfl
        | cons x l ih => intro hl; simp only [List.all_cons]; rw [hl x (by simp), ih (fun y hy => hl y (by simp [hy]))]
      exact this _ fun x hx => hT x.2 (List.mem_map.2 ⟨x, hx, rfl⟩)
    rw [e1, e2]
    simp only [writes] at hH mk
    split at h
    · rename_i e he
      split at h
      · rename_i sz hs
        split at h
        · rename_i rows hr
          split at h
          · rename_i hc
            split at h
            · rename_i hown
              simp only [Option.some.injEq] at h; subst h
              simp only [hown, if_true] at hH mk
              have e := hH (.inr (by simp))
              subst e
              refine mk (q' := ⟨ps.toList.all (fun x => noTmp (aeval T x.2)), .own H'.length 0 n 0 false, B', H' ++ [.arr sz rows 0]⟩) ?_ ⟨hok, rfl, rfl, rfl⟩
              simp only [he, hs, hr, if_pos hc, hown, if_true]
            · rename_i hown
              simp only [Option.some.injEq] at h; subst h
              simp only [hown, if_false, Bool.false_eq_true] at hH mk
              refine mk (q' := ⟨ps.toList.all (fun x => noTmp (aeval T x.2)) && rows.all (fun r => r.all isPure), .list true n (fun i => rows.getD i []), B', H'⟩) ?_ ⟨hok, rfl, rfl, rfl⟩
              simp only [he, hs, hr, if_pos hc, hown, if_false, Bool.false_eq_true]
          · simp at h
        · simp at h
      · simp at h
    · simp at h
  case makeSlice t l c =>
    rw [hT l (by simp), hT c (by simp)]
    simp only [writes] at hH mk
    have e := hH (.inr (by simp))
    subst e
    split at h
    · rename_i ok v Hn hm
      simp only [Option.some.injEq] at h; subst h
      refine mk (q' := ⟨ok, v, B', Hn⟩) ?_ ⟨hok, rfl, rfl, rfl⟩
      simp only [hm]
    · simp at h
  case load t x =>
    rw [hT x (by simp), hrd t x rfl]
    exact let ⟨q', h1, h2⟩ := pureV rfl h; ⟨q', h1, h2.1, h2.2.1, h2.2.2.1, h2.2.2.2⟩
  case store t x y =>
    rw [hT x (by simp), hT y (by simp)]
    simp only [writes] at hb hH mk
    split at h
    · rename_i cs n hc hs
      split at h
      · rename_i hn
        split at h
        · rename_i r' hr
          simp only [Option.some.injEq] at h; subst h
          simp only [Bool.and_eq_true] at hok
          unfold storeA at hr
          split at hr
          · rename_i t' off e
            rw [e] at hb mk
            simp only [Option.some.injEq] at hr; subst hr
            have hbb := hb t' rfl rfl
            simp only at hok
            refine mk (q' := ⟨noTmp (exV fh.exact y (aeval T y)) && decide (off + cs.length ≤ (B.getD t' []).length), .undef, bset B' t' (setAt (B.getD t' []) off cs), H'⟩) (by simp only [e, hc, hs, storeA, hbb, if_pos hn]) ⟨Bool.and_eq_true_iff.2 ⟨hok.1, hok.2⟩, rfl, (bset_get B B' t' _ hB).symm, rfl⟩
          · rename_i k off e
            rw [e] at hH mk
            have e' := hH (.inr rfl)
            subst e'
            split at hr
            · rename_i old hk
              simp only [Option.some.injEq] at hr; subst hr
              exact mk (q' := ⟨noTmp (exV fh.exact y (aeval T y)) && decide (off + cs.length ≤ old.length), .undef, B', H'.set k (.var (setAt old off cs))⟩) (by simp only [e, hc, hs, storeA, hk, if_pos hn]) ⟨Bool.and_eq_true_iff.2 ⟨hok.1, hok.2⟩, rfl, rfl, rfl⟩
            · simp at hr
          · rename_i k ver i off e
            rw [e] at hH mk
            have e' := hH (.inr rfl)
            subst e'
            split at hr
            · rename_i sz rows v hk
              simp only [Option.some.injEq] at hr; subst hr
              exact mk (q' := ⟨noTmp (exV fh.exact y (aeval T y)) && (v == ver && decide (i < rows.length) && decide (off + cs.length ≤ sz)), .undef, B', H'.set k (.arr sz (rows.set i (setAt (rows.getD i []) off cs)) v)⟩) (by simp only [e, hc, hs, storeA, hk, if_pos hn]) ⟨Bool.and_eq_true_iff.2 ⟨hok.1, hok.2⟩, rfl, rfl, rfl⟩
            · simp at hr
          · simp at hr
        · simp at h
      · simp at h
    · simp at h
  case nilCheck x =>
    rw [hT x (by simp)]
    simp only [usesH] at hH
    split at h
    · simp only [Option.some.injEq] at h; subst h
      exact ⟨_, rfl, rfl, rfl, rfl, rfl⟩
    · simp only [Option.some.injEq] at h; subst h
      exact ⟨_, rfl, rfl, rfl, rfl, rfl⟩
    · rename_i k v i off e
      rw [e] at hH
      have e' := hH (.inl rfl)
      subst e'
      split at h
      · rename_i sz rows u hk
        simp only [Option.some.injEq] at h; subst h
        exact ⟨_, rfl, hok, rfl, rfl, rfl⟩
      · simp at h
    · simp only [Option.some.injEq] at h; subst h
      exact ⟨_, rfl, rfl, rfl, rfl, rfl⟩
    · simp at h
  case binOp op t x y u =>
    rw [hT x (by simp), hT y (by simp)]
    split at h
    · exact let ⟨q', h1, h2⟩ := pureV1 rfl h; ⟨q', h1, h2.1, h2.2.1, h2.2.2.1, h2.2.2.2⟩
    · split at h
      · exact let ⟨q', h1, h2⟩ := pureV1 rfl h; ⟨q', h1, h2.1, h2.2.1, h2.2.2.1, h2.2.2.2⟩
      · exact let ⟨q', h1, h2⟩ := pureV rfl h; ⟨q', h1, h2.1, h2.2.1, h2.2.2.1, h2.2.2.2⟩
  case unOp op t x =>
    rw [hT x (by simp)]
    exact let ⟨q', h1, h2⟩ := pureV1 rfl h; ⟨q', h1, h2.1, h2.2.1, h2.2.2.1, h2.2.2.2⟩
  case convert s t x =>
    rw [hT x (by simp)]
    simp only [writes, usesH] at hH mk
    exact conv_frame h hok hH mk
  case makeInterface t x =>
    rw [hT x (by simp)]
    split at h
    · simp at h
    · rename_i d hd hu
      simp only [Option.some.injEq] at h; subst h
      exact ⟨_, rfl, hok, rfl, rfl, rfl⟩
    · simp at h
  case makeFunc fn first caps =>
    split at h
    · rename_i f
      split at h
      · rename_i hf
        have e1 : caps.toList.map (aeval T') = caps.toList.map (aeval T) := List.map_congr_left fun x hx => hT x (by simp at hx ⊢; exact .inr hx)
        rw [e1]
        simp only [Option.some.injEq] at h; subst h
        exact ⟨⟨(caps.toList.map (aeval T)).all noTmp, .func f (caps.toList.map (aeval T)), B', H'⟩, by rw [if_pos hf], hok, rfl, rfl, rfl⟩
      · simp at h
    · simp at h
  case slice t x lo hi mx =>
    have e0 : aeval T' x = aeval T x := hT x (by cases lo <;> cases hi <;> cases mx <;> simp)
    have e1 : lo.map (aeval T') = lo.map (aeval T) := by
      cases lo with
      | none => rfl
      | some y => simp only [Option.map_some]; rw [hT y (by cases hi <;> cases mx <;> simp)]
    have e2 : hi.map (aeval T') = hi.map (aeval T) := by
      cases hi with
      | none => rfl
      | some y => simp only [Option.map_some]; rw [hT y (by cases lo <;> cases mx <;> simp)]
    have e3 : mx.map (aeval T') = mx.map (aeval T) := by
      cases mx with
      | none => rfl
      | some y => simp only [Option.map_some]; rw [hT y (by cases lo <;> cases hi <;> simp)]
    rw [e0, e1, e2, e3]
    have eH : sliceA P H' t (aeval T x) (lo.map (aeval T)) (hi.map (aeval T)) (mx.map (aeval T)) = sliceA P H t (aeval T x) (lo.map (aeval T)) (hi.map (aeval T)) (mx.map (aeval T)) := by
      cases hx : isOwn (aeval T x) with
      | true => rw [hH (.inl hx)]
      | false => exact sliceA_frame hx
    rw [eH]
    exact let ⟨q', h1, h2⟩ := pureV rfl h; ⟨q', h1, h2.1, h2.2.1, h2.2.2.1, h2.2.2.2⟩
  case fieldAddr t x f =>
    rw [hT x (by simp)]
    have eH : fieldAddrA P H' t (aeval T x) f = fieldAddrA P H t (aeval T x) f := by
      cases hx : isEptr (aeval T x) with
      | true => rw [hH (.inl hx)]
      | false => exact fieldAddrA_frame hx
    rw [eH]
    exact let ⟨q', h1, h2⟩ := pureV rfl h; ⟨q', h1, h2.1, h2.2.1, h2.2.2.1, h2.2.2.2⟩
  case indexAddr t x i =>
    rw [hT x (by simp), hT i (by simp)]
    have eH : idxA P H' t (aeval T x) (aeval T i) = idxA P H t (aeval T x) (aeval T i) := by
      cases hx : isOwn (aeval T x) with
      | true => rw [hH (.inl hx)]
      | false => exact idxA_frame hx
    rw [eH]
    exact let ⟨q', h1, h2⟩ := pureV rfl h; ⟨q', h1, h2.1, h2.2.1, h2.2.2.1, h2.2.2.2⟩
  case index t x i =>
    rw [hT x (by simp), hT i (by simp)]
    split at h
    · rename_i s k n hu hx hi
      simp only [Option.some.injEq] at h; subst h
      exact ⟨_, rfl, hok, rfl, rfl, rfl⟩
    · simp at h
  case typeAssert x xt t ok =>
    rw [hT x (by simp)]
    exact let ⟨q', h1, h2⟩ := pureV1 rfl h; ⟨q', h1, h2.1, h2.2.1, h2.2.2.1, h2.2.2.2⟩
  case extract x i =>
    rw [hT x (by simp)]
    split at h
    · rename_i vs hx
      split at h
      · rename_i v hi
        simp only [Option.some.injEq] at h; subst h
        exact ⟨_, rfl, rfl, rfl, rfl, rfl⟩
      · simp at h
    · simp at h
  case call c =>
    have ha : ∀ x, x ∈ c.args → aeval T' x = aeval T x := fun x hx => hT x (by
      simp only [Call.operands]
      cases c.callee <;> simp [hx])
    simp only [writes] at hH mk
    split at h
    · rename_i hc
      rw [hc] at mk
      split at h
      · rename_i t x ht hx
        rw [ha x (Array.mem_of_getElem? hx)]
        exact let ⟨q', h1, h2⟩ := pureV1 rfl h; mk h1 h2
      · simp at h
    · rename_i hc
      rw [hc] at mk hH
      have e' := hH (.inr rfl)
      subst e'
      split at h
      · rename_i t s x u ht hs hx hu
        rw [ha x (Array.mem_of_getElem? hx), ha s (Array.mem_of_getElem? hs)]
        split at h
        · rename_i h2
          rw [if_pos h2]
          obtain ⟨g1, g2⟩ := append_frame (B' := B') h
          exact mk g1 ⟨hok, rfl, rfl, rfl⟩
        · simp at h
      · simp at h
    · rename_i hc
      rw [hc] at mk
      split at h
      · rename_i x y hl
        rw [ha x (by have : x ∈ c.args.toList := by rw [hl]; simp
                     simpa using this), ha y (by have : y ∈ c.args.toList := by rw [hl]; simp
                                                 simpa using this)]
        exact let ⟨q', h1, h2⟩ := pureV1 rfl h; mk h1 h2
      · simp at h
    · rename_i hc
      rw [hc] at mk
      split at h
      · rename_i x y hl
        rw [ha x (by have : x ∈ c.args.toList := by rw [hl]; simp
                     simpa using this), ha y (by have : y ∈ c.args.toList := by rw [hl]; simp
                                                 simpa using this)]
        exact let ⟨q', h1, h2⟩ := pureV1 rfl h; mk h1 h2
      · simp at h
    · rename_i f hc
      rw [hc] at mk
      split at h
      · rename_i e he
        rw [show c.args.toList.map (aeval T') = c.args.toList.map (aeval T) from List.map_congr_left (fun x hx => ha x (by simpa using hx))]
        exact let ⟨q', h1, h2⟩ := pureV1 rfl h; mk h1 h2
      · simp at h
    · simp at h
end Go.Mu
