/-
  Mu: layers of what is told ahead; searches; lists.
-/
import Derived.Test.YtlbmedmddoljnaaDoorMuT
set_option linter.unusedVariables false
set_option linter.unusedSimpArgs false
namespace Go.Mu
open Go
variable {P : Program}

/- layers -/
structure Lay where
  tab : FuncId → Option FSp
  fhs : FuncId → FH
noncomputable def Lay.hd (P : Program) (L : Lay) : Hd := iAll P (Mu.hd L.tab) (fun g => (L.tab g).isSome) L.fhs 0 12
structure Lay.OK (P : Program) (L : Lay) : Prop where
  t : TabOK P L.tab
  l : LoopsOK P L.fhs
theorem Lay.OK.hok {L : Lay} (h : L.OK P) : HOK P (L.hd P) := mu_sound (hd_ok h.t) h.l 0 12
def Lay.nil : Lay := ⟨fun _ => none, fun _ => {}⟩
theorem Lay.nil_ok : Lay.nil.OK P := ⟨fun g s h => by simp [Lay.nil] at h, .none (fun _ _ => rfl)⟩
def Lay.addF (L : Lay) (f : FuncId) (s : FSp) : Lay := ⟨fun g => if g = f then some s else L.tab g, L.fhs⟩
def Lay.addL (L : Lay) (f : FuncId) (fh : FH) : Lay := ⟨L.tab, fun g => if g = f then fh else L.fhs g⟩
theorem Lay.OK.addF {L : Lay} (h : L.OK P) {f : FuncId} {s : FSp} (hs : ∀ xs H k out, s xs H k = some out → ∃ o, CallOK P f xs H o ∧ k o = some out) : (L.addF f s).OK P := by
  refine ⟨fun g s' hg => ?_, h.l⟩
  simp only [Lay.addF] at hg
  split at hg
  · rename_i e; subst e; cases hg; exact hs
  · exact h.t g s' hg
theorem Lay.OK.addL {L : Lay} (h : L.OK P) {f : FuncId} {fh : FH} (hl : LOk P fh (codeOf P f)) : (L.addL f fh).OK P := by
  refine ⟨h.t, fun g fn c hf hb => ?_⟩
  simp only [Lay.addL]
  split
  · rename_i e
    subst e
    have : codeOf P g = c := by unfold codeOf; simp only [hf, hb]
    rw [← this]; exact hl
  · exact h.l g fn c hf hb
theorem Lay.OK.call {L : Lay} (h : L.OK P) {f : FuncId} {xs : List AVal} {H : Heap} {o : Out} (hr : ∀ k, iFun P (L.hd P) L.fhs 0 f xs H k = k o) : CallOK P f xs H o := by
  classical
  have hz : iFun P (L.hd P) L.fhs 0 f xs H (fun o' => if o' = o then some o else none) = some o := (hr _).trans (by simp)
  obtain ⟨o', h1, h2⟩ := iFun_sound h.hok (fun g => ⟨regions_ok h.hok _, h.l g⟩) hz
  split at h2
  · rename_i e; rw [← e]; exact h1
  · simp at h2
noncomputable abbrev lturn (P : Program) (L : Lay) (fh : FH) (f id : Nat) (l m lx mx : List Nat) : St → Kont → Ans := round (iCode P (L.hd P) fh 0 (loopAt id (codeOf P f))) (fg2 l m) (fg2 lx mx)
/-- what a loop's spec must keep -/
def SpOK (turn : St → Kont → Ans) (n : Nat) (l m lx mx : List Nat) (sp : LSp) : Prop := ∀ vs bs H k out, sp vs bs H k = some out → ∃ ws e vs' bs' H' ws', SubTL vs ws ∧ LoopRuns turn n l m lx mx ws bs H e vs' bs' H' ∧ SubTL vs' ws' ∧ k e ws' bs' H' = some out
theorem Lay.OK.told {L : Lay} (h : L.OK P) {fh : FH} {f id n : Nat} {l m lx mx : List Nat} {sp : LSp} (hl : LOk P fh (loopAt id (codeOf P f))) (hs : SpOK (lturn P L fh f id l m lx mx) n l m lx mx sp) : LoopTold P (loopAt id (codeOf P f)) (loopSpec n l m lx mx sp) :=
  loopSpec_ok (F := 0) (regions_ok h.hok _) hl hs
theorem Lay.OK.loop1 {L : Lay} (h : L.OK P) {fh : FH} {f id n : Nat} {l m lx mx : List Nat} {sp : LSp} (e1 : loopsIn (codeOf P f) = [loopAt id (codeOf P f)]) (e2 : loopsIn (loopAt id (codeOf P f)) = [])
    (e3 : fh.loops (firstRegion (loopAt id (codeOf P f))) = some (loopSpec n l m lx mx sp)) (hs : SpOK (lturn P L fh f id l m lx mx) n l m lx mx sp) : (L.addL f fh).OK P := by
  refine h.addL (LOk.of _ (fun d hd sp' hsp => ?_))
  rw [e1, List.mem_singleton] at hd
  subst hd
  rw [e3, Option.some.injEq] at hsp
  subst hsp
  exact h.told (LOk.of _ (fun d hd => by rw [e2] at hd; cases hd)) hs
def FH.of (ls : List (Nat × (St → Kont → Ans))) (fh : FH := {}) : FH := { fh with loops := fun i => ls.lookup i }

/- searches -/
theorem search_from {turn : St → Kont → Ans} {S : Nat → St} {hit : Nat → Bool} {n : Nat} {e0 e1 : AExit} {R0 : St} {R1 : Nat → St} (h1 : ∀ i k, i < n → turn (S i) k = cond (hit i) (k e1 (R1 i)) (k .normal (S (i + 1)))) (h0 : ∀ k, turn (S n) k = k e0 R0) (he0 : e0 ≠ .normal) (he1 : e1 ≠ .normal) (k : Kont) :
    ∀ (m i : Nat), i + m = n → rounds turn (m + 1) (S i) k = match (List.range' i m).find? hit with | some j => k e1 (R1 j) | none => k e0 R0
  | 0, i, he => by
    obtain rfl : i = n := by omega
    rw [rounds_succ', h0]
    cases e0 <;> first | exact absurd rfl he0 | rfl
  | m + 1, i, he => by
    rw [rounds_succ', h1 i _ (by omega), List.range'_succ, List.find?_cons]
    cases hit i with
    | true => cases e1 <;> first | exact absurd rfl he1 | rfl
    | false => exact search_from h1 h0 he0 he1 k m (i + 1) (by omega)
theorem search_find {turn : St → Kont → Ans} {S : Nat → St} {hit : Nat → Bool} {n : Nat} {e0 e1 : AExit} {R0 : St} {R1 : Nat → St} (h1 : ∀ i k, i < n → turn (S i) k = cond (hit i) (k e1 (R1 i)) (k .normal (S (i + 1)))) (h0 : ∀ k, turn (S n) k = k e0 R0) (he0 : e0 ≠ .normal) (he1 : e1 ≠ .normal) (k : Kont) :
    rounds turn (n + 1) (S 0) k = match (List.range n).find? hit with | some j => k e1 (R1 j) | none => k e0 R0 := by
  rw [List.range_eq_range']
  exact search_from h1 h0 he0 he1 k n 0 (by omega)
theorem search_any {turn : St → Kont → Ans} {S : Nat → St} {hit : Nat → Bool} {n : Nat} {e0 e1 : AExit} {R0 R1 : St} (h1 : ∀ i k, i < n → turn (S i) k = cond (hit i) (k e1 R1) (k .normal (S (i + 1)))) (h0 : ∀ k, turn (S n) k = k e0 R0) (he0 : e0 ≠ .normal) (he1 : e1 ≠ .normal) (k : Kont) :
    rounds turn (n + 1) (S 0) k = cond ((List.range n).any hit) (k e1 R1) (k e0 R0) := by
  rw [search_find (R1 := fun _ => R1) h1 h0 he0 he1 k]
  have : (List.range n).any hit = ((List.range n).find? hit).isSome := by
    rw [Bool.eq_iff_iff]; simp
  rw [this]
  cases (List.range n).find? hit <;> rfl

/- lists -/
abbrev encL {α : Type} (full : Bool) (f : α → List AVal) (d : α) (l : List α) : AVal := .list full l.length (fun i => f (l.getD i d))
def decL {α : Type} (g : List AVal → α) : AVal → List α
  | .list _ n row => (List.range n).map (fun i => g (row i))
  | _ => []
def wfL (w : List AVal → Bool) : AVal → Bool
  | .list _ n row => (List.range n).all (fun i => w (row i))
  | _ => false
def fullOf : AVal → Bool
  | .list f _ _ => f
  | _ => false
theorem range_getD {α : Type} (l : List α) (d : α) : (List.range l.length).map (fun i => l.getD i d) = l := by
  apply List.ext_getElem?
  intro i
  rw [List.getElem?_map]
  rcases Nat.lt_or_ge i l.length with h | h
  · rw [List.getElem?_range h]; simp [List.getD_eq_getElem?_getD, List.getElem?_eq_getElem h]
  · rw [List.getElem?_eq_none (by simpa using h), List.getElem?_eq_none h]; rfl
theorem decL_encL {α : Type} {g : List AVal → α} {f : α → List AVal} {d : α} {full : Bool} (h : ∀ a, g (f a) = a) (l : List α) : decL g (encL full f d l) = l := by
  simp only [decL, h]
  exact range_getD l d
theorem wfL_encL {α : Type} {w : List AVal → Bool} {f : α → List AVal} {d : α} {full : Bool} (h : ∀ a, w (f a) = true) (l : List α) : wfL w (encL full f d l) = true := by
  simp [wfL, h]
theorem sub_encL {α : Type} {w : List AVal → Bool} {g : List AVal → α} {f : α → List AVal} {d : α} {x : AVal} (hx : wfL w x = true) (h : ∀ r, w r = true → SubL r (f (g r))) : Sub x (encL (fullOf x) f d (decL g x)) := by
  cases x <;> simp only [wfL, Bool.false_eq_true] at hx
  rename_i full n row
  simp only [decL, fullOf, encL]
  have hl : ((List.range n).map (fun i => g (row i))).length = n := by simp
  rw [hl]
  refine Sub.list (fun h => h) (fun i hi => ?_)
  have : ((List.range n).map (fun i => g (row i))).getD i d = g (row i) := by
    simp [List.getD_eq_getElem?_getD, List.getElem?_range hi]
  rw [this]
  exact h _ (List.all_eq_true.1 hx i (by simpa using hi))
theorem any_getD {α : Type} (p : α → Bool) (l : List α) (d : α) : (List.range l.length).any (fun i => p (l.getD i d)) = l.any p := by
  conv => rhs; rw [← range_getD l d, List.any_map]
  rfl
theorem all_getD {α : Type} (p : α → Bool) (l : List α) (d : α) : (List.range l.length).all (fun i => p (l.getD i d)) = l.all p := by
  conv => rhs; rw [← range_getD l d, List.all_map]
  rfl
theorem find_getD {α : Type} (p : α → Bool) (l : List α) (d : α) : (List.range l.length).find? (fun i => p (l.getD i d)) = if l.any p then some (l.findIdx p) else none := by
  induction l with
  | nil => simp
  | cons a l ih =>
    rw [List.length_cons, List.range_succ_eq_map, List.find?_cons]
    simp only [List.getD_cons_zero, List.find?_map, List.any_cons, List.findIdx_cons]
    cases hp : p a with
    | true => simp
    | false =>
      have : ((fun i => p ((a :: l).getD i d)) ∘ Nat.succ) = fun i => p (l.getD i d) := by
        funext i; simp [List.getD_eq_getElem?_getD]
      rw [this, ih]
      simp only [Bool.false_or, Bool.false_eq_true, if_false, cond_false]
      split <;> simp
theorem wrap_add1 {i : Nat} (h : i < 4611686018427387904) : IntKind.i64.wrap ((i : Int) + 1) = ((i + 1 : Nat) : Int) := by
  simp [IntKind.wrap, IntKind.signed, IntKind.bits]
  omega

/- strings' lists -/
def encS (s : List UInt8) : List AVal := [.str s]
def decS (r : List AVal) : List UInt8 := strOf (r.getD 0 .undef)
def wfS (r : List AVal) : Bool := match r with
  | [.str _] => true
  | _ => false
theorem wfS_sub (r : List AVal) (h : wfS r = true) : SubL r (encS (decS r)) := by
  unfold wfS at h
  split at h
  · exact .refl _
  · simp at h
abbrev encSs (full : Bool) (l : List (List UInt8)) : AVal := encL full encS [] l

def lenL : AVal → Nat
  | .list _ n _ => n
  | _ => 0
theorem lenL_decL {α : Type} {w : List AVal → Bool} {g : List AVal → α} {x : AVal} (hx : wfL w x = true) : (decL g x).length = lenL x := by
  cases x <;> simp only [wfL, Bool.false_eq_true] at hx
  simp [decL, lenL]
theorem list_of_wfL {w : List AVal → Bool} {x : AVal} (hx : wfL w x = true) : noTmp x = true := by
  cases x <;> simp only [wfL, Bool.false_eq_true] at hx
  rfl
theorem subT_encL {α : Type} {w : List AVal → Bool} {g : List AVal → α} {f : α → List AVal} {d : α} {x : AVal} (hx : wfL w x = true) (h : ∀ r, w r = true → SubL r (f (g r))) : SubT x (encL (fullOf x) f d (decL g x)) := (sub_encL hx h).t (list_of_wfL hx)

/-- slices.IndexFunc with a function literal that captures nothing -/
def idxSp {α : Type} (w : List AVal → Bool) (g : List AVal → α) (p : α → Bool) (cl : FuncId) : LSp := fun vs bs H k => match vs with
  | [x, .func c [], .int .i64 n, .int .i64 z] => cond (wfL w x && c == cl && n == (lenL x : Int) && z == 0 && decide (lenL x ≤ 1099511627776) && bs.isEmpty)
      (cond ((decL g x).any p) (k .ret [.int .i64 ((decL g x).findIdx p : Nat)] [] H) (k (.exit 0) [.undef] [] H)) none
  | _ => none
theorem idxSp_ok {α : Type} {w : List AVal → Bool} {g : List AVal → α} {f : α → List AVal} {d : α} {p : α → Bool} {cl : FuncId} {turn : St → Kont → Ans} (hw : ∀ r, w r = true → SubL r (f (g r)))
    (hstep : ∀ (full : Bool) (l : List α) (i : Nat) (H : Heap) (D : List (FuncId × List AVal)) (k : Kont), turn (stL 19 [0,1,7,8] [encL full f d l, .func cl [], .int .i64 l.length, .int .i64 i] [] [] H D) k =
      cond (decide ((i : Int) < l.length)) (cond (decide ((i : Int) < l.length)) (cond (p (l.getD (i : Int).toNat d)) (k .ret (stL 19 [4] [.int .i64 i] [] [] H D)) (k .normal (stL 19 [0,1,7,8] [encL full f d l, .func cl [], .int .i64 l.length, .int .i64 (IntKind.i64.wrap ((i : Int) + 1))] [] [] H D))) none)
        (k (.exit 0) (stL 19 [4] [.undef] [] [] H D))) :
    SpOK turn 19 [0,1,7,8] [] [4] [] (idxSp w g p cl) := by
  intro vs bs H k out ho
  unfold idxSp at ho
  split at ho
  case h_2 => simp at ho
  rename_i x c n z
  rw [Bool.cond_eq_ite] at ho
  split at ho
  case isFalse => simp at ho
  rename_i hc
  simp only [Bool.and_eq_true, beq_iff_eq, decide_eq_true_eq, List.isEmpty_iff] at hc
  obtain ⟨⟨⟨⟨⟨hx, rfl⟩, rfl⟩, rfl⟩, hn⟩, rfl⟩ := hc
  rw [← lenL_decL (g := g) hx] at hn ⊢
  generalize hl : decL g x = l at ho hn ⊢
  have hs : SubT x (encL (fullOf x) f d l) := by rw [← hl]; exact subT_encL hx hw
  have hrun : ∀ D k, rounds turn (l.length + 1) (stL 19 [0,1,7,8] [encL (fullOf x) f d l, .func c [], .int .i64 l.length, .int .i64 0] [] [] H D) k = cond (l.any p) (k .ret (stL 19 [4] [.int .i64 (l.findIdx p : Nat)] [] [] H D)) (k (.exit 0) (stL 19 [4] [.undef] [] [] H D)) := by
    intro D k
    have := search_find (turn := turn) (S := fun i => stL 19 [0,1,7,8] [encL (fullOf x) f d l, .func c [], .int .i64 l.length, .int .i64 (i : Nat)] [] [] H D) (hit := fun i => p (l.getD i d)) (n := l.length) (e0 := .exit 0) (e1 := .ret)
      (R0 := stL 19 [4] [.undef] [] [] H D) (R1 := fun i => stL 19 [4] [.int .i64 (i : Nat)] [] [] H D) (fun i k hi => by
        rw [hstep, decide_eq_true (show (i : Int) < l.length by omega), wrap_add1 (by omega)]; rfl) (fun k => by rw [hstep, decide_eq_false (by omega)]; rfl) (by simp) (by simp) k
    rw [find_getD] at this
    refine Eq.trans this ?_
    cases l.any p <;> rfl
  cases ha : l.any p with
  | true =>
    rw [ha] at ho
    exact ⟨_, _, _, _, _, _, .cons hs (.refl _), ⟨_, fun D k => by rw [hrun, ha]; rfl⟩, .refl _, ho⟩
  | false =>
    rw [ha] at ho
    exact ⟨_, _, _, _, _, _, .cons hs (.refl _), ⟨_, fun D k => by rw [hrun, ha]; rfl⟩, .refl _, ho⟩
/- octets -/
def decB (r : List AVal) : UInt8 := byteOf r
def wfB (r : List AVal) : Bool := match r with
  | [.int .u8 n] => decide (0 ≤ n) && decide (n < 256)
  | _ => false
theorem wfB_sub (r : List AVal) (h : wfB r = true) : SubL r (byteRow (decB r)) := by
  unfold wfB at h
  split at h
  · rename_i n
    simp only [Bool.and_eq_true, decide_eq_true_eq] at h
    have : byteRow (decB [.int .u8 n]) = [.int .u8 n] := by
      simp only [byteRow, decB, byteOf, List.getD_cons_zero, intOf]
      congr 2
      have : n.toNat < 256 := by omega
      simp [UInt8.toNat_ofNat', Nat.mod_eq_of_lt this]
      omega
    rw [this]; exact .refl _
  · simp at h
theorem decB_enc (c : UInt8) : decB (byteRow c) = c := by
  simp [decB, byteRow, byteOf, intOf]
theorem wfB_enc (c : UInt8) : wfB (byteRow c) = true := by
  have := c.toNat_lt
  simp [wfB, byteRow]
  omega
/-- a statement as a test -/
noncomputable def tst (p : Prop) : Bool := @decide p (Classical.propDecidable p)
theorem tst_true {p : Prop} (h : p) : tst p = true := by unfold tst; exact @decide_eq_true _ (Classical.propDecidable p) h
theorem of_tst {p : Prop} (h : tst p = true) : p := by unfold tst at h; exact @of_decide_eq_true _ (Classical.propDecidable p) h
end Go.Mu
