/-
  What pipes.Same and muslinref19.SamePipe tell.
-/
import Derived.Test.YtlbmedmddoljnaaPMay
set_option linter.unusedVariables false
set_option linter.unusedSimpArgs false
set_option maxRecDepth 100000
namespace Go.Mu
open Go Go.Proofs
def all2 {α : Type} (f : α → α → Bool) : List α → List α → Bool
  | [], [] => true
  | x :: xs, y :: ys => f x y && all2 f xs ys
  | _, _ => false
theorem all2_len {α : Type} {f : α → α → Bool} : ∀ (a b : List α), a.length ≠ b.length → all2 f a b = false
  | [], [], h => absurd rfl h
  | [], _ :: _, _ => rfl
  | _ :: _, [], _ => rfl
  | x :: xs, y :: ys, h => by
    simp only [all2, all2_len xs ys (by simpa using h), Bool.and_false]
theorem all2_any {α : Type} {f : α → α → Bool} (d : α) : ∀ (a b : List α), a.length = b.length → (List.range a.length).any (fun i => !f (a.getD i d) (b.getD i d)) = !all2 f a b
  | [], [], _ => rfl
  | [], _ :: _, h => by simp at h
  | _ :: _, [], h => by simp at h
  | x :: xs, y :: ys, h => by
    have ih := all2_any (f := f) d xs ys (by simpa using h)
    rw [List.length_cons, List.range_succ_eq_map, List.any_cons, List.any_map]
    have e : ((fun i => !f ((x :: xs).getD i d) ((y :: ys).getD i d)) ∘ Nat.succ) = fun i => !f (xs.getD i d) (ys.getD i d) := by
      funext i; simp [List.getD_eq_getElem?_getD]
    rw [e, ih]
    simp [all2]
theorem all2_refl {α : Type} {f : α → α → Bool} : ∀ a : List α, (∀ x ∈ a, f x x = true) → all2 f a a = true
  | [], _ => rfl
  | x :: xs, h => by
    simp only [all2, h x (by simp), all2_refl xs (fun y hy => h y (by simp [hy])), Bool.and_self]
theorem all2_congr {α : Type} {f g : α → α → Bool} : ∀ a b : List α, (∀ x y, f x y = g x y) → all2 f a b = all2 g a b
  | [], [], _ => rfl
  | [], _ :: _, _ => rfl
  | _ :: _, [], _ => rfl
  | x :: xs, y :: ys, h => by simp only [all2, h, all2_congr xs ys h]
abbrev eqS (a b : List UInt8) : Bool := a == b

/- slices.Equal of texts -/
abbrev encT (full : Bool) (l : List (List UInt8)) : AVal := encL full encS [] l
theorem decT_enc (full : Bool) (l : List (List UInt8)) : decL decS (encT full l) = l := decL_encL (fun s => rfl) l
noncomputable def eqsSp : LSp := fun vs bs H k => match vs with
  | [x, y, .int .i64 n, .int .i64 z] => cond (tst (x = encT (fullOf x) (decL decS x) ∧ y = encT (fullOf y) (decL decS y) ∧ n = (decL decS x).length ∧ z = 0 ∧ (decL decS x).length = (decL decS y).length ∧ (decL decS x).length ≤ 1099511627776 ∧ bs = []))
      (cond (!all2 eqS (decL decS x) (decL decS y)) (k .ret [.bool false] [] H) (k (.exit 0) [.undef] [] H)) none
  | _ => none
noncomputable def eqsFH : FH := .of [(4, loopSpec 26 [0,1,12,13] [] [4] [] eqsSp)]
noncomputable abbrev eqsTurn := lturn Try.prog layK eqsFH 101 4 [0,1,12,13] [] [4] []
theorem eqs_step0 (fa fb : Bool) (a b : List (List UInt8)) (i : Nat) (H : Heap) (D : List (FuncId × List AVal)) (k : Kont) : eqsTurn (stL 26 [0,1,12,13] [encT fa a, encT fb b, .int .i64 a.length, .int .i64 i] [] [] H D) k =
    cond (decide ((i : Int) < a.length)) (cond (decide ((i : Int) < a.length)) (cond (decide ((i : Int) < b.length)) (cond (!(a.getD (i : Int).toNat [] == b.getD (i : Int).toNat [])) (k .ret (stL 26 [4] [.bool false] [] [] H D))
      (k .normal (stL 26 [0,1,12,13] [encT fa a, encT fb b, .int .i64 a.length, .int .i64 (IntKind.i64.wrap ((i : Int) + 1))] [] [] H D))) none) none)
      (k (.exit 0) (stL 26 [4] [.undef] [] [] H D)) := by kernel_rfl
theorem eqsSp_ok : SpOK eqsTurn 26 [0,1,12,13] [] [4] [] eqsSp := by
  intro vs bs H k out ho
  unfold eqsSp at ho
  split at ho
  case h_2 => simp at ho
  rename_i x y n z
  rw [Bool.cond_eq_ite] at ho
  split at ho
  case isFalse => simp at ho
  rename_i hc
  obtain ⟨hx, hy, rfl, rfl, hab, hn, rfl⟩ := of_tst hc
  generalize fullOf x = fa at hx
  generalize fullOf y = fb at hy
  generalize decL decS x = a at hx hab hn ho
  generalize decL decS y = b at hy hab ho
  subst hx hy
  have hrun := fun D k => search_any (turn := eqsTurn) (S := fun i => stL 26 [0,1,12,13] [encT fa a, encT fb b, .int .i64 a.length, .int .i64 (i : Nat)] [] [] H D) (hit := fun i => !eqS (a.getD i []) (b.getD i [])) (n := a.length) (e0 := .exit 0) (e1 := .ret) (R0 := stL 26 [4] [.undef] [] [] H D) (R1 := stL 26 [4] [.bool false] [] [] H D)
    (fun i k hi => by rw [eqs_step0, decide_eq_true (show (i : Int) < a.length by omega), decide_eq_true (show (i : Int) < b.length by omega), wrap_add1 (by omega), Int.toNat_natCast]; rfl)
    (fun k => by rw [eqs_step0, decide_eq_false (by omega)]; rfl) (by simp) (by simp) k
  rw [all2_any [] a b hab] at hrun
  cases ha : !all2 eqS a b with
  | true =>
    rw [ha] at ho
    exact ⟨_, _, _, _, _, _, .refl _, ⟨_, fun D k => (hrun D k).trans (by rw [ha]; rfl)⟩, .refl _, ho⟩
  | false =>
    rw [ha] at ho
    exact ⟨_, _, _, _, _, _, .refl _, ⟨_, fun D k => (hrun D k).trans (by rw [ha]; rfl)⟩, .refl _, ho⟩
noncomputable def layL : Lay := layK.addL 101 eqsFH
theorem layL_ok : layL.OK Try.prog := layK_ok.loop1 (id := 4) (by kernel_rfl) (by kernel_rfl) (by kernel_rfl) eqsSp_ok
theorem eqs_fun (fa fb : Bool) (a b : List (List UInt8)) (k : Out → Ans) : iFun Try.prog (layL.hd Try.prog) layL.fhs 0 101 [encT fa a, encT fb b] [] k =
    cond ((a.length : Int) != b.length) (k (.ret (.bool false) []))
      (cond (tst (encT fa a = encT (fullOf (encT fa a)) (decL decS (encT fa a)) ∧ encT fb b = encT (fullOf (encT fb b)) (decL decS (encT fb b)) ∧ (a.length : Int) = (decL decS (encT fa a)).length ∧ (0 : Int) = 0 ∧ (decL decS (encT fa a)).length = (decL decS (encT fb b)).length ∧ (decL decS (encT fa a)).length ≤ 1099511627776 ∧ ([] : List (List AVal)) = []))
        (cond (!all2 eqS (decL decS (encT fa a)) (decL decS (encT fb b))) (k (.ret (.bool false) [])) (k (.ret (.bool true) []))) none) := by kernel_rfl
theorem len_ne {α : Type} (a b : List α) : ((a.length : Int) != b.length) = !decide (a.length = b.length) := by
  by_cases h : a.length = b.length
  · rw [decide_eq_true h, h]; simp
  · rw [decide_eq_false h]
    have : ((a.length : Int) == b.length) = false := beq_false_of_ne (by omega)
    simp [bne, this]
theorem eqs_call {a b : List (List UInt8)} (hn : a.length ≤ 1099511627776) (fa fb : Bool) (k : Out → Ans) : iFun Try.prog (layL.hd Try.prog) layL.fhs 0 101 [encT fa a, encT fb b] [] k = k (.ret (.bool (all2 eqS a b)) []) := by
  rw [eqs_fun, len_ne, decT_enc, decT_enc]
  by_cases h : a.length = b.length
  · rw [decide_eq_true h, tst_true ⟨rfl, rfl, rfl, rfl, h, hn, rfl⟩]
    cases all2 eqS a b <;> rfl
  · rw [decide_eq_false h, all2_len a b h]; rfl
noncomputable def eqsTold : FSp := fun xs H k => match xs, H with
  | [x, y], [] => cond (tst (x = encT (fullOf x) (decL decS x) ∧ y = encT (fullOf y) (decL decS y) ∧ (decL decS x).length ≤ 1099511627776)) (k (.ret (.bool (all2 eqS (decL decS x) (decL decS y))) [])) none
  | _, _ => none
theorem eqsTold_ok (xs : List AVal) (H : Heap) (k : Out → Ans) (out : Out) (ho : eqsTold xs H k = some out) : ∃ o, CallOK Try.prog 101 xs H o ∧ k o = some out := by
  unfold eqsTold at ho
  split at ho
  · rename_i x y
    rw [Bool.cond_eq_ite] at ho
    split at ho
    · rename_i hc
      obtain ⟨hx, hy, hn⟩ := of_tst hc
      generalize fullOf x = fa at hx
      generalize fullOf y = fb at hy
      generalize decL decS x = a at hx hn ho
      generalize decL decS y = b at hy ho
      subst hx hy
      exact ⟨_, layL_ok.call (eqs_call hn fa fb), ho⟩
    · simp at ho
  · simp at ho
noncomputable def layM : Lay := layL.addF 101 eqsTold
theorem layM_ok : layM.OK Try.prog := layL_ok.addF eqsTold_ok
/-- are two arguments one? -/
def argEq (a b : ArgD) : Bool := a.kind == b.kind && a.name == b.name && a.int == b.int && a.text == b.text && all2 eqS a.path b.path

theorem argEq_refl (a : ArgD) : argEq a a = true := by
  unfold argEq
  simp only [beq_self_eq_true, Bool.true_and]
  exact all2_refl _ (fun s _ => by simp)
theorem sameArg_fun (a b : ArgD) (k : Out → Ans) : iFun Try.prog (layM.hd Try.prog) layM.fhs 0 92 [.agg (encArg a), .agg (encArg b)] [] k =
    cond (tst (encT a.pf a.path = encT (fullOf (encT a.pf a.path)) (decL decS (encT a.pf a.path)) ∧ encT b.pf b.path = encT (fullOf (encT b.pf b.path)) (decL decS (encT b.pf b.path)) ∧ (decL decS (encT a.pf a.path)).length ≤ 1099511627776))
      (k (.ret (.bool (cond (cond (cond (cond (a.kind == b.kind) (a.name == b.name) false) (a.int == b.int) false) (a.text == b.text) false) (all2 eqS (decL decS (encT a.pf a.path)) (decL decS (encT b.pf b.path))) false)) [])) none := by kernel_rfl
theorem sameArg_call {a : ArgD} (h : okArg a) (b : ArgD) (k : Out → Ans) : iFun Try.prog (layM.hd Try.prog) layM.fhs 0 92 [.agg (encArg a), .agg (encArg b)] [] k = k (.ret (.bool (argEq a b)) []) := by
  rw [sameArg_fun, decT_enc, decT_enc, tst_true ⟨rfl, rfl, h.1⟩]
  simp only [cond_true, condF]
  rfl
noncomputable def sameArgTold : FSp := fun xs H k => match xs, H with
  | [.agg x, .agg y], [] => cond (tst (x = encArg (decArg x) ∧ y = encArg (decArg y) ∧ okArg (decArg x))) (k (.ret (.bool (argEq (decArg x) (decArg y))) [])) none
  | _, _ => none
theorem sameArgTold_ok (xs : List AVal) (H : Heap) (k : Out → Ans) (out : Out) (ho : sameArgTold xs H k = some out) : ∃ o, CallOK Try.prog 92 xs H o ∧ k o = some out := by
  unfold sameArgTold at ho
  split at ho
  · rename_i x y
    rw [Bool.cond_eq_ite] at ho
    split at ho
    · rename_i hc
      obtain ⟨hx, hy, hn⟩ := of_tst hc
      generalize decArg x = a at hx hn ho
      generalize decArg y = b at hy ho
      subst hx hy
      exact ⟨_, layM_ok.call (sameArg_call hn b), ho⟩
    · simp at ho
  · simp at ho
noncomputable def layN : Lay := layM.addF 92 sameArgTold
theorem layN_ok : layN.OK Try.prog := layM_ok.addF sameArgTold_ok
/- slices.EqualFunc with a function literal that captures nothing -/
noncomputable def eqfSp {α : Type} (E : α → List AVal) (d : α) (g : List AVal → α) (okP : α → Prop) (f : α → α → Bool) (cl : FuncId) : LSp := fun vs bs H k => match vs with
  | [y, .func c [], x, .int .i64 n, .int .i64 z] => cond (tst (c = cl ∧ x = encL (fullOf x) E d (decL g x) ∧ y = encL (fullOf y) E d (decL g y) ∧ n = (decL g x).length ∧ z = 0 ∧ (decL g x).length = (decL g y).length ∧ (decL g x).length ≤ 1099511627776 ∧ (∀ a ∈ decL g x, okP a) ∧ (∀ a ∈ decL g y, okP a) ∧ bs = []))
      (cond (!all2 f (decL g x) (decL g y)) (k .ret [.bool false] [] H) (k (.exit 0) [.undef] [] H)) none
  | _ => none
abbrev eqfSt {α : Type} (E : α → List AVal) (d : α) (cl : FuncId) (fa fb : Bool) (a b : List α) (i : Int) (H : Heap) (D : List (FuncId × List AVal)) : St := stL 32 [1,2,15,16,17] [encL fb E d b, .func cl [], encL fa E d a, .int .i64 a.length, .int .i64 i] [] [] H D
theorem eqf_ok {α : Type} {E : α → List AVal} {d : α} {g : List AVal → α} {okP : α → Prop} {f : α → α → Bool} {cl : FuncId} {turn : St → Kont → Ans}
    (h1 : ∀ (fa fb : Bool) (a b : List α) (i : Nat) (H : Heap) (D : List (FuncId × List AVal)) (k : Kont), okP (a.getD i d) → okP (b.getD i d) → i < a.length → i < b.length → a.length ≤ 1099511627776 → turn (eqfSt E d cl fa fb a b i H D) k =
      cond (!f (a.getD i d) (b.getD i d)) (k .ret (stL 32 [6] [.bool false] [] [] H D)) (k .normal (eqfSt E d cl fa fb a b ((i + 1 : Nat) : Int) H D)))
    (h0 : ∀ (fa fb : Bool) (a b : List α) (H : Heap) (D : List (FuncId × List AVal)) (k : Kont), turn (eqfSt E d cl fa fb a b a.length H D) k = k (.exit 0) (stL 32 [6] [.undef] [] [] H D)) :
    SpOK turn 32 [1,2,15,16,17] [] [6] [] (eqfSp E d g okP f cl) := by
  intro vs bs H k out ho
  unfold eqfSp at ho
  split at ho
  case h_2 => simp at ho
  rename_i y c x n z
  rw [Bool.cond_eq_ite] at ho
  split at ho
  case isFalse => simp at ho
  rename_i hc
  obtain ⟨rfl, hx, hy, rfl, rfl, hab, hn, hoa, hob, rfl⟩ := of_tst hc
  generalize fullOf x = fa at hx
  generalize fullOf y = fb at hy
  generalize decL g x = a at hx hab hn hoa ho
  generalize decL g y = b at hy hab hob ho
  subst hx hy
  have hrun := fun D k => search_any (turn := turn) (S := fun i => eqfSt E d c fa fb a b (i : Nat) H D) (hit := fun i => !f (a.getD i d) (b.getD i d)) (n := a.length) (e0 := .exit 0) (e1 := .ret) (R0 := stL 32 [6] [.undef] [] [] H D) (R1 := stL 32 [6] [.bool false] [] [] H D)
    (fun i k hi => h1 fa fb a b i H D k (getD_ok hoa hi) (getD_ok hob (by omega)) hi (by omega) hn)
    (fun k => h0 fa fb a b H D k) (by simp) (by simp) k
  rw [all2_any d a b hab] at hrun
  cases ha : !all2 f a b with
  | true =>
    rw [ha] at ho
    exact ⟨_, _, _, _, _, _, .refl _, ⟨_, fun D k => (hrun D k).trans (by rw [ha]; rfl)⟩, .refl _, ho⟩
  | false =>
    rw [ha] at ho
    exact ⟨_, _, _, _, _, _, .refl _, ⟨_, fun D k => (hrun D k).trans (by rw [ha]; rfl)⟩, .refl _, ho⟩
/- arguments -/
noncomputable def eqaFH : FH := .of [(4, loopSpec 32 [1,2,15,16,17] [] [6] [] (eqfSp encArg argD0 decArg okArg argEq 92))]
noncomputable abbrev eqaTurn := lturn Try.prog layN eqaFH 91 4 [1,2,15,16,17] [] [6] []
theorem eqa_step0 (fa fb : Bool) (a b : List ArgD) (i : Nat) (H : Heap) (D : List (FuncId × List AVal)) (k : Kont) : eqaTurn (eqfSt encArg argD0 92 fa fb a b i H D) k =
    cond (decide ((i : Int) < a.length)) (cond (decide ((i : Int) < a.length)) (cond (decide ((i : Int) < b.length))
      (cond (tst (encArg (a.getD (i : Int).toNat argD0) = encArg (decArg (encArg (a.getD (i : Int).toNat argD0))) ∧ encArg (b.getD (i : Int).toNat argD0) = encArg (decArg (encArg (b.getD (i : Int).toNat argD0))) ∧ okArg (decArg (encArg (a.getD (i : Int).toNat argD0)))))
        (cond (!argEq (decArg (encArg (a.getD (i : Int).toNat argD0))) (decArg (encArg (b.getD (i : Int).toNat argD0)))) (k .ret (stL 32 [6] [.bool false] [] [] H D)) (k .normal (eqfSt encArg argD0 92 fa fb a b (IntKind.i64.wrap ((i : Int) + 1)) H D))) none) none) none)
      (k (.exit 0) (stL 32 [6] [.undef] [] [] H D)) := by kernel_rfl
theorem eqa_ok : SpOK eqaTurn 32 [1,2,15,16,17] [] [6] [] (eqfSp encArg argD0 decArg okArg argEq 92) :=
  eqf_ok (fun fa fb a b i H D k oa ob ha hb hn => by
    rw [eqa_step0, decide_eq_true (show (i : Int) < a.length by omega), decide_eq_true (show (i : Int) < b.length by omega), wrap_add1 (by omega), Int.toNat_natCast, decArg_enc, decArg_enc, tst_true ⟨rfl, rfl, oa⟩]; rfl)
    (fun fa fb a b H D k => by rw [eqa_step0, decide_eq_false (by omega)]; rfl)
noncomputable def layO : Lay := layN.addL 91 eqaFH
theorem layO_ok : layO.OK Try.prog := layN_ok.loop1 (id := 4) (by kernel_rfl) (by kernel_rfl) (by kernel_rfl) eqa_ok
abbrev encAs (full : Bool) (l : List ArgD) : AVal := encL full encArg argD0 l
theorem decAs_enc (full : Bool) (l : List ArgD) : decL decArg (encAs full l) = l := decL_encL decArg_enc l
theorem eqa_fun (fa fb : Bool) (a b : List ArgD) (k : Out → Ans) : iFun Try.prog (layO.hd Try.prog) layO.fhs 0 91 [encAs fa a, encAs fb b, .func 92 []] [] k =
    cond ((a.length : Int) != b.length) (k (.ret (.bool false) []))
      (cond (tst ((92 : Nat) = 92 ∧ encAs fa a = encAs (fullOf (encAs fa a)) (decL decArg (encAs fa a)) ∧ encAs fb b = encAs (fullOf (encAs fb b)) (decL decArg (encAs fb b)) ∧ (a.length : Int) = (decL decArg (encAs fa a)).length ∧ (0 : Int) = 0 ∧ (decL decArg (encAs fa a)).length = (decL decArg (encAs fb b)).length ∧ (decL decArg (encAs fa a)).length ≤ 1099511627776 ∧ (∀ x ∈ decL decArg (encAs fa a), okArg x) ∧ (∀ x ∈ decL decArg (encAs fb b), okArg x) ∧ ([] : List (List AVal)) = []))
        (cond (!all2 argEq (decL decArg (encAs fa a)) (decL decArg (encAs fb b))) (k (.ret (.bool false) [])) (k (.ret (.bool true) []))) none) := by kernel_rfl
def okArgs (l : List ArgD) : Prop := l.length ≤ 1099511627776 ∧ ∀ a ∈ l, okArg a
theorem eqa_call {a b : List ArgD} (ha : okArgs a) (hb : okArgs b) (fa fb : Bool) (k : Out → Ans) : iFun Try.prog (layO.hd Try.prog) layO.fhs 0 91 [encAs fa a, encAs fb b, .func 92 []] [] k = k (.ret (.bool (all2 argEq a b)) []) := by
  rw [eqa_fun, len_ne, decAs_enc, decAs_enc]
  by_cases h : a.length = b.length
  · rw [decide_eq_true h, tst_true ⟨rfl, rfl, rfl, rfl, rfl, h, ha.1, ha.2, hb.2, rfl⟩]
    cases all2 argEq a b <;> rfl
  · rw [decide_eq_false h, all2_len a b h]; rfl
noncomputable def eqaTold : FSp := fun xs H k => match xs, H with
  | [x, y, .func c []], [] => cond (tst (c = 92 ∧ x = encAs (fullOf x) (decL decArg x) ∧ y = encAs (fullOf y) (decL decArg y) ∧ okArgs (decL decArg x) ∧ okArgs (decL decArg y))) (k (.ret (.bool (all2 argEq (decL decArg x) (decL decArg y))) [])) none
  | _, _ => none
theorem eqaTold_ok (xs : List AVal) (H : Heap) (k : Out → Ans) (out : Out) (ho : eqaTold xs H k = some out) : ∃ o, CallOK Try.prog 91 xs H o ∧ k o = some out := by
  unfold eqaTold at ho
  split at ho
  · rename_i x y c
    rw [Bool.cond_eq_ite] at ho
    split at ho
    · rename_i hc
      obtain ⟨rfl, hx, hy, hn, hm⟩ := of_tst hc
      generalize fullOf x = fa at hx
      generalize fullOf y = fb at hy
      generalize decL decArg x = a at hx hn ho
      generalize decL decArg y = b at hy hm ho
      subst hx hy
      exact ⟨_, layO_ok.call (eqa_call hn hm fa fb), ho⟩
    · simp at ho
  · simp at ho
noncomputable def layP : Lay := layO.addF 91 eqaTold
theorem layP_ok : layP.OK Try.prog := layO_ok.addF eqaTold_ok
/-- are two calls one? -/
def callEq (c d : CallD) : Bool := c.name == d.name && all2 argEq c.args d.args
theorem callEq_refl (c : CallD) : callEq c c = true := by
  unfold callEq
  simp only [beq_self_eq_true, Bool.true_and]
  exact all2_refl _ (fun a _ => argEq_refl a)
def pipeEq (a b : List CallD) : Bool := all2 callEq a b
theorem pipeEq_refl (a : List CallD) : pipeEq a a = true := all2_refl _ (fun c _ => callEq_refl c)

theorem okCall_args {c : CallD} (h : okCall c) : okArgs c.args := ⟨h.1, h.2.1⟩
theorem sameCall_fun (a b : CallD) (k : Out → Ans) : iFun Try.prog (layP.hd Try.prog) layP.fhs 0 90 [.agg (encCall a), .agg (encCall b)] [] k =
    cond (tst ((92 : Nat) = 92 ∧ encAs a.af a.args = encAs (fullOf (encAs a.af a.args)) (decL decArg (encAs a.af a.args)) ∧ encAs b.af b.args = encAs (fullOf (encAs b.af b.args)) (decL decArg (encAs b.af b.args)) ∧ okArgs (decL decArg (encAs a.af a.args)) ∧ okArgs (decL decArg (encAs b.af b.args))))
      (k (.ret (.bool (cond (a.name == b.name) (all2 argEq (decL decArg (encAs a.af a.args)) (decL decArg (encAs b.af b.args))) false)) [])) none := by kernel_rfl
theorem sameCall_call {a b : CallD} (ha : okCall a) (hb : okCall b) (k : Out → Ans) : iFun Try.prog (layP.hd Try.prog) layP.fhs 0 90 [.agg (encCall a), .agg (encCall b)] [] k = k (.ret (.bool (callEq a b)) []) := by
  rw [sameCall_fun, decAs_enc, decAs_enc, tst_true ⟨rfl, rfl, rfl, okCall_args ha, okCall_args hb⟩]
  simp only [cond_true, condF]
  rfl
noncomputable def sameCallTold : FSp := fun xs H k => match xs, H with
  | [.agg x, .agg y], [] => cond (tst (x = encCall (decCall x) ∧ y = encCall (decCall y) ∧ okCall (decCall x) ∧ okCall (decCall y))) (k (.ret (.bool (callEq (decCall x) (decCall y))) [])) none
  | _, _ => none
theorem sameCallTold_ok (xs : List AVal) (H : Heap) (k : Out → Ans) (out : Out) (ho : sameCallTold xs H k = some out) : ∃ o, CallOK Try.prog 90 xs H o ∧ k o = some out := by
  unfold sameCallTold at ho
  split at ho
  · rename_i x y
    rw [Bool.cond_eq_ite] at ho
    split at ho
    · rename_i hc
      obtain ⟨hx, hy, hn, hm⟩ := of_tst hc
      generalize decCall x = a at hx hn ho
      generalize decCall y = b at hy hm ho
      subst hx hy
      exact ⟨_, layP_ok.call (sameCall_call hn hm), ho⟩
    · simp at ho
  · simp at ho
noncomputable def layQ : Lay := layP.addF 90 sameCallTold
theorem layQ_ok : layQ.OK Try.prog := layP_ok.addF sameCallTold_ok
noncomputable def eqcFH : FH := .of [(4, loopSpec 32 [1,2,15,16,17] [] [6] [] (eqfSp encCall callD0 decCall okCall callEq 90))]
noncomputable abbrev eqcTurn := lturn Try.prog layQ eqcFH 89 4 [1,2,15,16,17] [] [6] []
theorem eqc_step0 (fa fb : Bool) (a b : List CallD) (i : Nat) (H : Heap) (D : List (FuncId × List AVal)) (k : Kont) : eqcTurn (eqfSt encCall callD0 90 fa fb a b i H D) k =
    cond (decide ((i : Int) < a.length)) (cond (decide ((i : Int) < a.length)) (cond (decide ((i : Int) < b.length))
      (cond (tst (encCall (a.getD (i : Int).toNat callD0) = encCall (decCall (encCall (a.getD (i : Int).toNat callD0))) ∧ encCall (b.getD (i : Int).toNat callD0) = encCall (decCall (encCall (b.getD (i : Int).toNat callD0))) ∧ okCall (decCall (encCall (a.getD (i : Int).toNat callD0))) ∧ okCall (decCall (encCall (b.getD (i : Int).toNat callD0)))))
        (cond (!callEq (decCall (encCall (a.getD (i : Int).toNat callD0))) (decCall (encCall (b.getD (i : Int).toNat callD0)))) (k .ret (stL 32 [6] [.bool false] [] [] H D)) (k .normal (eqfSt encCall callD0 90 fa fb a b (IntKind.i64.wrap ((i : Int) + 1)) H D))) none) none) none)
      (k (.exit 0) (stL 32 [6] [.undef] [] [] H D)) := by kernel_rfl
theorem eqc_ok : SpOK eqcTurn 32 [1,2,15,16,17] [] [6] [] (eqfSp encCall callD0 decCall okCall callEq 90) :=
  eqf_ok (fun fa fb a b i H D k oa ob ha hb hn => by
    rw [eqc_step0, decide_eq_true (show (i : Int) < a.length by omega), decide_eq_true (show (i : Int) < b.length by omega), wrap_add1 (by omega), Int.toNat_natCast, decCall_enc, decCall_enc, tst_true ⟨rfl, rfl, oa, ob⟩]; rfl)
    (fun fa fb a b H D k => by rw [eqc_step0, decide_eq_false (by omega)]; rfl)
noncomputable def layR : Lay := layQ.addL 89 eqcFH
theorem layR_ok : layR.OK Try.prog := layQ_ok.loop1 (id := 4) (by kernel_rfl) (by kernel_rfl) (by kernel_rfl) eqc_ok
theorem same_fun (fa fb : Bool) (a b : List CallD) (k : Out → Ans) : iFun Try.prog (layR.hd Try.prog) layR.fhs 0 79 [encPipe fa a, encPipe fb b] [] k =
    cond ((a.length : Int) != b.length) (k (.ret (.bool false) []))
      (cond (tst ((90 : Nat) = 90 ∧ encPipe fa a = encPipe (fullOf (encPipe fa a)) (decL decCall (encPipe fa a)) ∧ encPipe fb b = encPipe (fullOf (encPipe fb b)) (decL decCall (encPipe fb b)) ∧ (a.length : Int) = (decL decCall (encPipe fa a)).length ∧ (0 : Int) = 0 ∧ (decL decCall (encPipe fa a)).length = (decL decCall (encPipe fb b)).length ∧ (decL decCall (encPipe fa a)).length ≤ 1099511627776 ∧ (∀ x ∈ decL decCall (encPipe fa a), okCall x) ∧ (∀ x ∈ decL decCall (encPipe fb b), okCall x) ∧ ([] : List (List AVal)) = []))
        (cond (!all2 callEq (decL decCall (encPipe fa a)) (decL decCall (encPipe fb b))) (k (.ret (.bool false) [])) (k (.ret (.bool true) []))) none) := by kernel_rfl
theorem same_call {a b : List CallD} (ha : okPipe a) (hb : okPipe b) (fa fb : Bool) (k : Out → Ans) : iFun Try.prog (layR.hd Try.prog) layR.fhs 0 79 [encPipe fa a, encPipe fb b] [] k = k (.ret (.bool (pipeEq a b)) []) := by
  rw [same_fun, len_ne, decPipe_enc, decPipe_enc]
  unfold pipeEq
  by_cases h : a.length = b.length
  · rw [decide_eq_true h, tst_true ⟨rfl, rfl, rfl, rfl, rfl, h, ha.1, ha.2, hb.2, rfl⟩]
    cases all2 callEq a b <;> rfl
  · rw [decide_eq_false h, all2_len a b h]; rfl
noncomputable def sameTold : FSp := fun xs H k => match xs, H with
  | [x, y], [] => cond (tst (x = encPipe (fullOf x) (decL decCall x) ∧ y = encPipe (fullOf y) (decL decCall y) ∧ okPipe (decL decCall x) ∧ okPipe (decL decCall y))) (k (.ret (.bool (pipeEq (decL decCall x) (decL decCall y))) [])) none
  | _, _ => none
theorem sameTold_ok (xs : List AVal) (H : Heap) (k : Out → Ans) (out : Out) (ho : sameTold xs H k = some out) : ∃ o, CallOK Try.prog 79 xs H o ∧ k o = some out := by
  unfold sameTold at ho
  split at ho
  · rename_i x y
    rw [Bool.cond_eq_ite] at ho
    split at ho
    · rename_i hc
      obtain ⟨hx, hy, hn, hm⟩ := of_tst hc
      generalize fullOf x = fa at hx
      generalize fullOf y = fb at hy
      generalize decL decCall x = a at hx hn ho
      generalize decL decCall y = b at hy hm ho
      subst hx hy
      exact ⟨_, layR_ok.call (same_call hn hm fa fb), ho⟩
    · simp at ho
  · simp at ho
noncomputable def layS : Lay := layR.addF 79 sameTold
theorem layS_ok : layS.OK Try.prog := layR_ok.addF sameTold_ok
end Go.Mu
