/-
  What code.Same and muslinlaw42.same tell: one and the same.
-/
import Derived.Test.YtlbmedmddoljnaaCodeChk
set_option linter.unusedVariables false
set_option linter.unusedSimpArgs false
set_option maxRecDepth 100000
namespace Go.Mu
open Go Go.Proofs
abbrev eqN (a b : Int) : Bool := a == b
noncomputable def eqiSp : LSp := fun vs bs H k => match vs with
  | [x, y, .int .i64 n, .int .i64 z] => cond (tst (x = encIs (fullOf x) (decL decI x) ∧ y = encIs (fullOf y) (decL decI y) ∧ n = (decL decI x).length ∧ z = 0 ∧ (decL decI x).length = (decL decI y).length ∧ (decL decI x).length ≤ 1099511627776 ∧ bs = []))
      (cond (!all2 eqN (decL decI x) (decL decI y)) (k .ret [.bool false] [] H) (k (.exit 0) [.undef] [] H)) none
  | _ => none
noncomputable def eqiFH : FH := .of [(4, loopSpec 26 [0,1,12,13] [] [4] [] eqiSp)]
noncomputable abbrev eqiTurn := lturn Try.prog layZ eqiFH 46 4 [0,1,12,13] [] [4] []
theorem eqi_step0 (fa fb : Bool) (a b : List Int) (i : Nat) (H : Heap) (D : List (FuncId × List AVal)) (k : Kont) : eqiTurn (stL 26 [0,1,12,13] [encIs fa a, encIs fb b, .int .i64 a.length, .int .i64 i] [] [] H D) k =
    cond (decide ((i : Int) < a.length)) (cond (decide ((i : Int) < a.length)) (cond (decide ((i : Int) < b.length)) (cond (a.getD (i : Int).toNat 0 != b.getD (i : Int).toNat 0) (k .ret (stL 26 [4] [.bool false] [] [] H D))
      (k .normal (stL 26 [0,1,12,13] [encIs fa a, encIs fb b, .int .i64 a.length, .int .i64 (IntKind.i64.wrap ((i : Int) + 1))] [] [] H D))) none) none)
      (k (.exit 0) (stL 26 [4] [.undef] [] [] H D)) := by kernel_rfl
theorem eqiSp_ok : SpOK eqiTurn 26 [0,1,12,13] [] [4] [] eqiSp := by
  intro vs bs H k out ho
  unfold eqiSp at ho
  split at ho
  case h_2 => simp at ho
  rename_i x y n z
  rw [Bool.cond_eq_ite] at ho
  split at ho
  case isFalse => simp at ho
  rename_i hc
  obtain ⟨hx, hy, rfl, rfl, hab, hn, rfl⟩ := of_tst hc
  generalize fullOf x = fa at hx
  generalize fullOf y = fb at hy
  generalize decL decI x = a at hx hab hn ho
  generalize decL decI y = b at hy hab ho
  subst hx hy
  have hrun := fun D k => search_any (turn := eqiTurn) (S := fun i => stL 26 [0,1,12,13] [encIs fa a, encIs fb b, .int .i64 a.length, .int .i64 (i : Nat)] [] [] H D) (hit := fun i => !eqN (a.getD i 0) (b.getD i 0)) (n := a.length) (e0 := .exit 0) (e1 := .ret) (R0 := stL 26 [4] [.undef] [] [] H D) (R1 := stL 26 [4] [.bool false] [] [] H D)
    (fun i k hi => by rw [eqi_step0, decide_eq_true (show (i : Int) < a.length by omega), decide_eq_true (show (i : Int) < b.length by omega), wrap_add1 (by omega), Int.toNat_natCast]; rfl)
    (fun k => by rw [eqi_step0, decide_eq_false (by omega)]; rfl) (by simp) (by simp) k
  rw [all2_any 0 a b hab] at hrun
  cases ha : !all2 eqN a b with
  | true =>
    rw [ha] at ho
    exact ⟨_, _, _, _, _, _, .refl _, ⟨_, fun D k => (hrun D k).trans (by rw [ha]; rfl)⟩, .refl _, ho⟩
  | false =>
    rw [ha] at ho
    exact ⟨_, _, _, _, _, _, .refl _, ⟨_, fun D k => (hrun D k).trans (by rw [ha]; rfl)⟩, .refl _, ho⟩
noncomputable def layZa : Lay := layZ.addL 46 eqiFH
theorem layZa_ok : layZa.OK Try.prog := layZ_ok.loop1 (id := 4) (by kernel_rfl) (by kernel_rfl) (by kernel_rfl) eqiSp_ok
theorem eqi_fun (fa fb : Bool) (a b : List Int) (k : Out → Ans) : iFun Try.prog (layZa.hd Try.prog) layZa.fhs 0 46 [encIs fa a, encIs fb b] [] k =
    cond ((a.length : Int) != b.length) (k (.ret (.bool false) []))
      (cond (tst (encIs fa a = encIs (fullOf (encIs fa a)) (decL decI (encIs fa a)) ∧ encIs fb b = encIs (fullOf (encIs fb b)) (decL decI (encIs fb b)) ∧ (a.length : Int) = (decL decI (encIs fa a)).length ∧ (0 : Int) = 0 ∧ (decL decI (encIs fa a)).length = (decL decI (encIs fb b)).length ∧ (decL decI (encIs fa a)).length ≤ 1099511627776 ∧ ([] : List (List AVal)) = []))
        (cond (!all2 eqN (decL decI (encIs fa a)) (decL decI (encIs fb b))) (k (.ret (.bool false) [])) (k (.ret (.bool true) []))) none) := by kernel_rfl
theorem eqi_call {a b : List Int} (hn : a.length ≤ 1099511627776) (fa fb : Bool) (k : Out → Ans) : iFun Try.prog (layZa.hd Try.prog) layZa.fhs 0 46 [encIs fa a, encIs fb b] [] k = k (.ret (.bool (all2 eqN a b)) []) := by
  rw [eqi_fun, len_ne, decIs_enc, decIs_enc]
  by_cases h : a.length = b.length
  · rw [decide_eq_true h, tst_true ⟨rfl, rfl, rfl, rfl, h, hn, rfl⟩]
    cases all2 eqN a b <;> rfl
  · rw [decide_eq_false h, all2_len a b h]; rfl
noncomputable def eqiTold : FSp := fun xs H k => match xs, H with
  | [x, y], [] => cond (tst (x = encIs (fullOf x) (decL decI x) ∧ y = encIs (fullOf y) (decL decI y) ∧ (decL decI x).length ≤ 1099511627776)) (k (.ret (.bool (all2 eqN (decL decI x) (decL decI y))) [])) none
  | _, _ => none
theorem eqiTold_ok (xs : List AVal) (H : Heap) (k : Out → Ans) (out : Out) (ho : eqiTold xs H k = some out) : ∃ o, CallOK Try.prog 46 xs H o ∧ k o = some out := by
  unfold eqiTold at ho
  split at ho
  · rename_i x y
    rw [Bool.cond_eq_ite] at ho
    split at ho
    · rename_i hc
      obtain ⟨hx, hy, hn⟩ := of_tst hc
      generalize fullOf x = fa at hx
      generalize fullOf y = fb at hy
      generalize decL decI x = a at hx hn ho
      generalize decL decI y = b at hy ho
      subst hx hy
      exact ⟨_, layZa_ok.call (eqi_call hn fa fb), ho⟩
    · simp at ho
  · simp at ho
noncomputable def layZb : Lay := layZa.addF 46 eqiTold
theorem layZb_ok : layZb.OK Try.prog := layZa_ok.addF eqiTold_ok

/- muslinplain.SameInts -/
noncomputable def siSp : LSp := fun vs bs H k => match vs with
  | [x, y, .int .i64 z] => cond (tst (x = encIs (fullOf x) (decL decI x) ∧ y = encIs (fullOf y) (decL decI y) ∧ z = 0 ∧ (decL decI x).length = (decL decI y).length ∧ (decL decI x).length ≤ 1099511627776 ∧ bs = []))
      (cond (!all2 eqN (decL decI x) (decL decI y)) (k .ret [.bool false] [] H) (k (.exit 0) [.undef] [] H)) none
  | _ => none
noncomputable def siFH : FH := .of [(4, loopSpec 26 [0,1,5] [] [4] [] siSp)]
noncomputable abbrev siTurn := lturn Try.prog layZb siFH 49 4 [0,1,5] [] [4] []
theorem si_step0 (fa fb : Bool) (a b : List Int) (i : Nat) (H : Heap) (D : List (FuncId × List AVal)) (k : Kont) : siTurn (stL 26 [0,1,5] [encIs fa a, encIs fb b, .int .i64 i] [] [] H D) k =
    cond (decide ((i : Int) < a.length)) (cond (decide ((i : Int) < a.length)) (cond (decide ((i : Int) < b.length)) (cond (a.getD (i : Int).toNat 0 != b.getD (i : Int).toNat 0) (k .ret (stL 26 [4] [.bool false] [] [] H D))
      (k .normal (stL 26 [0,1,5] [encIs fa a, encIs fb b, .int .i64 (IntKind.i64.wrap ((i : Int) + 1))] [] [] H D))) none) none)
      (k (.exit 0) (stL 26 [4] [.undef] [] [] H D)) := by kernel_rfl
theorem siSp_ok : SpOK siTurn 26 [0,1,5] [] [4] [] siSp := by
  intro vs bs H k out ho
  unfold siSp at ho
  split at ho
  case h_2 => simp at ho
  rename_i x y z
  rw [Bool.cond_eq_ite] at ho
  split at ho
  case isFalse => simp at ho
  rename_i hc
  obtain ⟨hx, hy, rfl, hab, hn, rfl⟩ := of_tst hc
  generalize fullOf x = fa at hx
  generalize fullOf y = fb at hy
  generalize decL decI x = a at hx hab hn ho
  generalize decL decI y = b at hy hab ho
  subst hx hy
  have hrun := fun D k => search_any (turn := siTurn) (S := fun i => stL 26 [0,1,5] [encIs fa a, encIs fb b, .int .i64 (i : Nat)] [] [] H D) (hit := fun i => !eqN (a.getD i 0) (b.getD i 0)) (n := a.length) (e0 := .exit 0) (e1 := .ret) (R0 := stL 26 [4] [.undef] [] [] H D) (R1 := stL 26 [4] [.bool false] [] [] H D)
    (fun i k hi => by rw [si_step0, decide_eq_true (show (i : Int) < a.length by omega), decide_eq_true (show (i : Int) < b.length by omega), wrap_add1 (by omega), Int.toNat_natCast]; rfl)
    (fun k => by rw [si_step0, decide_eq_false (by omega)]; rfl) (by simp) (by simp) k
  rw [all2_any 0 a b hab] at hrun
  cases ha : !all2 eqN a b with
  | true =>
    rw [ha] at ho
    exact ⟨_, _, _, _, _, _, .refl _, ⟨_, fun D k => (hrun D k).trans (by rw [ha]; rfl)⟩, .refl _, ho⟩
  | false =>
    rw [ha] at ho
    exact ⟨_, _, _, _, _, _, .refl _, ⟨_, fun D k => (hrun D k).trans (by rw [ha]; rfl)⟩, .refl _, ho⟩
noncomputable def layZc : Lay := layZb.addL 49 siFH
theorem layZc_ok : layZc.OK Try.prog := layZb_ok.loop1 (id := 4) (by kernel_rfl) (by kernel_rfl) (by kernel_rfl) siSp_ok
theorem si_fun (fa fb : Bool) (a b : List Int) (k : Out → Ans) : iFun Try.prog (layZc.hd Try.prog) layZc.fhs 0 49 [encIs fa a, encIs fb b] [] k =
    cond ((a.length : Int) != b.length) (k (.ret (.bool false) []))
      (cond (tst (encIs fa a = encIs (fullOf (encIs fa a)) (decL decI (encIs fa a)) ∧ encIs fb b = encIs (fullOf (encIs fb b)) (decL decI (encIs fb b)) ∧ (0 : Int) = 0 ∧ (decL decI (encIs fa a)).length = (decL decI (encIs fb b)).length ∧ (decL decI (encIs fa a)).length ≤ 1099511627776 ∧ ([] : List (List AVal)) = []))
        (cond (!all2 eqN (decL decI (encIs fa a)) (decL decI (encIs fb b))) (k (.ret (.bool false) [])) (k (.ret (.bool true) []))) none) := by kernel_rfl
theorem si_call {a b : List Int} (hn : a.length ≤ 1099511627776) (fa fb : Bool) (k : Out → Ans) : iFun Try.prog (layZc.hd Try.prog) layZc.fhs 0 49 [encIs fa a, encIs fb b] [] k = k (.ret (.bool (all2 eqN a b)) []) := by
  rw [si_fun, len_ne, decIs_enc, decIs_enc]
  by_cases h : a.length = b.length
  · rw [decide_eq_true h, tst_true ⟨rfl, rfl, rfl, h, hn, rfl⟩]
    cases all2 eqN a b <;> rfl
  · rw [decide_eq_false h, all2_len a b h]; rfl
theorem siTold_ok (xs : List AVal) (H : Heap) (k : Out → Ans) (out : Out) (ho : eqiTold xs H k = some out) : ∃ o, CallOK Try.prog 49 xs H o ∧ k o = some out := by
  unfold eqiTold at ho
  split at ho
  · rename_i x y
    rw [Bool.cond_eq_ite] at ho
    split at ho
    · rename_i hc
      obtain ⟨hx, hy, hn⟩ := of_tst hc
      generalize fullOf x = fa at hx
      generalize fullOf y = fb at hy
      generalize decL decI x = a at hx hn ho
      generalize decL decI y = b at hy ho
      subst hx hy
      exact ⟨_, layZc_ok.call (si_call hn fa fb), ho⟩
    · simp at ho
  · simp at ho
noncomputable def layZd : Lay := layZc.addF 49 eqiTold
theorem layZd_ok : layZd.OK Try.prog := layZc_ok.addF siTold_ok
/-- are two steps one? -/
def opEq (a b : OpD) : Bool := a.kind == b.kind && a.a == b.a && a.text == b.text && a.at_ == b.at_ && pipeEq a.pipe b.pipe
theorem opEq_refl (a : OpD) : opEq a a = true := by
  unfold opEq
  simp only [beq_self_eq_true, Bool.true_and]
  exact pipeEq_refl _
def codeEq (a b : CodeD) : Bool := all2 eqN a.units b.units && all2 opEq a.ops b.ops
theorem codeEq_refl (a : CodeD) : codeEq a a = true := by
  unfold codeEq
  rw [all2_refl _ (fun x _ => by simp), all2_refl _ (fun x _ => opEq_refl x)]; rfl

theorem sameOp_fun (a b : OpD) (k : Out → Ans) : iFun Try.prog (layZd.hd Try.prog) layZd.fhs 0 48 [.agg (encOp a), .agg (encOp b)] [] k =
    cond (tst (encPipe a.pf a.pipe = encPipe (fullOf (encPipe a.pf a.pipe)) (decL decCall (encPipe a.pf a.pipe)) ∧ encPipe b.pf b.pipe = encPipe (fullOf (encPipe b.pf b.pipe)) (decL decCall (encPipe b.pf b.pipe)) ∧ okPipe (decL decCall (encPipe a.pf a.pipe)) ∧ okPipe (decL decCall (encPipe b.pf b.pipe))))
      (k (.ret (.bool (cond (cond (cond (cond (a.kind == b.kind) (a.a == b.a) false) (a.text == b.text) false) (a.at_ == b.at_) false) (pipeEq (decL decCall (encPipe a.pf a.pipe)) (decL decCall (encPipe b.pf b.pipe))) false)) [])) none := by kernel_rfl
theorem sameOp_call {a b : OpD} (ha : okOpD a) (hb : okOpD b) (k : Out → Ans) : iFun Try.prog (layZd.hd Try.prog) layZd.fhs 0 48 [.agg (encOp a), .agg (encOp b)] [] k = k (.ret (.bool (opEq a b)) []) := by
  rw [sameOp_fun, decPipe_enc, decPipe_enc, tst_true ⟨rfl, rfl, ha, hb⟩]
  simp only [cond_true, condF]
  rfl
noncomputable def sameOpTold : FSp := fun xs H k => match xs, H with
  | [.agg x, .agg y], [] => cond (tst (x = encOp (decOp x) ∧ y = encOp (decOp y) ∧ okOpD (decOp x) ∧ okOpD (decOp y))) (k (.ret (.bool (opEq (decOp x) (decOp y))) [])) none
  | _, _ => none
theorem sameOpTold_ok (xs : List AVal) (H : Heap) (k : Out → Ans) (out : Out) (ho : sameOpTold xs H k = some out) : ∃ o, CallOK Try.prog 48 xs H o ∧ k o = some out := by
  unfold sameOpTold at ho
  split at ho
  · rename_i x y
    rw [Bool.cond_eq_ite] at ho
    split at ho
    · rename_i hc
      obtain ⟨hx, hy, hn, hm⟩ := of_tst hc
      generalize decOp x = a at hx hn ho
      generalize decOp y = b at hy hm ho
      subst hx hy
      exact ⟨_, layZd_ok.call (sameOp_call hn hm), ho⟩
    · simp at ho
  · simp at ho
noncomputable def layZe : Lay := layZd.addF 48 sameOpTold
theorem layZe_ok : layZe.OK Try.prog := layZd_ok.addF sameOpTold_ok
noncomputable def eqoFH : FH := .of [(4, loopSpec 32 [1,2,15,16,17] [] [6] [] (eqfSp encOp opD0 decOp okOpD opEq 48))]
abbrev eqoF : Nat := 47
theorem eqo_step0 (fa fb : Bool) (a b : List OpD) (i : Nat) (H : Heap) (D : List (FuncId × List AVal)) (k : Kont) : lturn Try.prog layZe eqoFH eqoF 4 [1,2,15,16,17] [] [6] [] (eqfSt encOp opD0 48 fa fb a b i H D) k =
    cond (decide ((i : Int) < a.length)) (cond (decide ((i : Int) < a.length)) (cond (decide ((i : Int) < b.length))
      (cond (tst (encOp (a.getD (i : Int).toNat opD0) = encOp (decOp (encOp (a.getD (i : Int).toNat opD0))) ∧ encOp (b.getD (i : Int).toNat opD0) = encOp (decOp (encOp (b.getD (i : Int).toNat opD0))) ∧ okOpD (decOp (encOp (a.getD (i : Int).toNat opD0))) ∧ okOpD (decOp (encOp (b.getD (i : Int).toNat opD0)))))
        (cond (!opEq (decOp (encOp (a.getD (i : Int).toNat opD0))) (decOp (encOp (b.getD (i : Int).toNat opD0)))) (k .ret (stL 32 [6] [.bool false] [] [] H D)) (k .normal (eqfSt encOp opD0 48 fa fb a b (IntKind.i64.wrap ((i : Int) + 1)) H D))) none) none) none)
      (k (.exit 0) (stL 32 [6] [.undef] [] [] H D)) := by kernel_rfl
noncomputable def layZf : Lay := layZe.addL eqoF eqoFH
theorem layZf_ok : layZf.OK Try.prog := layZe_ok.loop1 (id := 4) (by kernel_rfl) (by kernel_rfl) (by kernel_rfl) (eqf_ok (okP := okOpD) (f := opEq) (g := decOp) (fun fa fb a b i H D k oa ob ha hb hn => by
    rw [eqo_step0, decide_eq_true (show (i : Int) < a.length by omega), decide_eq_true (show (i : Int) < b.length by omega), wrap_add1 (by omega), Int.toNat_natCast, decOp_enc, decOp_enc, tst_true ⟨rfl, rfl, oa, ob⟩]; rfl)
    (fun fa fb a b H D k => by rw [eqo_step0, decide_eq_false (by omega)]; rfl))
theorem eqo_fun (fa fb : Bool) (a b : List OpD) (k : Out → Ans) : iFun Try.prog (layZf.hd Try.prog) layZf.fhs 0 eqoF [encOps fa a, encOps fb b, .func 48 []] [] k =
    cond ((a.length : Int) != b.length) (k (.ret (.bool false) []))
      (cond (tst ((48 : Nat) = 48 ∧ encOps fa a = encOps (fullOf (encOps fa a)) (decL decOp (encOps fa a)) ∧ encOps fb b = encOps (fullOf (encOps fb b)) (decL decOp (encOps fb b)) ∧ (a.length : Int) = (decL decOp (encOps fa a)).length ∧ (0 : Int) = 0 ∧ (decL decOp (encOps fa a)).length = (decL decOp (encOps fb b)).length ∧ (decL decOp (encOps fa a)).length ≤ 1099511627776 ∧ (∀ x ∈ decL decOp (encOps fa a), okOpD x) ∧ (∀ x ∈ decL decOp (encOps fb b), okOpD x) ∧ ([] : List (List AVal)) = []))
        (cond (!all2 opEq (decL decOp (encOps fa a)) (decL decOp (encOps fb b))) (k (.ret (.bool false) [])) (k (.ret (.bool true) []))) none) := by kernel_rfl
def okOps (l : List OpD) : Prop := l.length ≤ 1099511627776 ∧ ∀ a ∈ l, okOpD a
theorem eqo_call {a b : List OpD} (ha : okOps a) (hb : okOps b) (fa fb : Bool) (k : Out → Ans) : iFun Try.prog (layZf.hd Try.prog) layZf.fhs 0 eqoF [encOps fa a, encOps fb b, .func 48 []] [] k = k (.ret (.bool (all2 opEq a b)) []) := by
  rw [eqo_fun, len_ne, decOps_enc, decOps_enc]
  by_cases h : a.length = b.length
  · rw [decide_eq_true h, tst_true ⟨rfl, rfl, rfl, rfl, rfl, h, ha.1, ha.2, hb.2, rfl⟩]
    cases all2 opEq a b <;> rfl
  · rw [decide_eq_false h, all2_len a b h]; rfl
noncomputable def eqoTold : FSp := fun xs H k => match xs, H with
  | [x, y, .func c []], [] => cond (tst (c = 48 ∧ x = encOps (fullOf x) (decL decOp x) ∧ y = encOps (fullOf y) (decL decOp y) ∧ okOps (decL decOp x) ∧ okOps (decL decOp y))) (k (.ret (.bool (all2 opEq (decL decOp x) (decL decOp y))) [])) none
  | _, _ => none
theorem eqoTold_ok (xs : List AVal) (H : Heap) (k : Out → Ans) (out : Out) (ho : eqoTold xs H k = some out) : ∃ o, CallOK Try.prog eqoF xs H o ∧ k o = some out := by
  unfold eqoTold at ho
  split at ho
  · rename_i x y c
    rw [Bool.cond_eq_ite] at ho
    split at ho
    · rename_i hc
      obtain ⟨rfl, hx, hy, hn, hm⟩ := of_tst hc
      generalize fullOf x = fa at hx
      generalize fullOf y = fb at hy
      generalize decL decOp x = a at hx hn ho
      generalize decL decOp y = b at hy hm ho
      subst hx hy
      exact ⟨_, layZf_ok.call (eqo_call hn hm fa fb), ho⟩
    · simp at ho
  · simp at ho
noncomputable def layZg : Lay := layZf.addF eqoF eqoTold
theorem layZg_ok : layZg.OK Try.prog := layZf_ok.addF eqoTold_ok
/- muslinlaw42.same: its loop -/
noncomputable def lsSp : LSp := fun vs bs H k => match vs, bs with
  | [.ptr (.tmp 2) 0, .ptr (.tmp 3) 0, .int .i64 z], [c, d] => cond (tst (c = encCode (decCode c) ∧ d = encCode (decCode d) ∧ z = 0 ∧ (decCode c).ops.length = (decCode d).ops.length ∧ okCode (decCode c) ∧ okCode (decCode d)))
      (cond (!all2 opEq (decCode c).ops (decCode d).ops) (k .ret [.bool false] [] H) (k (.exit 0) [.undef] [] H)) none
  | _, _ => none
noncomputable def lsFH : FH := .of [(4, loopSpec 74 [2,3,5] [2,3] [4] [] lsSp)]
noncomputable abbrev lsTurn := lturn Try.prog layZg lsFH 23 4 [2,3,5] [2,3] [4] []
abbrev lsSt (c d : CodeD) (i : Int) (H : Heap) (D : List (FuncId × List AVal)) : St := stL 74 [2,3,5] [.ptr (.tmp 2) 0, .ptr (.tmp 3) 0, .int .i64 i] [2,3] [encCode c, encCode d] H D
theorem ls_step0 (c d : CodeD) (i : Nat) (H : Heap) (D : List (FuncId × List AVal)) (k : Kont) : lsTurn (lsSt c d i H D) k =
    cond (decide ((i : Int) < c.ops.length)) (cond (decide ((i : Int) < c.ops.length)) (cond (decide ((i : Int) < d.ops.length))
      (cond (tst (encPipe (c.ops.getD (i : Int).toNat opD0).pf (c.ops.getD (i : Int).toNat opD0).pipe = encPipe (fullOf (encPipe (c.ops.getD (i : Int).toNat opD0).pf (c.ops.getD (i : Int).toNat opD0).pipe)) (decL decCall (encPipe (c.ops.getD (i : Int).toNat opD0).pf (c.ops.getD (i : Int).toNat opD0).pipe)) ∧ encPipe (d.ops.getD (i : Int).toNat opD0).pf (d.ops.getD (i : Int).toNat opD0).pipe = encPipe (fullOf (encPipe (d.ops.getD (i : Int).toNat opD0).pf (d.ops.getD (i : Int).toNat opD0).pipe)) (decL decCall (encPipe (d.ops.getD (i : Int).toNat opD0).pf (d.ops.getD (i : Int).toNat opD0).pipe)) ∧ okPipe (decL decCall (encPipe (c.ops.getD (i : Int).toNat opD0).pf (c.ops.getD (i : Int).toNat opD0).pipe)) ∧ okPipe (decL decCall (encPipe (d.ops.getD (i : Int).toNat opD0).pf (d.ops.getD (i : Int).toNat opD0).pipe))))
        (cond (cond (cond (cond (cond ((c.ops.getD (i : Int).toNat opD0).kind != (d.ops.getD (i : Int).toNat opD0).kind) true ((c.ops.getD (i : Int).toNat opD0).a != (d.ops.getD (i : Int).toNat opD0).a)) true (!((c.ops.getD (i : Int).toNat opD0).text == (d.ops.getD (i : Int).toNat opD0).text))) true ((c.ops.getD (i : Int).toNat opD0).at_ != (d.ops.getD (i : Int).toNat opD0).at_)) true (!pipeEq (decL decCall (encPipe (c.ops.getD (i : Int).toNat opD0).pf (c.ops.getD (i : Int).toNat opD0).pipe)) (decL decCall (encPipe (d.ops.getD (i : Int).toNat opD0).pf (d.ops.getD (i : Int).toNat opD0).pipe)))) (k .ret (stL 74 [4] [.bool false] [] [] H D))
          (k .normal (lsSt c d (IntKind.i64.wrap ((i : Int) + 1)) H D))) none) none) none)
      (k (.exit 0) (stL 74 [4] [.undef] [] [] H D)) := by kernel_rfl
end Go.Mu
