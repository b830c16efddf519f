/-
  What code.Same and muslinlaw42.same tell of two codes.
-/
import Derived.Test.YtlbmedmddoljnaaCodeSame
set_option linter.unusedVariables false
set_option linter.unusedSimpArgs false
set_option maxRecDepth 100000
namespace Go.Mu
open Go Go.Proofs
theorem ls_step (c d : CodeD) (i : Nat) (H : Heap) (D : List (FuncId × List AVal)) (k : Kont) (hc : okCode c) (hd : okCode d) (hi : i < c.ops.length) (hib : i < d.ops.length) :
    lsTurn (lsSt c d i H D) k = cond (!opEq (c.ops.getD i opD0) (d.ops.getD i opD0)) (k .ret (stL 74 [4] [.bool false] [] [] H D)) (k .normal (lsSt c d ((i + 1 : Nat) : Int) H D)) := by
  have hn := hc.1
  have oa : okOpD (c.ops.getD i opD0) := getD_ok hc.2.2 hi
  have ob : okOpD (d.ops.getD i opD0) := getD_ok hd.2.2 hib
  rw [ls_step0, decide_eq_true (show (i : Int) < c.ops.length by omega), decide_eq_true (show (i : Int) < d.ops.length by omega), wrap_add1 (by omega), Int.toNat_natCast]
  generalize c.ops.getD i opD0 = x at oa ⊢
  generalize d.ops.getD i opD0 = y at ob ⊢
  rw [decPipe_enc, decPipe_enc, tst_true ⟨rfl, rfl, oa, ob⟩]
  unfold opEq
  rw [show (x.kind != y.kind) = (!(x.kind == y.kind)) from rfl, show (x.a != y.a) = (!(x.a == y.a)) from rfl, show (x.at_ != y.at_) = (!(x.at_ == y.at_)) from rfl]
  generalize (x.kind == y.kind) = b1
  generalize (x.a == y.a) = b2
  generalize (x.text == y.text) = b3
  generalize (x.at_ == y.at_) = b4
  generalize pipeEq x.pipe y.pipe = b5
  cases b1 <;> cases b2 <;> cases b3 <;> cases b4 <;> cases b5 <;> rfl
theorem lsSp_ok : SpOK lsTurn 74 [2,3,5] [2,3] [4] [] lsSp := by
  intro vs bs H k out ho
  unfold lsSp at ho
  split at ho
  case h_2 => simp at ho
  rename_i z x y
  rw [Bool.cond_eq_ite] at ho
  split at ho
  case isFalse => simp at ho
  rename_i hc
  obtain ⟨hx, hy, rfl, hab, hk, hm⟩ := of_tst hc
  generalize decCode x = c at hx hab hk ho
  generalize decCode y = d at hy hab hm ho
  subst hx hy
  have hrun := fun D k => search_any (turn := lsTurn) (S := fun i => lsSt c d (i : Nat) H D) (hit := fun i => !opEq (c.ops.getD i opD0) (d.ops.getD i opD0)) (n := c.ops.length) (e0 := .exit 0) (e1 := .ret) (R0 := stL 74 [4] [.undef] [] [] H D) (R1 := stL 74 [4] [.bool false] [] [] H D)
    (fun i k hi => ls_step c d i H D k hk hm hi (by omega))
    (fun k => by rw [ls_step0, decide_eq_false (by omega)]; rfl) (by simp) (by simp) k
  rw [all2_any opD0 c.ops d.ops hab] at hrun
  cases ha : !all2 opEq c.ops d.ops with
  | true =>
    rw [ha] at ho
    exact ⟨_, _, _, _, _, _, .refl _, ⟨_, fun D k => (hrun D k).trans (by rw [ha]; rfl)⟩, .refl _, ho⟩
  | false =>
    rw [ha] at ho
    exact ⟨_, _, _, _, _, _, .refl _, ⟨_, fun D k => (hrun D k).trans (by rw [ha]; rfl)⟩, .refl _, ho⟩
noncomputable def layZh : Lay := layZg.addL 23 lsFH
theorem layZh_ok : layZh.OK Try.prog := layZg_ok.loop1 (id := 4) (by kernel_rfl) (by kernel_rfl) (by kernel_rfl) lsSp_ok

theorem rSame_fun (c d : CodeD) (k : Out → Ans) : iFun Try.prog (layZh.hd Try.prog) layZh.fhs 0 23 [.agg (encCode c), .agg (encCode d)] [] k =
    cond (tst ((encIs c.uf c.units) = encIs (fullOf (encIs c.uf c.units)) (decL decI (encIs c.uf c.units)) ∧ (encIs d.uf d.units) = encIs (fullOf (encIs d.uf d.units)) (decL decI (encIs d.uf d.units)) ∧ (decL decI (encIs c.uf c.units)).length ≤ 1099511627776))
      (cond (cond (!all2 eqN (decL decI (encIs c.uf c.units)) (decL decI (encIs d.uf d.units))) true ((c.ops.length : Int) != d.ops.length)) (k (.ret (.bool false) []))
        (cond (tst (encCode c = encCode (decCode (encCode c)) ∧ encCode d = encCode (decCode (encCode d)) ∧ (0 : Int) = 0 ∧ (decCode (encCode c)).ops.length = (decCode (encCode d)).ops.length ∧ okCode (decCode (encCode c)) ∧ okCode (decCode (encCode d))))
          (cond (!all2 opEq (decCode (encCode c)).ops (decCode (encCode d)).ops) (k (.ret (.bool false) [])) (k (.ret (.bool true) []))) none)) none := by kernel_rfl
theorem rSame_call {c d : CodeD} (hc : okCode c) (hd : okCode d) (k : Out → Ans) : iFun Try.prog (layZh.hd Try.prog) layZh.fhs 0 23 [.agg (encCode c), .agg (encCode d)] [] k = k (.ret (.bool (codeEq c d)) []) := by
  rw [rSame_fun, decIs_enc, decIs_enc, decCode_enc, decCode_enc, len_ne, tst_true (p := encIs c.uf c.units = encIs (fullOf (encIs c.uf c.units)) c.units ∧ encIs d.uf d.units = encIs (fullOf (encIs d.uf d.units)) d.units ∧ c.units.length ≤ 1099511627776) ⟨rfl, rfl, hc.2.1⟩]
  unfold codeEq
  by_cases h : c.ops.length = d.ops.length
  · rw [decide_eq_true h, tst_true ⟨rfl, rfl, rfl, h, hc, hd⟩]
    cases all2 eqN c.units d.units <;> cases all2 opEq c.ops d.ops <;> rfl
  · rw [decide_eq_false h, all2_len c.ops d.ops h]
    cases all2 eqN c.units d.units <;> rfl
theorem pSame_fun (c d : CodeD) (k : Out → Ans) : iFun Try.prog (layZh.hd Try.prog) layZh.fhs 0 22 [.agg (encCode c), .agg (encCode d)] [] k =
    cond (tst ((encIs c.uf c.units) = encIs (fullOf (encIs c.uf c.units)) (decL decI (encIs c.uf c.units)) ∧ (encIs d.uf d.units) = encIs (fullOf (encIs d.uf d.units)) (decL decI (encIs d.uf d.units)) ∧ (decL decI (encIs c.uf c.units)).length ≤ 1099511627776))
      (cond (tst ((48 : Nat) = 48 ∧ (encOps c.of_ c.ops) = encOps (fullOf (encOps c.of_ c.ops)) (decL decOp (encOps c.of_ c.ops)) ∧ (encOps d.of_ d.ops) = encOps (fullOf (encOps d.of_ d.ops)) (decL decOp (encOps d.of_ d.ops)) ∧ okOps (decL decOp (encOps c.of_ c.ops)) ∧ okOps (decL decOp (encOps d.of_ d.ops))))
        (k (.ret (.bool (cond (all2 eqN (decL decI (encIs c.uf c.units)) (decL decI (encIs d.uf d.units))) (all2 opEq (decL decOp (encOps c.of_ c.ops)) (decL decOp (encOps d.of_ d.ops))) false)) [])) none) none := by kernel_rfl
theorem pSame_call {c d : CodeD} (hc : okCode c) (hd : okCode d) (k : Out → Ans) : iFun Try.prog (layZh.hd Try.prog) layZh.fhs 0 22 [.agg (encCode c), .agg (encCode d)] [] k = k (.ret (.bool (codeEq c d)) []) := by
  rw [pSame_fun, decIs_enc, decIs_enc, decOps_enc, decOps_enc, tst_true (p := encIs c.uf c.units = encIs (fullOf (encIs c.uf c.units)) c.units ∧ encIs d.uf d.units = encIs (fullOf (encIs d.uf d.units)) d.units ∧ c.units.length ≤ 1099511627776) ⟨rfl, rfl, hc.2.1⟩, tst_true ⟨rfl, rfl, rfl, ⟨hc.1, hc.2.2⟩, ⟨hd.1, hd.2.2⟩⟩]
  simp only [cond_true, condF]
  rfl
noncomputable def codeSameTold : FSp := fun xs H k => match xs, H with
  | [.agg x, .agg y], [] => cond (tst (x = encCode (decCode x) ∧ y = encCode (decCode y) ∧ okCode (decCode x) ∧ okCode (decCode y))) (k (.ret (.bool (codeEq (decCode x) (decCode y))) [])) none
  | _, _ => none
theorem pCodeSame_ok (xs : List AVal) (H : Heap) (k : Out → Ans) (out : Out) (ho : codeSameTold xs H k = some out) : ∃ o, CallOK Try.prog 22 xs H o ∧ k o = some out := by
  unfold codeSameTold at ho
  split at ho
  · rename_i x y
    rw [Bool.cond_eq_ite] at ho
    split at ho
    · rename_i hc
      obtain ⟨hx, hy, hn, hm⟩ := of_tst hc
      generalize decCode x = a at hx hn ho
      generalize decCode y = b at hy hm ho
      subst hx hy
      exact ⟨_, layZh_ok.call (pSame_call hn hm), ho⟩
    · simp at ho
  · simp at ho
theorem rCodeSame_ok (xs : List AVal) (H : Heap) (k : Out → Ans) (out : Out) (ho : codeSameTold xs H k = some out) : ∃ o, CallOK Try.prog 23 xs H o ∧ k o = some out := by
  unfold codeSameTold at ho
  split at ho
  · rename_i x y
    rw [Bool.cond_eq_ite] at ho
    split at ho
    · rename_i hc
      obtain ⟨hx, hy, hn, hm⟩ := of_tst hc
      generalize decCode x = a at hx hn ho
      generalize decCode y = b at hy hm ho
      subst hx hy
      exact ⟨_, layZh_ok.call (rSame_call hn hm), ho⟩
    · simp at ho
  · simp at ho
noncomputable def layZi : Lay := (layZh.addF 22 codeSameTold).addF 23 codeSameTold
theorem layZi_ok : layZi.OK Try.prog := (layZh_ok.addF pCodeSame_ok).addF rCodeSame_ok
end Go.Mu
