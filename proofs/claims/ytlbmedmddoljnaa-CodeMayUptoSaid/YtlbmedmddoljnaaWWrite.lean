/-
  What (*code.writer).nodes does: by depth.
-/
import Derived.Test.YtlbmedmddoljnaaWBlock
set_option linter.unusedVariables false
set_option linter.unusedSimpArgs false
set_option maxRecDepth 100000
namespace Go.Mu
open Go Go.Proofs
noncomputable def layWn (d : Nat) : Lay := (Lay.nil.addF 39 putTold).addF 73 (blockTold d)
noncomputable def wnSp (d : Nat) : LSp := fun vs bs H k => match vs with
  | [.ptr (.hp 0) 0, x, .int .i64 n, .int .i64 z] => cond (tst (wfW (d + 1) x ∧ n = (lenL x : Int) ∧ z = 0 ∧ bs = [] ∧ H = Hw (uOf H) (ofHw H) ∧ (ofHw H).length + cntW (d + 1) x ≤ 1099511627776))
      (k (.exit 0) [] [] (Hw (uOf H) (writeM (d + 1) x (ofHw H)))) none
  | _ => none
noncomputable def wnFH (d : Nat) : FH := .of [(1, loopSpec 72 [0,6,7,8] [] [] [] (wnSp d))]
noncomputable abbrev wnTurn (d : Nat) := lturn Try.prog (layWn d) (wnFH d) 38 1 [0,6,7,8] [] [] []
abbrev wnSt (full : Bool) (l : List NdE) (i : Int) (H : Heap) (D : List (FuncId × List AVal)) : St := stL 72 [0,6,7,8] [.ptr (.hp 0) 0, encNes full l, .int .i64 l.length, .int .i64 i] [] [] H D
abbrev nD (n : NdE) : NdE := decNe (encNe n)
noncomputable abbrev tB (d : Nat) (n : NdE) (H : Heap) : Bool := tst (encNe n = encNe (nD n) ∧ okCs (nD n).pipe ∧ wfW d (nD n).body ∧ wfW d (nD n).els ∧ H = Hw (uOf H) (ofHw H) ∧ (ofHw H).length + (5 + cntW d (nD n).body + cntW d (nD n).els) ≤ 1099511627776)
abbrev hB (d : Nat) (q : Int) (n : NdE) (H : Heap) : Heap := HwN (uOf H) (blockM (writeM d (nD n).body) (writeM d (nD n).els) q (nD n) (ofHw H))
theorem wn_step0 (d : Nat) (full : Bool) (l : List NdE) (i : Nat) (H : Heap) (D : List (FuncId × List AVal)) (k : Kont) : wnTurn d (wnSt full l i H D) k =
    cond (decide ((i : Int) < l.length)) (cond (decide ((i : Int) < l.length))
      (cond ((l.getD (i : Int).toNat ne0).kind == 1) (cond (tP (eZ 1 0 (l.getD (i : Int).toNat ne0).text (l.getD (i : Int).toNat ne0).at_) H) (k .normal (wnSt full l (IntKind.i64.wrap ((i : Int) + 1)) (hP (eZ 1 0 (l.getD (i : Int).toNat ne0).text (l.getD (i : Int).toNat ne0).at_) H) D)) none)
      (cond ((l.getD (i : Int).toNat ne0).kind == 2) (cond (tP (encOp ⟨2, (l.getD (i : Int).toNat ne0).esc, [], (l.getD (i : Int).toNat ne0).pf, (l.getD (i : Int).toNat ne0).pipe, (l.getD (i : Int).toNat ne0).at_⟩) H) (k .normal (wnSt full l (IntKind.i64.wrap ((i : Int) + 1)) (hP (encOp ⟨2, (l.getD (i : Int).toNat ne0).esc, [], (l.getD (i : Int).toNat ne0).pf, (l.getD (i : Int).toNat ne0).pipe, (l.getD (i : Int).toNat ne0).at_⟩) H) D)) none)
      (cond ((l.getD (i : Int).toNat ne0).kind == 3) (cond (tB d (l.getD (i : Int).toNat ne0) H) (k .normal (wnSt full l (IntKind.i64.wrap ((i : Int) + 1)) (hB d 4 (l.getD (i : Int).toNat ne0) H) D)) none)
      (cond ((l.getD (i : Int).toNat ne0).kind == 4) (cond (tB d (l.getD (i : Int).toNat ne0) H) (k .normal (wnSt full l (IntKind.i64.wrap ((i : Int) + 1)) (hB d 6 (l.getD (i : Int).toNat ne0) H) D)) none)
      (cond ((l.getD (i : Int).toNat ne0).kind == 5) (cond (tB d (l.getD (i : Int).toNat ne0) H) (k .normal (wnSt full l (IntKind.i64.wrap ((i : Int) + 1)) (hB d 5 (l.getD (i : Int).toNat ne0) H) D)) none)
      (cond ((l.getD (i : Int).toNat ne0).kind == 6) (cond (tP (encOp ⟨10, (l.getD (i : Int).toNat ne0).unit, [], (l.getD (i : Int).toNat ne0).pf, (l.getD (i : Int).toNat ne0).pipe, (l.getD (i : Int).toNat ne0).at_⟩) H) (k .normal (wnSt full l (IntKind.i64.wrap ((i : Int) + 1)) (hP (encOp ⟨10, (l.getD (i : Int).toNat ne0).unit, [], (l.getD (i : Int).toNat ne0).pf, (l.getD (i : Int).toNat ne0).pipe, (l.getD (i : Int).toNat ne0).at_⟩) H) D)) none)
      (cond ((l.getD (i : Int).toNat ne0).kind == 7) (cond (tP (encOp ⟨3, 0, (l.getD (i : Int).toNat ne0).name, (l.getD (i : Int).toNat ne0).pf, (l.getD (i : Int).toNat ne0).pipe, (l.getD (i : Int).toNat ne0).at_⟩) H) (k .normal (wnSt full l (IntKind.i64.wrap ((i : Int) + 1)) (hP (encOp ⟨3, 0, (l.getD (i : Int).toNat ne0).name, (l.getD (i : Int).toNat ne0).pf, (l.getD (i : Int).toNat ne0).pipe, (l.getD (i : Int).toNat ne0).at_⟩) H) D)) none)
        (k .normal (wnSt full l (IntKind.i64.wrap ((i : Int) + 1)) H D))))))))) none)
      (k (.exit 0) (stL 72 [] [] [] [] H D)) := by kernel_rfl
section
variable {U : Obj} {ops : List OpD} {e : List AVal} {op : OpD}
theorem tP_Hw (he : decOp e = op) (hs : SubL e (encOp op)) (hp : okCs op.pipe) (hl : ops.length ≤ 1099511627776) : tP e (Hw U ops) = true := by
  unfold tP
  rw [he, (ofHw_mk U ops).1, (ofHw_mk U ops).2]
  exact tst_true ⟨hs, hp, rfl, hl⟩
theorem hP_Hw (he : decOp e = op) : hP e (Hw U ops) = Hw U (putM ops op) := by
  unfold hP oP
  rw [he, (ofHw_mk U ops).1, (ofHw_mk U ops).2]
  exact (Hw_ne (by simp)).symm
end
theorem block_ne (w1 w2 : List OpD → List OpD) {c1 c2 : Nat} (h1 : Adds w1 c1) (h2 : Adds w2 c2) (q : Int) (n : NdE) (ops : List OpD) : blockM w1 w2 q n ops ≠ [] := by
  refine ne_of_len ?_
  rw [blockM_tail]
  have l1 := putM_len ops ⟨q, 0, [], n.pf, n.pipe, n.at_⟩
  have lo := h1.lo (putM ops ⟨q, 0, [], n.pf, n.pipe, n.at_⟩)
  generalize w1 (putM ops ⟨q, 0, [], n.pf, n.pipe, n.at_⟩) = o2 at *
  cases q == 6
  · simp only [cond_false]
    have := tailM_adds h2 n ops.length o2
    omega
  · simp only [cond_true]
    have l3 := putM_len o2 ⟨9, (ops.length : Int) + 1, [], true, [], n.at_⟩
    have := tailM_adds h2 n ops.length (putM o2 ⟨9, (ops.length : Int) + 1, [], true, [], n.at_⟩)
    omega
theorem wn_step {d : Nat} {full : Bool} {l : List NdE} {i : Nat} {U : Obj} {ops : List OpD} (D : List (FuncId × List AVal)) (k : Kont) (hi : i < l.length) (hl : l.length ≤ 1073741824) (hp : okCs (l.getD i ne0).pipe) (h1 : wfW d (l.getD i ne0).body) (h2 : wfW d (l.getD i ne0).els)
    (hb : ops.length + (5 + cntW d (l.getD i ne0).body + cntW d (l.getD i ne0).els) ≤ 1099511627776) : wnTurn d (wnSt full l i (Hw U ops) D) k = k .normal (wnSt full l ((i + 1 : Nat) : Int) (Hw U (nodeM (writeM d (l.getD i ne0).body) (writeM d (l.getD i ne0).els) (l.getD i ne0) ops)) D) := by
  rw [wn_step0, decide_eq_true (show (i : Int) < l.length by omega), wrap_add1 (by omega), Int.toNat_natCast]
  generalize l.getD i ne0 = n at *
  simp only [cond_true]
  have eB : tB d n (Hw U ops) = true := by
    unfold tB nD
    rw [decNe_enc, (ofHw_mk U ops).1, (ofHw_mk U ops).2]
    exact tst_true ⟨rfl, hp, h1, h2, rfl, hb⟩
  have eH : ∀ q, hB d q n (Hw U ops) = Hw U (blockM (writeM d n.body) (writeM d n.els) q n ops) := fun q => by
    unfold hB nD
    rw [decNe_enc, (ofHw_mk U ops).1, (ofHw_mk U ops).2]
    exact (Hw_ne (block_ne _ _ (writeM_adds d n.body) (writeM_adds d n.els) q n ops)).symm
  have hl' : ops.length ≤ 1099511627776 := by omega
  rw [eB, eH, eH, eH, tP_Hw (op := ⟨1, 0, n.text, true, [], n.at_⟩) rfl eZ_sub okCs_nil hl', hP_Hw (op := ⟨1, 0, n.text, true, [], n.at_⟩) rfl,
    tP_Hw (decOp_enc ⟨2, n.esc, [], n.pf, n.pipe, n.at_⟩) (.refl _) hp hl', hP_Hw (decOp_enc ⟨2, n.esc, [], n.pf, n.pipe, n.at_⟩),
    tP_Hw (decOp_enc ⟨10, n.unit, [], n.pf, n.pipe, n.at_⟩) (.refl _) hp hl', hP_Hw (decOp_enc ⟨10, n.unit, [], n.pf, n.pipe, n.at_⟩),
    tP_Hw (decOp_enc ⟨3, 0, n.name, n.pf, n.pipe, n.at_⟩) (.refl _) hp hl', hP_Hw (decOp_enc ⟨3, 0, n.name, n.pf, n.pipe, n.at_⟩)]
  unfold nodeM
  cases n.kind == 1
  · cases n.kind == 2
    · cases n.kind == 3
      · cases n.kind == 4
        · cases n.kind == 5
          · cases n.kind == 6
            · cases n.kind == 7 <;> rfl
            · rfl
          · rfl
        · rfl
      · rfl
    · rfl
  · rfl
theorem wn_run {d : Nat} {full : Bool} {l : List NdE} {U : Obj} (D : List (FuncId × List AVal)) (k : Kont) (hl : l.length ≤ 1073741824) (hw : ∀ n ∈ l, okCs n.pipe ∧ wfW d n.body ∧ wfW d n.els) : ∀ (m i : Nat) (ops : List OpD), i + m = l.length → ops.length + ((l.drop i).map (fun n => 5 + cntW d n.body + cntW d n.els)).sum ≤ 1099511627776 →
    rounds (wnTurn d) (m + 1) (wnSt full l i (Hw U ops) D) k = k (.exit 0) (stL 72 [] [] [] [] (Hw U ((l.drop i).foldl (fun ops n => nodeM (writeM d n.body) (writeM d n.els) n ops) ops)) D)
  | 0, i, ops, he, hn => by
    obtain rfl : i = l.length := by omega
    rw [rounds_succ', wn_step0, decide_eq_false (by omega), List.drop_length]
    rfl
  | m + 1, i, ops, he, hn => by
    have hi : i < l.length := by omega
    have e1 : l.getD i ne0 = l[i] := by simp [List.getD_eq_getElem?_getD, List.getElem?_eq_getElem hi]
    have hm := hw _ (List.getElem_mem hi)
    rw [← e1] at hm
    rw [List.drop_eq_getElem_cons hi, ← e1] at hn ⊢
    simp only [List.map_cons, List.sum_cons, List.foldl_cons] at hn ⊢
    have ha := (nodeM_adds (writeM_adds d (l.getD i ne0).body) (writeM_adds d (l.getD i ne0).els) (l.getD i ne0)).hi ops
    rw [rounds_succ', wn_step D _ hi hl hm.1 hm.2.1 hm.2.2 (by omega)]
    exact wn_run D k hl hw m (i + 1) _ (by omega) (by omega)
theorem writeM_succ (d : Nat) (x : AVal) (ops : List OpD) : writeM (d + 1) x ops = (nodesE x).foldl (fun ops n => nodeM (writeM d n.body) (writeM d n.els) n ops) ops := rfl
theorem wnSp_ok (d : Nat) : SpOK (wnTurn d) 72 [0,6,7,8] [] [] [] (wnSp d) := by
  intro vs bs H k out ho
  unfold wnSp at ho
  split at ho
  case h_2 => simp at ho
  rename_i x n z
  rw [Bool.cond_eq_ite] at ho
  split at ho
  case isFalse => simp at ho
  rename_i hc
  obtain ⟨⟨hx, hl, hw⟩, rfl, rfl, rfl, hH, hn⟩ := of_tst hc
  rw [writeM_succ] at ho
  unfold cntW at hn
  have hl2 : (nodesE x).length = lenL x := lenL_decL (g := decNe) hx
  have hs : SubT x (encNes (fullOf x) (nodesE x)) := subT_encL hx wfNe_sub
  rw [← hl2] at hl ⊢
  generalize nodesE x = l at *
  generalize ofHw H = ops at *
  generalize uOf H = U at *
  subst hH
  have hrun : ∀ D k, rounds (wnTurn d) (l.length + 1) (wnSt (fullOf x) l 0 (Hw U ops) D) k = k (.exit 0) (stL 72 [] [] [] [] (Hw U (l.foldl (fun ops n => nodeM (writeM d n.body) (writeM d n.els) n ops) ops)) D) := fun D k => by
    have := wn_run (full := fullOf x) (U := U) D k hl hw l.length 0 ops (by omega) (by simpa using hn)
    simpa using this
  exact ⟨_, _, _, _, _, _, .cons (.refl _) (.cons hs (.refl _)), ⟨_, fun D k => hrun D k⟩, .refl _, ho⟩
noncomputable def layWn1 (d : Nat) : Lay := (layWn d).addL 38 (wnFH d)
theorem wn_fun (d : Nat) (full : Bool) (l : List NdE) (H : Heap) (k : Out → Ans) : iFun Try.prog ((layWn1 d).hd Try.prog) (layWn1 d).fhs 0 38 [.ptr (.hp 0) 0, encNes full l] H k =
    cond (tst (wfW (d + 1) (encNes full l) ∧ (l.length : Int) = (lenL (encNes full l) : Int) ∧ (0 : Int) = 0 ∧ ([] : List (List AVal)) = [] ∧ H = Hw (uOf H) (ofHw H) ∧ (ofHw H).length + cntW (d + 1) (encNes full l) ≤ 1099511627776))
      (k (.ret (.tuple []) (Hw (uOf H) (writeM (d + 1) (encNes full l) (ofHw H))))) none := by kernel_rfl
/-- nodes, told -/
def NodesOK (d : Nat) : Prop := ∀ (x : AVal) (U : Obj) (ops : List OpD), wfW d x → ops.length + cntW d x ≤ 1099511627776 → CallOK Try.prog 38 [.ptr (.hp 0) 0, x] (Hw U ops) (.ret (.tuple []) (Hw U (writeM d x ops)))
theorem nodesToldN_ok {d : Nat} (hn : NodesOK d) (xs : List AVal) (H : Heap) (k : Out → Ans) (out : Out) (ho : nodesToldN d xs H k = some out) : ∃ o, CallOK Try.prog 38 xs H o ∧ k o = some out := by
  unfold nodesToldN at ho
  split at ho
  · rename_i x
    rw [Bool.cond_eq_ite] at ho
    split at ho
    · rename_i hc
      obtain ⟨hw, hne, hH, hb⟩ := of_tst hc
      generalize uOf H = U at *
      generalize ofHw H = ops at *
      subst hH
      have h1 := hn x U ops hw hb
      have lo := (writeM_adds d x).lo ops
      have l0 : 0 < ops.length := List.length_pos_iff.2 hne
      rw [Hw_ne hne, Hw_ne (ne_of_len (by omega))] at h1
      exact ⟨_, h1, ho⟩
    · simp at ho
  · simp at ho
theorem blockTold_ok {d : Nat} (hn : NodesOK d) (xs : List AVal) (H : Heap) (k : Out → Ans) (out : Out) (ho : blockTold d xs H k = some out) : ∃ o, CallOK Try.prog 73 xs H o ∧ k o = some out := by
  have hL : (layBl d).OK Try.prog := (Lay.nil_ok.addF putTold_ok).addF (nodesToldN_ok hn)
  unfold blockTold at ho
  split at ho
  · rename_i q x
    rw [Bool.cond_eq_ite] at ho
    split at ho
    · rename_i hc
      obtain ⟨hx, hp, h1, h2, hH, hb⟩ := of_tst hc
      generalize decNe x = n at *
      generalize uOf H = U at *
      generalize ofHw H = ops at *
      subst hx hH
      exact ⟨_, hL.call (block_call hp h1 h2 hb), ho⟩
    · simp at ho
  · simp at ho
theorem nodes_ok : ∀ d : Nat, NodesOK d
  | 0 => fun x U ops hw => hw.elim
  | d + 1 => fun x U ops hw hb => by
    have hL : (layWn d).OK Try.prog := (Lay.nil_ok.addF putTold_ok).addF (blockTold_ok (nodes_ok d))
    have hL1 : (layWn1 d).OK Try.prog := hL.loop1 (id := 1) (by kernel_rfl) (by kernel_rfl) (by kernel_rfl) (wnSp_ok d)
    have hs : Sub x (encNes (fullOf x) (nodesE x)) := sub_encL hw.1 wfNe_sub
    have e1 : nodesE (encNes (fullOf x) (nodesE x)) = nodesE x := nodesE_enc _ _
    have e2 : ∀ o, writeM (d + 1) (encNes (fullOf x) (nodesE x)) o = writeM (d + 1) x o := fun o => by rw [writeM_succ, e1, writeM_succ]
    have e3 : cntW (d + 1) (encNes (fullOf x) (nodesE x)) = cntW (d + 1) x := by unfold cntW; rw [e1]
    have hl2 : (nodesE x).length = lenL x := lenL_decL (g := decNe) hw.1
    have e4 : wfW (d + 1) (encNes (fullOf x) (nodesE x)) := by
      refine ⟨?_, ?_, by rw [e1]; exact hw.2.2⟩
      · have hw3 := hw.2.2
        generalize nodesE x = l at hw3
        simp only [wfL, List.all_eq_true, List.mem_range]
        intro i hi
        refine wfNe_enc (hw3 _ ?_).1
        rw [List.getD_eq_getElem?_getD, List.getElem?_eq_getElem hi]
        exact List.getElem_mem hi
      · show (nodesE x).length ≤ _
        rw [hl2]; exact hw.2.1
    refine (hL1.call (fun k => ?_)).subArgs (.cons (.refl _) (.cons hs .nil))
    rw [wn_fun, (ofHw_mk U ops).1, (ofHw_mk U ops).2, e2, e3, tst_true ⟨e4, rfl, rfl, rfl, rfl, hb⟩]
    rfl
end Go.Mu
