/-
  What code.copied makes of a pipeline.
-/
import Derived.Test.YtlbmedmddoljnaaWClone
set_option linter.unusedVariables false
set_option linter.unusedSimpArgs false
set_option maxRecDepth 100000
namespace Go.Mu
open Go Go.Proofs
def cpArg (a : ArgD) : ArgD := ⟨a.kind, a.name, false, a.path, a.int, a.text⟩
def cpCall (c : CallD) : CallD := ⟨c.name, false, c.args.map cpArg⟩
noncomputable def layCp : Lay := (Lay.nil.addF 88 clSTold).addF 87 clATold
theorem layCp_ok : layCp.OK Try.prog := (Lay.nil_ok.addF clSTold_ok).addF clATold_ok
def okAs (l : List ArgD) : Prop := ∀ a ∈ l, okArg a
def okCs (l : List CallD) : Prop := okPipe l ∧ (∀ c ∈ l, c.args.length ≤ 1073741824) ∧ l.length ≤ 1073741824
noncomputable def cp7Sp : LSp := fun vs bs H k => match vs, bs, H with
  | [o, .ptr (.tmp 5) 0, x, n, i, .int .i64 na, .int .i64 z], [[.str nm, .own 1 0 m 0 false]], [X, .arr 5 rows 0] => cond (tst (rows = rowsE encArg (rows.map decArg) ∧ na = (m : Int) ∧ m = rows.length ∧ z = 0 ∧ rows.length ≤ 1073741824 ∧ okAs (rows.map decArg)))
      (k (.exit 2) [o, .ptr (.tmp 5) 0, x, n, i] [[.str nm, .own 1 0 m 0 false]] [X, .arr 5 (rowsE encArg ((rows.map decArg).map cpArg)) 0]) none
  | _, _, _ => none
noncomputable def cpFH0 : FH := .of [(7, loopSpec 45 [3,5,10,11,12,22,23] [5] [3,5,10,11,12] [5] cp7Sp)] { thaw := [87], plain := [34] }
noncomputable abbrev cp7Turn := lturn Try.prog layCp cpFH0 74 7 [3,5,10,11,12,22,23] [5] [3,5,10,11,12] [5]
abbrev cp7St (o x n i : AVal) (nm : List UInt8) (m : Nat) (j : Int) (X : Obj) (rows : List (List AVal)) (D : List (FuncId × List AVal)) : St := stL 45 [3,5,10,11,12,22,23] [o, .ptr (.tmp 5) 0, x, n, i, .int .i64 m, .int .i64 j] [5] [[.str nm, .own 1 0 m 0 false]] [X, .arr 5 rows 0] D
/-- a list, its first elements turned -/
def upTo {α : Type} (f : α → α) : Nat → List α → List α
  | 0, l => l
  | _ + 1, [] => []
  | j + 1, x :: l => f x :: upTo f j l
theorem upTo_len {α : Type} (f : α → α) : ∀ (j : Nat) (l : List α), (upTo f j l).length = l.length
  | 0, l => rfl
  | _ + 1, [] => rfl
  | j + 1, x :: l => by simp [upTo, upTo_len f j l]
theorem upTo_get {α : Type} (f : α → α) : ∀ (j : Nat) (l : List α), (upTo f j l)[j]? = l[j]?
  | 0, l => rfl
  | _ + 1, [] => rfl
  | j + 1, x :: l => by simpa [upTo] using upTo_get f j l
theorem upTo_set {α : Type} (f : α → α) : ∀ (j : Nat) (l : List α) (x : α), l[j]? = some x → (upTo f j l).set j (f x) = upTo f (j + 1) l
  | 0, [], x, h => by simp at h
  | 0, y :: l, x, h => by simp at h; subst h; rfl
  | _ + 1, [], x, h => by simp at h
  | j + 1, y :: l, x, h => by
    have := upTo_set f j l x (by simpa using h)
    simp only [upTo, List.set_cons_succ, List.cons.injEq, true_and]
    exact this
theorem upTo_all {α : Type} (f : α → α) : ∀ (l : List α), upTo f l.length l = l.map f
  | [] => rfl
  | x :: l => by simp [upTo, upTo_all f l]
abbrev px (rows : List (List AVal)) (j : Nat) : AVal := (rows.getD (0 + (j : Int).toNat) []).getD 2 .undef
abbrev plV (v : AVal) : AVal := .list (plF v) (plN v) (plR v)
theorem cp7_step0 (o x n i : AVal) (nm : List UInt8) (m : Nat) (j : Nat) (X : Obj) (rows : List (List AVal)) (D : List (FuncId × List AVal)) (k : Kont) : cp7Turn (cp7St o x n i nm m j X rows D) k =
    cond (decide ((j : Int) < m)) (cond (decide ((j : Int) < m)) (cond (decide (0 + (j : Int).toNat < rows.length) && true && true) (cond (isPl (px rows j)) (cond (wfL wfS (plV (px rows j)) && decide (lenL (plV (px rows j)) ≤ 1099511627776)) (cond (decide ((j : Int) < m)) (cond (decide (0 + (j : Int).toNat < rows.length) && true)
      (k .normal (cp7St o x n i nm m (IntKind.i64.wrap ((j : Int) + 1)) X (rows.set (0 + (j : Int).toNat) ((rows.getD (0 + (j : Int).toNat) []).set 2 (encSs false (decL decS (plV (px rows j)))))) D)) none) none) none) none) none) none)
      (k (.exit 2) (stL 45 [3,5,10,11,12] [o, .ptr (.tmp 5) 0, x, n, i] [5] [[.str nm, .own 1 0 m 0 false]] [X, .arr 5 rows 0] D)) := by kernel_rfl
theorem cp7_step {o x n i : AVal} {nm : List UInt8} {j : Nat} {X : Obj} {L : List ArgD} {a : ArgD} (D : List (FuncId × List AVal)) (k : Kont) (hL : L[j]? = some a) (hn : L.length ≤ 1073741824) (ha : okArg a) :
    cp7Turn (cp7St o x n i nm L.length j X (rowsE encArg L) D) k = k .normal (cp7St o x n i nm L.length ((j + 1 : Nat) : Int) X (rowsE encArg (L.set j (cpArg a))) D) := by
  have hj : j < L.length := (List.getElem?_eq_some_iff.1 hL).1
  have e1 : (rowsE encArg L).getD j [] = encArg a := by
    rw [List.getD_eq_getElem?_getD, rowsE, List.getElem?_map, hL]; rfl
  have e2 : (rowsE encArg L).length = L.length := by simp [rowsE]
  have e3 : px (rowsE encArg L) j = encSs a.pf a.path := by
    unfold px
    rw [Int.toNat_natCast, Nat.zero_add, e1]; rfl
  have e4 : plV (encSs a.pf a.path) = encSs a.pf a.path := rfl
  have e5 : isPl (encSs a.pf a.path) = true := rfl
  have e6 : lenL (encSs a.pf a.path) = a.path.length := rfl
  rw [cp7_step0, e3, e4, e5, e6, Int.toNat_natCast, Nat.zero_add, e1, e2, decide_eq_true (show (j : Int) < L.length by omega), decide_eq_true hj, wrap_add1 (by omega), wfL_encL (fun _ => rfl), decide_eq_true ha.1, decL_encL (fun s => rfl)]
  have e7 : (encArg a).set 2 (encSs false a.path) = encArg (cpArg a) := rfl
  have e8 : (rowsE encArg L).set j (encArg (cpArg a)) = rowsE encArg (L.set j (cpArg a)) := by simp [rowsE, List.map_set]
  rw [e7, e8]
  rfl
theorem cp7_run {o x n i : AVal} {nm : List UInt8} {X : Obj} {l : List ArgD} (D : List (FuncId × List AVal)) (k : Kont) (hn : l.length ≤ 1073741824) (ha : ∀ a ∈ l, okArg a) : ∀ (m j : Nat), j + m = l.length →
    rounds cp7Turn (m + 1) (cp7St o x n i nm l.length j X (rowsE encArg (upTo cpArg j l)) D) k = k (.exit 2) (stL 45 [3,5,10,11,12] [o, .ptr (.tmp 5) 0, x, n, i] [5] [[.str nm, .own 1 0 l.length 0 false]] [X, .arr 5 (rowsE encArg (l.map cpArg)) 0] D)
  | 0, j, he => by
    obtain rfl : j = l.length := by omega
    rw [rounds_succ', cp7_step0, decide_eq_false (by omega), upTo_all]
    rfl
  | m + 1, j, he => by
    have hj : j < l.length := by omega
    have e0 : l[j]? = some l[j] := List.getElem?_eq_getElem hj
    have e1 : (upTo cpArg j l).length = l.length := upTo_len _ _ _
    have st := cp7_step (o := o) (x := x) (n := n) (i := i) (nm := nm) (j := j) (X := X) (L := upTo cpArg j l) (a := l[j]) D (fun e st' => match e with | .normal => rounds cp7Turn (m + 1) st' k | e => k e st') (by rw [upTo_get]; exact e0) (by rw [e1]; exact hn) (ha _ (List.getElem_mem hj))
    rw [e1, upTo_set cpArg j l _ e0] at st
    rw [rounds_succ']
    refine st.trans ?_
    exact cp7_run D k hn ha m (j + 1) (by omega)
theorem decArgs_rows (l : List ArgD) : (rowsE encArg l).map decArg = l := by
  unfold rowsE
  rw [List.map_map]
  conv => rhs; rw [← List.map_id l]
  exact List.map_congr_left (fun a _ => decArg_enc a)
theorem cp7Sp_ok : SpOK cp7Turn 45 [3,5,10,11,12,22,23] [5] [3,5,10,11,12] [5] cp7Sp := by
  intro vs bs H k out ho
  unfold cp7Sp at ho
  split at ho
  case h_2 => simp at ho
  rename_i o x n i na z nm m X rows
  rw [Bool.cond_eq_ite] at ho
  split at ho
  case isFalse => simp at ho
  rename_i hc
  obtain ⟨hr, rfl, hm, rfl, hn, ha⟩ := of_tst hc
  generalize rows.map decArg = l at *
  subst hr
  have e : (rowsE encArg l).length = l.length := by simp [rowsE]
  rw [e] at hm hn
  subst hm
  exact ⟨_, _, _, _, _, _, .refl _, ⟨_, fun D k => cp7_run D k hn ha l.length 0 (by omega)⟩, .refl _, ho⟩
/- the pipeline's loop: at a round's end the call's arguments become plain -/
noncomputable def cp3Sp : LSp := fun vs bs H k => match vs, bs, H with
  | [.own 0 0 0 0 false, x, .int .i64 n, .int .i64 z], [], [.arr 2 [] 0] => cond (tst (x = encPipe (fullOf x) (decL decCall x) ∧ okCs (decL decCall x) ∧ n = ((decL decCall x).length : Int) ∧ z = 0))
      (k (.exit 0) [.own 0 0 (decL decCall x).length (decL decCall x).length false] [] [.arr 2 (rowsE encCall ((decL decCall x).map cpCall)) (decL decCall x).length]) none
  | _, _, _ => none
noncomputable def cpFH : FH := .of [(7, loopSpec 45 [3,5,10,11,12,22,23] [5] [3,5,10,11,12] [5] cp7Sp), (3, loopSpecM 45 [3,10,11,12] [] [3] [] cp3Sp)] { thaw := [87], plain := [34], own := [41] }
noncomputable abbrev cp3Turn := lturnM 1 Try.prog layCp cpFH 74 3 [3,10,11,12] [] [3] []
abbrev cp3St (full : Bool) (l : List CallD) (i : Nat) (rows : List (List AVal)) : St := stL 45 [3,10,11,12] [.own 0 0 i i false, encPipe full l, .int .i64 l.length, .int .i64 i] [] [] [.arr 2 rows i] []
abbrev cA (l : List CallD) (i : Nat) : CallD := l.getD (i : Int).toNat callD0
abbrev dA (c : CallD) : List ArgD := decL decArg (encAs c.af c.args)
abbrev f1 (r : List AVal) : List AVal := r.map (fzV 2 [] 1 6)
abbrev rM (c : CallD) : List (List AVal) := (rowsE encArg (((rowsE encArg (dA c)).map decArg).map cpArg)).map f1
theorem cp3_step0 (full : Bool) (l : List CallD) (i : Nat) (rows : List (List AVal)) (k : Kont) : cp3Turn (cp3St full l i rows) k =
    cond (decide ((i : Int) < l.length)) (cond (decide ((i : Int) < l.length))
      (cond (tst (encAs (cA l i).af (cA l i).args = encAs (fullOf (encAs (cA l i).af (cA l i).args)) (dA (cA l i)) ∧ (dA (cA l i)).length ≤ 1073741824))
        (cond (tst (rowsE encArg (dA (cA l i)) = rowsE encArg ((rowsE encArg (dA (cA l i))).map decArg) ∧ ((dA (cA l i)).length : Int) = ((dA (cA l i)).length : Int) ∧ (dA (cA l i)).length = (rowsE encArg (dA (cA l i))).length ∧ (0 : Int) = 0 ∧ (rowsE encArg (dA (cA l i))).length ≤ 1073741824 ∧ okAs ((rowsE encArg (dA (cA l i))).map decArg)))
          (cond (i == i && i == rows.length && decide ((2 * (i + 1) + 1000) * 40 ≤ 281474976710656))
            (cond ((rM (cA l i)).all (fun r => r.all isPure) && true)
              (k .normal (stL 45 [3,10,11,12] [.own 0 0 (i + 1) (i + 1) false, encPipe full l, .int .i64 l.length, .int .i64 (IntKind.i64.wrap ((i : Int) + 1))] [] []
                [.arr 2 (((rows.append [[.str (cA l i).name, .own 1 0 (dA (cA l i)).length 0 false]]).map f1).map (fun r => r.map (fzV 1 (rM (cA l i)) 0 6))) (i + 1)] [])) none) none) none) none) none)
      (k (.exit 0) (stL 45 [3] [.own 0 0 i i false] [] [] [.arr 2 rows i] [])) := by kernel_rfl
/-- a call's row, as it lies there -/
def rowC (c : CallD) : List AVal := [.str c.name, .list false c.args.length (fun i => (rowsE encArg c.args).getD (0 + i) [])]
def rowsC (l : List CallD) (i : Nat) : List (List AVal) := (l.take i).map (fun c => rowC (cpCall c))
theorem map_id_of {α : Type} {f : α → α} : ∀ l : List α, (∀ x ∈ l, f x = x) → l.map f = l
  | [], _ => rfl
  | x :: l, h => by rw [List.map_cons, h x (by simp), map_id_of l (fun y hy => h y (by simp [hy]))]
theorem f1_args (l : List ArgD) : (rowsE encArg l).map f1 = rowsE encArg l := map_id_of _ (fun r hr => by
  obtain ⟨a, _, rfl⟩ := List.mem_map.1 hr
  rfl)
theorem pure_args (l : List ArgD) : (rowsE encArg l).all (fun r => r.all isPure) = true := by
  simp only [rowsE, List.all_map, List.all_eq_true]
  intro a _
  rfl
theorem cp3_step {full : Bool} {l : List CallD} {i : Nat} (k : Kont) (hi : i < l.length) (hl : l.length ≤ 1073741824) (hc : okCall l[i]) (hn : l[i].args.length ≤ 1073741824) : cp3Turn (cp3St full l i (rowsC l i)) k = k .normal (cp3St full l (i + 1) (rowsC l (i + 1))) := by
  have ec : cA l i = l[i] := by simp [cA, List.getD_eq_getElem?_getD, List.getElem?_eq_getElem hi]
  rw [cp3_step0, ec]
  have e1 : dA l[i] = l[i].args := decAs_enc _ _
  have e2 : (rowsE encArg l[i].args).length = l[i].args.length := by simp [rowsE]
  have e3 : rM l[i] = rowsE encArg (l[i].args.map cpArg) := by
    unfold rM
    rw [e1, decArgs_rows, f1_args]
  have e4 : (rowsC l i).length = i := by simp [rowsC]; omega
  rw [e1, decArgs_rows, e2, e3, pure_args, e4, decide_eq_true (show (i : Int) < l.length by omega), wrap_add1 (by omega), tst_true ⟨rfl, hn⟩, tst_true ⟨rfl, rfl, rfl, rfl, hn, hc.2.1⟩, decide_eq_true (show (2 * (i + 1) + 1000) * 40 ≤ 281474976710656 by omega)]
  have e5 : ((rowsC l i).append [[.str l[i].name, .own 1 0 l[i].args.length 0 false]]).map f1 = rowsC l i ++ [[.str l[i].name, .own 1 0 l[i].args.length 0 false]] := by
    refine map_id_of _ (fun r hr => ?_)
    rcases List.mem_append.1 (show r ∈ rowsC l i ++ _ from hr) with h | h
    · obtain ⟨c, _, rfl⟩ := List.mem_map.1 h
      rfl
    · simp only [List.mem_singleton] at h
      subst h; rfl
  have e6 : (rowsC l i ++ [[AVal.str l[i].name, AVal.own 1 0 l[i].args.length 0 false]]).map (fun (r : List AVal) => r.map (fzV 1 (rowsE encArg (l[i].args.map cpArg)) 0 6)) = rowsC l (i + 1) := by
    rw [List.map_append, map_id_of (rowsC l i) (fun r hr => by
      obtain ⟨c, _, rfl⟩ := List.mem_map.1 hr
      rfl)]
    have e7 : rowsC l (i + 1) = rowsC l i ++ [rowC (cpCall l[i])] := by
      unfold rowsC
      rw [List.take_succ_eq_append_getElem hi, List.map_append]
      rfl
    rw [e7]
    congr 1
    simp only [List.map_cons, List.map_nil, fzV, rowC, cpCall, List.length_map, if_true]
    rw [if_pos ⟨trivial, by simp [rowsE]⟩]
  rw [e5, e6]
  simp only [beq_self_eq_true, Bool.and_self, cond_true]
theorem cp3_run {full : Bool} {l : List CallD} (k : Kont) (h : okCs l) : ∀ (m i : Nat), i + m = l.length → rounds cp3Turn (m + 1) (cp3St full l i (rowsC l i)) k = k (.exit 0) (stL 45 [3] [.own 0 0 l.length l.length false] [] [] [.arr 2 (rowsC l l.length) l.length] [])
  | 0, i, he => by
    obtain rfl : i = l.length := by omega
    rw [rounds_succ', cp3_step0, decide_eq_false (by omega)]
    rfl
  | m + 1, i, he => by
    have hi : i < l.length := by omega
    rw [rounds_succ', cp3_step _ hi h.2.2 (h.1.2 _ (List.getElem_mem hi)) (h.2.1 _ (List.getElem_mem hi))]
    exact cp3_run k h m (i + 1) (by omega)
noncomputable def cp3Sq : LSp := fun vs bs H k => match vs, bs, H with
  | [.own 0 0 0 0 false, x, .int .i64 n, .int .i64 z], [], [.arr 2 [] 0] => cond (tst (x = encPipe (fullOf x) (decL decCall x) ∧ okCs (decL decCall x) ∧ n = ((decL decCall x).length : Int) ∧ z = 0))
      (k (.exit 0) [.own 0 0 (decL decCall x).length (decL decCall x).length false] [] [.arr 2 (rowsC (decL decCall x) (decL decCall x).length) (decL decCall x).length]) none
  | _, _, _ => none
theorem cp3Sq_ok : SpOKM cp3Turn 45 [3,10,11,12] [] [3] [] cp3Sq := by
  intro vs bs H k out ho
  unfold cp3Sq at ho
  split at ho
  case h_2 => simp at ho
  rename_i x n z
  rw [Bool.cond_eq_ite] at ho
  split at ho
  case isFalse => simp at ho
  rename_i hc
  obtain ⟨hx, hok, rfl, rfl⟩ := of_tst hc
  generalize fullOf x = full at hx
  generalize decL decCall x = l at *
  subst hx
  exact ⟨_, _, _, _, _, _, .refl _, ⟨_, fun k => cp3_run k hok l.length 0 (by omega)⟩, .refl _, ho⟩
noncomputable def cpFH2 : FH := .of [(7, loopSpec 45 [3,5,10,11,12,22,23] [5] [3,5,10,11,12] [5] cp7Sp), (3, loopSpecM 45 [3,10,11,12] [] [3] [] cp3Sq)]
theorem cp_loops : LOk Try.prog cpFH2 (codeOf Try.prog 74) := by
  have f7 : cpFH2.loops (firstRegion (loopAt 7 (codeOf Try.prog 74))) = some (loopSpec 45 [3,5,10,11,12,22,23] [5] [3,5,10,11,12] [5] cp7Sp) := by kernel_rfl
  have f7' : cpFH.loops (firstRegion (loopAt 7 (codeOf Try.prog 74))) = some (loopSpec 45 [3,5,10,11,12,22,23] [5] [3,5,10,11,12] [5] cp7Sp) := by kernel_rfl
  have f3 : cpFH2.loops (firstRegion (loopAt 3 (codeOf Try.prog 74))) = some (loopSpecM 45 [3,10,11,12] [] [3] [] cp3Sq) := by kernel_rfl
  have e : loopsIn (codeOf Try.prog 74) = [loopAt 3 (codeOf Try.prog 74), loopAt 7 (codeOf Try.prog 74)] := by kernel_rfl
  have e7 : loopsIn (loopAt 7 (codeOf Try.prog 74)) = [] := by kernel_rfl
  have e3 : loopsIn (loopAt 3 (codeOf Try.prog 74)) = [loopAt 7 (codeOf Try.prog 74)] := by kernel_rfl
  have t7 : LoopTold Try.prog (loopAt 7 (codeOf Try.prog 74)) (loopSpec 45 [3,5,10,11,12,22,23] [5] [3,5,10,11,12] [5] cp7Sp) := layCp_ok.told (LOk.of _ (fun d hd => by rw [e7] at hd; cases hd)) cp7Sp_ok
  have t3 : LoopTold Try.prog (loopAt 3 (codeOf Try.prog 74)) (loopSpecM 45 [3,10,11,12] [] [3] [] cp3Sq) := layCp_ok.toldM (LOk.of _ (fun d hd sp hsp => by
    rw [e3, List.mem_singleton] at hd
    subst hd
    rw [f7', Option.some.injEq] at hsp
    subst hsp; exact t7)) cp3Sq_ok
  refine LOk.of _ (fun d hd sp hsp => ?_)
  rw [e, List.mem_cons, List.mem_singleton] at hd
  rcases hd with rfl | rfl
  · rw [f3, Option.some.injEq] at hsp
    subst hsp; exact t3
  · rw [f7, Option.some.injEq] at hsp
    subst hsp; exact t7
noncomputable def layCq : Lay := layCp.addL 74 cpFH2
theorem layCq_ok : layCq.OK Try.prog := layCp_ok.addL cp_loops
theorem cp_fun (full : Bool) (l : List CallD) (k : Out → Ans) : iFun Try.prog (layCq.hd Try.prog) layCq.fhs 0 74 [encPipe full l] [] k =
    cond (decide ((0 : Int) ≤ 0) && decide ((0 : Int) ≤ l.length) && decide (((40 : Nat) : Int) * l.length ≤ 281474976710656) && decide ((l.length : Int) ≤ 9223372036854775807))
      (cond (tst (encPipe full l = encPipe (fullOf (encPipe full l)) (decL decCall (encPipe full l)) ∧ okCs (decL decCall (encPipe full l)) ∧ (l.length : Int) = ((decL decCall (encPipe full l)).length : Int) ∧ (0 : Int) = 0))
        (k (.ret (.own 0 0 (decL decCall (encPipe full l)).length (decL decCall (encPipe full l)).length false) [.arr 2 (rowsC (decL decCall (encPipe full l)) (decL decCall (encPipe full l)).length) (decL decCall (encPipe full l)).length])) none) none := by kernel_rfl
end Go.Mu
