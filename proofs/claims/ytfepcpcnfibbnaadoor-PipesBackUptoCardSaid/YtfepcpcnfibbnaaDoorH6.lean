/-
  Lemmas on the given program (part 6).
-/
import Derived.Test.YtfepcpcnfibbnaaDoorH5
import Derived.Test.YtfepcpcnfibbnaaDoorRows
set_option linter.unusedVariables false
set_option linter.unusedSimpArgs false
set_option maxRecDepth 100000
namespace Go.Mu
open Go Go.Proofs
/- where a sign stands -/
def isSig (w : WdD) : Bool := w.kind == 6
def idxW (l : List WdD) : Int := bif l.any isSig then ((l.findIdx isSig : Nat) : Int) else -1
def idxWR (x : AVal) : Int := idxW (decL decWq x)
abbrev idxF : FuncId := 37
abbrev sigF : FuncId := 38
structure IwA where
  x : AVal
  H : Heap
def iwAny (x : AVal) : Bool := (decL decWq x).any isSig
def iwIdx (x : AVal) : Nat := (decL decWq x).findIdx isSig
noncomputable def iwSp : LSp := mkL (fun vs _ H => IwA.mk (vs.getD 0 .undef) H) (fun a => lenWqR a.x ≤ 1099511627776) (fun a => [encWqsR a.x, .func sigF [], .int .i64 (lenWqR a.x : Nat), .int .i64 0]) (fun _ => []) (fun a => a.H)
  (fun a k => cond (iwAny a.x) (k .ret [.int .i64 (iwIdx a.x : Nat)] [] a.H) (k (.exit 0) [.undef] [] a.H))
noncomputable def iwFH : FH := .of [(2, loopSpec 19 [0,1,7,8] [] [4] [] iwSp)]
noncomputable abbrev iwTurn := lturn Tryd.prog Lay.nil iwFH idxF 2 [0,1,7,8] [] [4] []
theorem iw_step (f : Bool) (l : List WdD) (n i : Int) (H : Heap) (D : List (FuncId × List AVal)) (k : Kont) : iwTurn (stL 19 [0,1,7,8] [encWqs f l, .func sigF [], .int .i64 n, .int .i64 i] [] [] H D) k = (
  bif decide (i < n) then
    bif decide (0 ≤ i) && decide (i < (l.length : Int)) then
      bif isSig (l.getD i.toNat wd0) then k .ret (stL 19 [4] [.int .i64 i] [] [] H D)
      else k .normal (stL 19 [0,1,7,8] [encWqs f l, .func sigF [], .int .i64 n, .int .i64 (IntKind.i64.wrap (i + 1))] [] [] H D)
    else none
  else k (.exit 0) (stL 19 [4] [.undef] [] [] H D)) := by kernel_rfl
theorem iwSp_ok : SpOK iwTurn 19 [0,1,7,8] [] [4] [] iwSp := mkL_ok fun a h => by
  obtain ⟨x, H⟩ := a
  replace h : (decL decWq x).length ≤ 1099511627776 := h
  have hrun : ∀ (f : Bool) (l : List WdD), l.length ≤ 1099511627776 → ∀ D k, rounds iwTurn (l.length + 1) (stL 19 [0,1,7,8] [encWqs f l, .func sigF [], .int .i64 l.length, .int .i64 0] [] [] H D) k = cond (l.any isSig) (k .ret (stL 19 [4] [.int .i64 (l.findIdx isSig : Nat)] [] [] H D)) (k (.exit 0) (stL 19 [4] [.undef] [] [] H D)) := by
    intro f l hl D k
    have := search_find (turn := iwTurn) (S := fun i => stL 19 [0,1,7,8] [encWqs f l, .func sigF [], .int .i64 l.length, .int .i64 (i : Nat)] [] [] H D) (hit := fun i => isSig (l.getD i wd0)) (n := l.length) (e0 := .exit 0) (e1 := .ret)
      (R0 := stL 19 [4] [.undef] [] [] H D) (R1 := fun i => stL 19 [4] [.int .i64 (i : Nat)] [] [] H D) (fun i k hi => by
        rw [iw_step, dT (show (i : Int) < l.length by omega), dT (show (0 : Int) ≤ i by omega), wrap_add1 (by omega)]; rfl) (fun k => by rw [iw_step, dF (by omega)]; rfl) (by simp) (by simp) k
    rw [find_getD isSig] at this
    refine Eq.trans this ?_
    cases l.any isSig <;> rfl
  have hr := hrun (fullOf x) (decL decWq x) h
  show ∃ e vs bs H', (∀ k : AExit → List AVal → List (List AVal) → Heap → Ans, cond (iwAny x) _ _ = k e vs bs H') ∧ _
  cases ha : (decL decWq x).any isSig with
  | true =>
    have : iwAny x = true := ha
    rw [this]
    exact ⟨_, _, _, _, fun k => rfl, _, fun D k => (hr D k).trans (by rw [ha]; rfl)⟩
  | false =>
    have : iwAny x = false := ha
    rw [this]
    exact ⟨_, _, _, _, fun k => rfl, _, fun D k => (hr D k).trans (by rw [ha]; rfl)⟩
noncomputable def layIw : Lay := Lay.nil.addL idxF iwFH
theorem layIw_ok : layIw.OK Tryd.prog := Lay.nil_ok.loop1 (id := 2) (by kernel_rfl) (by kernel_rfl) (by kernel_rfl) iwSp_ok
theorem iw_fun (f : Bool) (l : List WdD) (k : Out → Ans) : iFun Tryd.prog (layIw.hd Tryd.prog) layIw.fhs 0 37 [encWqs f l, .func sigF []] [] k = (
  let m0 : Nat := lenWqR (AVal.list f l.length fun (i : Nat) => encWq (l.getD i wd0));
  bif
      tst
        (m0 ≤ 1099511627776 ∧
          SubTL
              [AVal.list f l.length fun (i : Nat) => encWq (l.getD i wd0), AVal.func 38 [],
                AVal.int IntKind.i64 (↑l.length : Int), AVal.int IntKind.i64 0]
              [encWqsR (AVal.list f l.length fun (i : Nat) => encWq (l.getD i wd0)), AVal.func 38 [],
                AVal.int IntKind.i64 (↑m0 : Int), AVal.int IntKind.i64 0] ∧
            ([] : List (List AVal)) = [] ∧ ([] : Heap) = []) then
    bif iwAny (AVal.list f l.length fun (i : Nat) => encWq (l.getD i wd0)) then
      k
        (Out.ret
          (AVal.int IntKind.i64 (↑(iwIdx (AVal.list f l.length fun (i : Nat) => encWq (l.getD i wd0))) : Int))
          [])
    else k (Out.ret (AVal.int IntKind.i64 (-1)) [])
  else none) := by kernel_rfl
theorem encWqsR_enc (f : Bool) (l : List WdD) : encWqsR (AVal.list f l.length fun (i : Nat) => encWq (l.getD i wd0)) = AVal.list f l.length fun (i : Nat) => encWq (l.getD i wd0) := by
  unfold encWqsR; rw [decWqs_enc]; rfl
theorem iw_ok (f : Bool) (l : List WdD) (h : l.length ≤ 1099511627776) : CallOK Tryd.prog idxF [encWqs f l, .func sigF []] [] (.ret (.int .i64 (idxW l)) []) := by
  have d := decWqs_enc f l
  have e1 : lenWqR (AVal.list f l.length fun (i : Nat) => encWq (l.getD i wd0)) = l.length := by unfold lenWqR; rw [d]
  have e2 := encWqsR_enc f l
  have e3 : iwAny (AVal.list f l.length fun (i : Nat) => encWq (l.getD i wd0)) = l.any isSig := by unfold iwAny; rw [d]
  have e4 : iwIdx (AVal.list f l.length fun (i : Nat) => encWq (l.getD i wd0)) = l.findIdx isSig := by unfold iwIdx; rw [d]
  refine layIw_ok.callF (G := []) rfl (fun k => (iw_fun f l k).trans ?_)
  simp only [e1, e2, e3, e4]
  refine (congrArg (fun c => cond c _ none) (tst_true ⟨h, .refl _, trivial, trivial⟩)).trans ?_
  unfold idxW
  cases l.any isSig <;> rfl
noncomputable def iwTold : FSp := mkF (fun xs H => (xs.getD 0 .undef)) (fun x => lenWqR x ≤ 1099511627776) (fun x => [encWqsR x, .func sigF []]) (fun _ => []) (fun x k => k (.ret (.int .i64 (idxWR x)) []))
theorem iwTold_ok : ∀ xs H k out, iwTold xs H k = some out → ∃ o, CallOK Tryd.prog idxF xs H o ∧ k o = some out := mkF_ok fun x h => ⟨_, fun k => rfl, iw_ok _ _ h⟩
/- called, told -/
def hdW (l : List WdD) : WdD := l.headD wd0
structure CaA where
  x : AVal
  ah : Bool
def caOk (x : AVal) : Prop := decL decWq x ≠ [] ∧ (decL decWq x).length ≤ 67108864 ∧ ∀ w ∈ decL decWq x, okWd w
def caE (x : AVal) (ah : Bool) : Option (Nat × Int) := calE (hdW (decL decWq x)) (decL decWq x).tail ah
def caBad (x : AVal) (ah : Bool) : Bool := (caE x ah).isSome
def caAt (x : AVal) (ah : Bool) : Int := (((caE x ah).getD (0, 0)).1 : Int)
def caErr (x : AVal) (ah : Bool) : Int := ((caE x ah).getD (0, 0)).2
def caC (x : AVal) : CallD := calC (hdW (decL decWq x)) (decL decWq x).tail
noncomputable def caTold : FSp := mkF (fun xs H => CaA.mk (xs.getD 0 .undef) (aB xs 1)) (fun a => caOk a.x) (fun a => [encWqsR a.x, .bool a.ah]) (fun _ => [])
  (fun a k => cond (caBad a.x a.ah) (k (.panic (fltP (caAt a.x a.ah) (caErr a.x a.ah)) [])) (k (.ret (.agg (encCall (caC a.x))) [])))
theorem caTold_ok : ∀ xs H k out, caTold xs H k = some out → ∃ o, CallOK Tryd.prog 39 xs H o ∧ k o = some out := mkF_ok fun a h => by
  obtain ⟨x, ah⟩ := a
  obtain ⟨h1, h2, h3⟩ := h
  simp only at h1 h2 h3
  obtain ⟨w, r, hx⟩ : ∃ w r, decL decWq x = w :: r := by
    cases hd : decL decWq x with
    | nil => exact absurd hd h1
    | cons w r => exact ⟨w, r, rfl⟩
  rw [hx] at h2 h3
  have key := cal_ok (fullOf x) w r ah (by rw [List.length_cons] at h2; omega) (h3 w (by simp)) (fun y hy => h3 y (by simp [hy]))
  have he : caE x ah = calE w r ah := by unfold caE; rw [hx]; rfl
  have hc : caC x = calC w r := by unfold caC; rw [hx]; rfl
  have hxx : [encWqsR x, AVal.bool ah] = [encWqs (fullOf x) (w :: r), .bool ah] := by unfold encWqsR; rw [hx]
  show ∃ o, (∀ k : Out → Ans, cond (caBad x ah) _ _ = k o) ∧ CallOK _ _ [encWqsR x, AVal.bool ah] [] o
  rw [hxx]
  cases hb : calE w r ah with
  | some e =>
    rw [hb] at key
    have b1 : caBad x ah = true := by unfold caBad; rw [he, hb]; rfl
    have b2 : caAt x ah = e.1 := by unfold caAt; rw [he, hb]; rfl
    have b3 : caErr x ah = e.2 := by unfold caErr; rw [he, hb]; rfl
    rw [b1, b2, b3]
    exact ⟨_, fun k => rfl, key⟩
  | none =>
    rw [hb] at key
    have b1 : caBad x ah = false := by unfold caBad; rw [he, hb]; rfl
    rw [b1, hc]
    exact ⟨_, fun k => rfl, key⟩
/- the loop of Parse -/
noncomputable def layPa : Lay := (Lay.nil.addF idxF iwTold).addF 39 caTold
theorem layPa_ok : layPa.OK Tryd.prog := (Lay.nil_ok.addF iwTold_ok).addF caTold_ok
def paFH0 : FH := { heap := [4,5,6], hoist := true }
abbrev paV (at_ : Int) : List AVal := [.int .i64 at_, .ptr (.hp 0) 0, .ptr (.hp 1) 0, .ptr (.hp 2) 0]
abbrev paH (x : AVal) : Heap := [.var [x], .var [.int .i64 0], .var [.int .i64 0]]
noncomputable abbrev paTurn := lturn Tryd.prog layPa paFH0 12 3 [0,1,4,5,6] [] [1,4,5,6] []
abbrev paX (l : List WdD) (f : Bool) (m : Int) : AVal := AVal.list f (m - 0).toNat fun (i : Nat) => encWq (l.getD (Int.toNat 0 + i) wd0)
/-- a round, from where the sign stands -/
noncomputable def paBody (f : Bool) (l : List WdD) (at_ : Int) (D : List (FuncId × List AVal)) (k : Kont) (ah : Bool) (H : Heap) (G : Ans → Ans) (H2 : List AVal → Heap) (f' : Bool) (m : Int) : Ans :=
  bif tst (caOk (paX l f' m) ∧ SubL [paX l f' m, .bool ah] [encWqsR (paX l f' m), .bool ah] ∧ ([] : Heap) = []) then
    bif caBad (paX l f' m) ah then k (.panic (fltP (caAt (paX l f' m) ah) (caErr (paX l f' m) ah))) (stL 82 [1,4,5,6] (paV at_) [] [] H D)
    else bif decide (0 < (l.length : Int)) then G (
      bif m == (l.length : Int) then k (.exit 0) (stL 82 [1,4,5,6] (paV at_) [] [] (H2 (encCall (caC (paX l f' m)))) D)
      else bif decide (0 ≤ m) && decide (m < (l.length : Int)) then
        bif decide (0 ≤ m) && decide (m < (l.length : Int)) then
          bif !(l.getD m.toNat wd0).text == [124] then k (.panic (fltP (l.getD m.toNat wd0).at_ 33)) (stL 82 [1,4,5,6] (paV at_) [] [] (H2 (encCall (caC (paX l f' m)))) D)
          else bif !decide (IntKind.i64.wrap (m + 1) < (l.length : Int)) then k (.panic (fltP at_ 33)) (stL 82 [1,4,5,6] (paV at_) [] [] (H2 (encCall (caC (paX l f' m)))) D)
          else bif decide (0 ≤ IntKind.i64.wrap (m + 1)) && decide (IntKind.i64.wrap (m + 1) ≤ (l.length : Int)) && decide ((l.length : Int) ≤ (l.length : Int)) then
            k .normal (stL 82 [0,1,4,5,6] ((AVal.list (f && (l.length : Int) == (l.length : Int)) ((l.length : Int) - IntKind.i64.wrap (m + 1)).toNat fun (i : Nat) => encWq (l.getD ((IntKind.i64.wrap (m + 1)).toNat + i) wd0)) :: paV at_) [] [] (H2 (encCall (caC (paX l f' m)))) D)
          else none
        else none
      else none)
    else none
  else none
noncomputable def paAll (f : Bool) (l : List WdD) (at_ : Int) (D : List (FuncId × List AVal)) (k : Kont) (ah : Bool) (H : Heap) (G : Ans → Ans) (H2 : List AVal → Heap) : Ans :=
  bif decide ((l.length : Int) > 0) then
    bif decide (0 < (l.length : Int)) then
      bif decide (0 < (l.length : Int)) then
        bif !(l.getD 0 wd0).kind != 6 then k (.panic (fltP (l.getD 0 wd0).at_ 33)) (stL 82 [1,4,5,6] (paV at_) [] [] H D)
        else bif tst (lenWqR (AVal.list f l.length fun (i : Nat) => encWq (l.getD i wd0)) ≤ 1099511627776 ∧ SubL [AVal.list f l.length fun (i : Nat) => encWq (l.getD i wd0), AVal.func sigF []] [encWqsR (AVal.list f l.length fun (i : Nat) => encWq (l.getD i wd0)), AVal.func sigF []] ∧ ([] : Heap) = []) then
          bif decide (idxWR (AVal.list f l.length fun (i : Nat) => encWq (l.getD i wd0)) < 0) then
            bif decide ((l.length : Int) ≤ (l.length : Int)) then paBody f l at_ D k ah H G H2 (f && (l.length : Int) == (l.length : Int)) (l.length : Int) else none
          else bif decide (0 ≤ idxWR (AVal.list f l.length fun (i : Nat) => encWq (l.getD i wd0))) && decide (idxWR (AVal.list f l.length fun (i : Nat) => encWq (l.getD i wd0)) ≤ (l.length : Int)) then
            paBody f l at_ D k ah H G H2 (f && idxWR (AVal.list f l.length fun (i : Nat) => encWq (l.getD i wd0)) == (l.length : Int)) (idxWR (AVal.list f l.length fun (i : Nat) => encWq (l.getD i wd0))) else none
        else none
      else none
    else none
  else k (.exit 0) (stL 82 [1,4,5,6] (paV at_) [] [] H D)
theorem pa_s0 (f : Bool) (l : List WdD) (at_ : Int) (D : List (FuncId × List AVal)) (k : Kont) : paTurn (stL 82 [0,1,4,5,6] (encWqs f l :: paV at_) [] [] (paH nilList) D) k =
  paAll f l at_ D k false (paH nilList) (fun x => x) (fun r => paH (.own 3 0 (0 + 1) 0 false) ++ [.arr 2 [r] 0]) := by kernel_rfl
theorem pa_s1 (f : Bool) (l : List WdD) (at_ : Int) (q v : Nat) (rows : List (List AVal)) (D : List (FuncId × List AVal)) (k : Kont) : paTurn (stL 82 [0,1,4,5,6] (encWqs f l :: paV at_) [] [] (paH (.own 3 0 q v false) ++ [.arr 2 rows v]) D) k =
  paAll f l at_ D k (decide ((q : Int) > 0)) (paH (.own 3 0 q v false) ++ [.arr 2 rows v]) (fun x => bif !decide ((q : Int) < 16) then k (.panic (fltP (l.getD 0 wd0).at_ 3)) (stL 82 [1,4,5,6] (paV at_) [] [] (paH (.own 3 0 q v false) ++ [.arr 2 rows v]) D) else bif v == v && q == rows.length && decide ((2 * (q + 1) + 1000) * 40 ≤ 281474976710656) && true then x else none) (fun r => paH (.own 3 0 (q + 1) (v + 1) false) ++ [.arr 2 (rows ++ [r]) (v + 1)]) := by kernel_rfl
/- a round, plain -/
def pPos (l : List WdD) : Nat := l.findIdx isSig
def paC (l : List WdD) : CallD := calC (hdW (l.take (pPos l))) (l.take (pPos l)).tail
def paE (l : List WdD) (ah : Bool) : Option (Nat × Int) := calE (hdW (l.take (pPos l))) (l.take (pPos l)).tail ah
noncomputable def paM (f : Bool) (l : List WdD) (at_ : Int) (D : List (FuncId × List AVal)) (k : Kont) (ah : Bool) (H : Heap) (G : Ans → Ans) (H2 : List AVal → Heap) : Ans :=
  bif (hdW l).kind == 6 then k (.panic (fltP (hdW l).at_ 33)) (stL 82 [1,4,5,6] (paV at_) [] [] H D) else
  match paE l ah with
  | some e => k (.panic (fltP e.1 e.2)) (stL 82 [1,4,5,6] (paV at_) [] [] H D)
  | none => G (bif pPos l == l.length then k (.exit 0) (stL 82 [1,4,5,6] (paV at_) [] [] (H2 (encCall (paC l))) D) else
    bif !(l.getD (pPos l) wd0).text == [124] then k (.panic (fltP (l.getD (pPos l) wd0).at_ 33)) (stL 82 [1,4,5,6] (paV at_) [] [] (H2 (encCall (paC l))) D) else
    bif !decide (pPos l + 1 < l.length) then k (.panic (fltP at_ 33)) (stL 82 [1,4,5,6] (paV at_) [] [] (H2 (encCall (paC l))) D) else
    k .normal (stL 82 [0,1,4,5,6] (encWqs f (l.drop (pPos l + 1)) :: paV at_) [] [] (H2 (encCall (paC l))) D))
theorem paX_dec (l : List WdD) (f : Bool) (p : Nat) (hp : p ≤ l.length) : decL decWq (paX l f (p : Int)) = l.take p := by
  have h : ∀ i, decWq (encWq (l.getD (Int.toNat 0 + i) wd0)) = l.getD i wd0 := fun i => by
    rw [show Int.toNat 0 + i = i from Nat.zero_add i]; rfl
  unfold paX
  simp only [decL, h]
  have e : ((p : Int) - 0).toNat = p := by omega
  rw [e]
  have h2 : ∀ i ∈ List.range p, l.getD i wd0 = (l.take p).getD i wd0 := fun i hi => by
    rw [List.mem_range] at hi
    rw [List.getD_eq_getElem?_getD, List.getD_eq_getElem?_getD, List.getElem?_take, if_pos hi]
  rw [List.map_congr_left h2]
  have := range_getD (l.take p) wd0
  rw [List.length_take, Nat.min_eq_left hp] at this
  exact this
theorem paX_enc (ah : Bool) (l : List WdD) (f : Bool) (p : Nat) (hp : p ≤ l.length) : SubL [paX l f (p : Int), .bool ah] [encWqsR (paX l f (p : Int)), .bool ah] := by
  refine .cons ?_ (.cons (.refl _) .nil)
  unfold encWqsR
  rw [paX_dec l f p hp]
  have e : ((p : Int) - 0).toNat = p := by omega
  show Sub (AVal.list f ((p : Int) - 0).toNat fun (i : Nat) => encWq (l.getD (Int.toNat 0 + i) wd0)) (AVal.list f (l.take p).length fun (i : Nat) => encWq ((l.take p).getD i wd0))
  rw [e, List.length_take, Nat.min_eq_left hp]
  refine Sub.list (fun h => h) (fun i hi => ?_)
  have h : l.getD (Int.toNat 0 + i) wd0 = (l.take p).getD i wd0 := by
    rw [show Int.toNat 0 + i = i from Nat.zero_add i, List.getD_eq_getElem?_getD, List.getD_eq_getElem?_getD, List.getElem?_take, if_pos hi]
  rw [h]
  exact .refl _
theorem pPos_le (l : List WdD) : pPos l ≤ l.length := List.findIdx_le_length
theorem pPos_any (l : List WdD) : l.any isSig = decide (pPos l < l.length) := by
  unfold pPos
  rw [Bool.eq_iff_iff, decide_eq_true_eq, List.any_eq_true, List.findIdx_lt_length]
theorem paBody_eq (f : Bool) (l : List WdD) (at_ : Int) (D : List (FuncId × List AVal)) (k : Kont) (ah : Bool) (H : Heap) (G : Ans → Ans) (H2 : List AVal → Heap) (f' : Bool) (hl : l.length ≤ 67108864) (hw : ∀ w ∈ l, okWd w) (hp0 : 0 < pPos l) (h6 : ((hdW l).kind == 6) = false) :
    paBody f l at_ D k ah H G H2 f' (pPos l : Int) = paM f l at_ D k ah H G H2 := by
  have hp := pPos_le l
  have dX := paX_dec l f' (pPos l) hp
  have hne : l.take (pPos l) ≠ [] := by
    intro h
    have := congrArg List.length h
    rw [List.length_take, List.length_nil] at this
    omega
  have c1 : caOk (paX l f' (pPos l : Int)) := ⟨by rw [dX]; exact hne, by rw [dX, List.length_take]; omega, by rw [dX]; exact fun w h => hw w (List.mem_of_mem_take h)⟩
  have c2 : caE (paX l f' (pPos l : Int)) ah = paE l ah := by unfold caE paE; rw [dX]
  have c3 : caC (paX l f' (pPos l : Int)) = paC l := by unfold caC paC; rw [dX]
  unfold paBody paM
  rw [tst_true ⟨c1, paX_enc ah l f' (pPos l) hp, rfl⟩, cond_true, h6, cond_false, c3]
  cases he : paE l ah with
  | some e =>
    have b1 : caBad (paX l f' (pPos l : Int)) ah = true := by unfold caBad; rw [c2, he]; rfl
    have b2 : caAt (paX l f' (pPos l : Int)) ah = e.1 := by unfold caAt; rw [c2, he]; rfl
    have b3 : caErr (paX l f' (pPos l : Int)) ah = e.2 := by unfold caErr; rw [c2, he]; rfl
    rw [b1, b2, b3]; rfl
  | none =>
    have b1 : caBad (paX l f' (pPos l : Int)) ah = false := by unfold caBad; rw [c2, he]; rfl
    have e0 : IntKind.i64.wrap ((pPos l : Int) + 1) = ((pPos l + 1 : Nat) : Int) := wrap_add1 (by omega)
    have e1 : ((pPos l : Int) == (l.length : Int)) = (pPos l == l.length) := by rw [Bool.eq_iff_iff, beq_iff_eq, beq_iff_eq]; omega
    rw [b1, cond_false, dT (show (0 : Int) < l.length by omega), cond_true, e0, e1, dT (show (0 : Int) ≤ pPos l by omega)]
    congr 1
    cases hq : pPos l == l.length with
    | true => rfl
    | false =>
      have hlt : pPos l < l.length := by
        have : pPos l ≠ l.length := by simpa using hq
        omega
      rw [dT (show (pPos l : Int) < l.length by omega), Int.toNat_natCast, Int.toNat_natCast]
      simp only [cond_false, Bool.and_self, cond_true]
      cases (l.getD (pPos l) wd0).text == [124] with
      | false => rfl
      | true =>
        simp only [Bool.not_true, cond_false]
        by_cases h1 : pPos l + 1 < l.length
        · have e3 : ((l.length : Int) - ((pPos l + 1 : Nat) : Int)).toNat = (l.drop (pPos l + 1)).length := by rw [List.length_drop]; omega
          have e4 : (fun i => encWq (l.getD (pPos l + 1 + i) wd0)) = fun i => encWq ((l.drop (pPos l + 1)).getD i wd0) := funext fun i => by rw [List.getD_drop]
          rw [dT h1, dT (show ((pPos l + 1 : Nat) : Int) < l.length by omega), dT (show (0 : Int) ≤ ((pPos l + 1 : Nat) : Int) by omega), dT (show ((pPos l + 1 : Nat) : Int) ≤ l.length by omega), dT (show (l.length : Int) ≤ l.length by omega), e3, e4, beq_self_eq_true]
          simp only [Bool.and_true, Bool.not_true, cond_false, Bool.and_self, cond_true]
        · rw [dF h1, dF (show ¬ ((pPos l + 1 : Nat) : Int) < l.length by omega)]
          rfl
theorem paAll_eq (f : Bool) (l : List WdD) (at_ : Int) (D : List (FuncId × List AVal)) (k : Kont) (ah : Bool) (H : Heap) (G : Ans → Ans) (H2 : List AVal → Heap) (hl : l.length ≤ 67108864) (hw : ∀ w ∈ l, okWd w) (hne : l ≠ []) :
    paAll f l at_ D k ah H G H2 = paM f l at_ D k ah H G H2 := by
  obtain ⟨w, r, rfl⟩ : ∃ w r, l = w :: r := by
    cases l with
    | nil => exact absurd rfl hne
    | cons w r => exact ⟨w, r, rfl⟩
  have hd := decWqs_enc f (w :: r)
  have i1 : idxWR (AVal.list f (w :: r).length fun (i : Nat) => encWq ((w :: r).getD i wd0)) = idxW (w :: r) := by unfold idxWR; rw [hd]
  have i2 : lenWqR (AVal.list f (w :: r).length fun (i : Nat) => encWq ((w :: r).getD i wd0)) = (w :: r).length := by unfold lenWqR; rw [hd]
  have i3 := encWqsR_enc f (w :: r)
  have e0 : ((w :: r).getD 0 wd0) = w := rfl
  have hpos : (0 : Int) < ((w :: r).length : Int) := by rw [List.length_cons]; omega
  unfold paAll
  rw [dT hpos, cond_true, cond_true, cond_true, e0, i1, i2, i3, tst_true ⟨by omega, .refl _, rfl⟩, cond_true]
  cases h6 : w.kind == 6 with
  | true =>
    have : (w.kind != 6) = false := by simp [bne, h6]
    rw [this]
    unfold paM
    rw [show hdW (w :: r) = w from rfl, h6]
    rfl
  | false =>
    have : (w.kind != 6) = true := by simp [bne, h6]
    rw [this, Bool.not_true, cond_false]
    have hs : isSig w = false := h6
    have hp0 : 0 < pPos (w :: r) := by
      unfold pPos
      rw [List.findIdx_cons, hs]
      simp
    have hp := pPos_le (w :: r)
    have key := fun f' => paBody_eq f (w :: r) at_ D k ah H G H2 f' hl hw hp0 h6
    unfold idxW
    rw [pPos_any]
    by_cases hlt : pPos (w :: r) < (w :: r).length
    · rw [dT hlt, cond_true]
      show (bif decide (((pPos (w :: r) : Nat) : Int) < 0) then _ else _) = _
      rw [dF (by omega), cond_false]
      rw [show ((w :: r).findIdx isSig) = pPos (w :: r) from rfl, dT (show (0 : Int) ≤ (pPos (w :: r) : Nat) by omega), dT (show ((pPos (w :: r) : Nat) : Int) ≤ ((w :: r).length : Int) by omega), Bool.and_self, cond_true]
      exact key _
    · have heq : pPos (w :: r) = (w :: r).length := by omega
      rw [dF hlt, cond_false, dT (show (-1 : Int) < 0 by omega), cond_true, dT (Int.le_refl _), cond_true]
      have := key (f && ((w :: r).length : Int) == ((w :: r).length : Int))
      rw [heq] at this
      exact this
abbrev paHc (cs : List CallD) : Heap := paH (gV 3 cs.length) ++ gH 2 encCall cs
abbrev paS (l : List WdD) (f : Bool) (at_ : Int) (cs : List CallD) (D : List (FuncId × List AVal)) : St := stL 82 [0,1,4,5,6] (encWqs f l :: paV at_) [] [] (paHc cs) D
abbrev paZ (at_ : Int) (cs : List CallD) (D : List (FuncId × List AVal)) : St := stL 82 [1,4,5,6] (paV at_) [] [] (paHc cs) D
theorem pa_round (f : Bool) (l : List WdD) (at_ : Int) (cs : List CallD) (D : List (FuncId × List AVal)) (k : Kont) (hl : l.length ≤ 67108864) (hw : ∀ w ∈ l, okWd w) (hne : l ≠ []) (hcs : cs.length ≤ 1048576) : paTurn (paS l f at_ cs D) k =
  bif (hdW l).kind == 6 then k (.panic (fltP (hdW l).at_ 33)) (paZ at_ cs D) else
  match paE l (decide (0 < cs.length)) with
  | some e => k (.panic (fltP e.1 e.2)) (paZ at_ cs D)
  | none => bif !decide (cs.length < 16) then k (.panic (fltP (hdW l).at_ 3)) (paZ at_ cs D) else
    bif pPos l == l.length then k (.exit 0) (paZ at_ (cs ++ [paC l]) D) else
    bif !(l.getD (pPos l) wd0).text == [124] then k (.panic (fltP (l.getD (pPos l) wd0).at_ 33)) (paZ at_ (cs ++ [paC l]) D) else
    bif !decide (pPos l + 1 < l.length) then k (.panic (fltP at_ 33)) (paZ at_ (cs ++ [paC l]) D) else
    k .normal (paS (l.drop (pPos l + 1)) f at_ (cs ++ [paC l]) D) := by
  obtain ⟨s1, s2⟩ := g_snoc 3 2 encCall cs (paC l)
  have hH : paHc (cs ++ [paC l]) = paH (.own 3 0 (cs.length + 1) cs.length false) ++ [.arr 2 ((cs ++ [paC l]).map encCall) cs.length] := by
    show paH (gV 3 (cs ++ [paC l]).length) ++ gH 2 encCall (cs ++ [paC l]) = _
    rw [s1, s2]
  unfold paS paZ
  rw [hH]
  have hhd : l.getD 0 wd0 = hdW l := by
    cases l with
    | nil => exact absurd rfl hne
    | cons w r => rfl
  cases cs with
  | nil =>
    refine (pa_s0 f l at_ D k).trans ((paAll_eq f l at_ D k _ _ _ _ hl hw hne).trans ?_)
    rfl
  | cons c t =>
    refine (pa_s1 f l at_ (t.length + 1) t.length ((c :: t).map encCall) D k).trans ((paAll_eq f l at_ D k _ _ _ _ hl hw hne).trans ?_)
    unfold paM
    have e1 : decide (((t.length + 1 : Nat) : Int) > 0) = decide (0 < (c :: t).length) := by rw [dT (by omega), dT (by simp)]
    have e2 : decide (((t.length + 1 : Nat) : Int) < 16) = decide ((c :: t).length < 16) := decide_eq_decide.2 (by rw [List.length_cons]; omega)
    have e3 : (t.length == t.length && t.length + 1 == ((c :: t).map encCall).length && decide ((2 * (t.length + 1 + 1) + 1000) * 40 ≤ 281474976710656) && true) = true := by
      rw [List.length_cons] at hcs
      rw [dT (by omega)]; simp
    rw [e1]
    simp only [e2, e3, hhd, cond_true]
    have e4 : (c :: t).map encCall ++ [encCall (paC l)] = (c :: t ++ [paC l]).map encCall := by simp
    rw [e4]
    rfl
/-- a pipeline's words: where and why they are refused, and the calls -/
def parM : Nat → List WdD → List CallD → Int → Option (Int × Int) × List CallD
  | 0, _, cs, _ => (none, cs)
  | m + 1, l, cs, at_ =>
    bif (hdW l).kind == 6 then (some ((hdW l).at_, 33), cs) else
    match paE l (decide (0 < cs.length)) with
    | some e => (some (e.1, e.2), cs)
    | none => bif !decide (cs.length < 16) then (some ((hdW l).at_, 3), cs) else
      bif pPos l == l.length then (none, cs ++ [paC l]) else
      bif !(l.getD (pPos l) wd0).text == [124] then (some ((l.getD (pPos l) wd0).at_, 33), cs ++ [paC l]) else
      bif !decide (pPos l + 1 < l.length) then (some (at_, 33), cs ++ [paC l]) else
      parM m (l.drop (pPos l + 1)) (cs ++ [paC l]) at_
def parX (r : Option (Int × Int) × List CallD) : AExit := match r.1 with
  | some e => .panic (fltP e.1 e.2)
  | none => .exit 0
theorem pa_runs (f : Bool) (at_ : Int) : ∀ (m : Nat) (l : List WdD) (cs : List CallD), l.length ≤ m → l.length ≤ 67108864 → (∀ w ∈ l, okWd w) → l ≠ [] → cs.length ≤ 16 →
    LoopRuns paTurn 82 [0,1,4,5,6] [] [1,4,5,6] [] (encWqs f l :: paV at_) [] (paHc cs) (parX (parM m l cs at_)) (paV at_) [] (paHc (parM m l cs at_).2) := by
  intro m
  induction m with
  | zero =>
    intro l cs h1 _ _ hne _
    exact absurd (List.eq_nil_of_length_eq_zero (by omega)) hne
  | succ m ih =>
    intro l cs h1 hl hw hne hcs
    have key := fun D k => pa_round f l at_ cs D k hl hw hne (by omega)
    rw [parM]
    cases h6 : (hdW l).kind == 6 with
    | true =>
      simp only [h6, cond_true] at key ⊢
      exact .stop (by simp [parX]) key
    | false =>
      simp only [h6, cond_false] at key ⊢
      cases he : paE l (decide (0 < cs.length)) with
      | some e =>
        simp only [he] at key ⊢
        exact .stop (by simp [parX]) key
      | none =>
        simp only [he] at key ⊢
        by_cases h16 : cs.length < 16
        case neg =>
          simp only [dF h16, Bool.not_false, cond_true] at key ⊢
          exact .stop (by simp [parX]) key
        simp only [dT h16, Bool.not_true, cond_false] at key ⊢
        cases hq : pPos l == l.length with
        | true =>
          simp only [hq, cond_true] at key ⊢
          exact .stop (by simp [parX]) key
        | false =>
          simp only [hq, cond_false] at key ⊢
          cases ht : (l.getD (pPos l) wd0).text == [124] with
          | false =>
            simp only [ht, Bool.not_false, cond_true] at key ⊢
            exact .stop (by simp [parX]) key
          | true =>
            simp only [ht, Bool.not_true, cond_false] at key ⊢
            by_cases hlt : pPos l + 1 < l.length
            case neg =>
              simp only [dF hlt, Bool.not_false, cond_true] at key ⊢
              exact .stop (by simp [parX]) key
            simp only [dT hlt, Bool.not_true, cond_false] at key ⊢
            refine .step key (ih _ _ (by rw [List.length_drop]; omega) (by rw [List.length_drop]; omega) (fun w h => hw w (List.mem_of_mem_drop h)) (fun h => ?_) (by rw [List.length_append]; show _ + 1 ≤ _; omega))
            have := congrArg List.length h
            rw [List.length_drop, List.length_nil] at this
            omega
/- Parse -/
structure PaA where
  x : AVal
  at_ : Int
def paR (x : AVal) (at_ : Int) : Option (Int × Int) × List CallD := parM (decL decWq x).length (decL decWq x) [] at_
def paBad (x : AVal) (at_ : Int) : Bool := (paR x at_).1.isSome
def paEA (x : AVal) (at_ : Int) : Int := ((paR x at_).1.getD (0, 0)).1
def paEE (x : AVal) (at_ : Int) : Int := ((paR x at_).1.getD (0, 0)).2
def paNum (x : AVal) (at_ : Int) : Nat := (paR x at_).2.length
def paRows (x : AVal) (at_ : Int) : List (List AVal) := (paR x at_).2.map encCall
noncomputable def paSp : LSp := mkL (fun vs _ _ => PaA.mk (vs.getD 0 .undef) (aI vs 1)) (fun a => caOk a.x) (fun a => encWqsR a.x :: paV a.at_) (fun _ => []) (fun _ => paH nilList)
  (fun a k => cond (paNum a.x a.at_ == 0) (cond (paBad a.x a.at_) (k (.panic (fltP (paEA a.x a.at_) (paEE a.x a.at_))) (paV a.at_) [] (paH nilList)) (k (.exit 0) (paV a.at_) [] (paH nilList)))
    (cond (paBad a.x a.at_) (k (.panic (fltP (paEA a.x a.at_) (paEE a.x a.at_))) (paV a.at_) [] (paH (.own 3 0 (paNum a.x a.at_) (paNum a.x a.at_ - 1) false) ++ [.arr 2 (paRows a.x a.at_) (paNum a.x a.at_ - 1)]))
      (k (.exit 0) (paV a.at_) [] (paH (.own 3 0 (paNum a.x a.at_) (paNum a.x a.at_ - 1) false) ++ [.arr 2 (paRows a.x a.at_) (paNum a.x a.at_ - 1)]))))
theorem paSp_ok : SpOK paTurn 82 [0,1,4,5,6] [] [1,4,5,6] [] paSp := mkL_ok fun a h => by
  obtain ⟨x, at_⟩ := a
  obtain ⟨h1, h2, h3⟩ := h
  have r := pa_runs (fullOf x) at_ _ (decL decWq x) [] (Nat.le_refl _) h2 h3 h1 (by show 0 ≤ 16; omega)
  show ∃ e vs bs H', (∀ k : AExit → List AVal → List (List AVal) → Heap → Ans, cond (paNum x at_ == 0) _ _ = k e vs bs H') ∧ LoopRuns paTurn _ _ _ _ _ (encWqs (fullOf x) (decL decWq x) :: paV at_) [] (paHc []) e vs bs H'
  have hr : parM (decL decWq x).length (decL decWq x) [] at_ = paR x at_ := rfl
  rw [hr] at r
  have b : ∀ e, (paR x at_).1 = some e → paBad x at_ = true ∧ paEA x at_ = e.1 ∧ paEE x at_ = e.2 := fun e he => ⟨by unfold paBad; rw [he]; rfl, by unfold paEA; rw [he]; rfl, by unfold paEE; rw [he]; rfl⟩
  have b0 : (paR x at_).1 = none → paBad x at_ = false := fun he => by unfold paBad; rw [he]; rfl
  unfold paNum paRows
  cases hc : (paR x at_).2 with
  | nil =>
    rw [hc] at r
    cases he : (paR x at_).1 with
    | some e =>
      obtain ⟨b1, b2, b3⟩ := b e he
      rw [b1, b2, b3]
      unfold parX at r; rw [he] at r
      exact ⟨_, _, _, _, fun k => rfl, r⟩
    | none =>
      rw [b0 he]
      unfold parX at r; rw [he] at r
      exact ⟨_, _, _, _, fun k => rfl, r⟩
  | cons c t =>
    rw [hc] at r
    cases he : (paR x at_).1 with
    | some e =>
      obtain ⟨b1, b2, b3⟩ := b e he
      rw [b1, b2, b3]
      unfold parX at r; rw [he] at r
      exact ⟨_, _, _, _, fun k => rfl, r⟩
    | none =>
      rw [b0 he]
      unfold parX at r; rw [he] at r
      exact ⟨_, _, _, _, fun k => rfl, r⟩
noncomputable def paFH : FH := { FH.of [(3, loopSpec 82 [0,1,4,5,6] [] [1,4,5,6] [] paSp)] with heap := [4,5,6], hoist := true }
theorem pa_turn_eq : lturn Tryd.prog layPa paFH 12 3 [0,1,4,5,6] [] [1,4,5,6] [] = paTurn := by kernel_rfl
noncomputable def layPa2 : Lay := layPa.addL 12 paFH
theorem layPa2_ok : layPa2.OK Tryd.prog := layPa_ok.loop1 (id := 3) (by kernel_rfl) (by kernel_rfl) (by kernel_rfl) (by rw [pa_turn_eq]; exact paSp_ok)
theorem par_fun (f : Bool) (l : List WdD) (at_ : Int) (k : Out → Ans) : iFun Tryd.prog (layPa2.hd Tryd.prog) layPa2.fhs 0 12 [encWqs f l, .int .i64 at_] [] k = (
  let m0 : Nat := paNum (AVal.list f l.length fun (i : Nat) => encWq (l.getD i wd0)) at_;
  let c1 : Bool := paBad (AVal.list f l.length fun (i : Nat) => encWq (l.getD i wd0)) at_;
  let m2 : Nat := m0 - 1;
  bif !decide ((↑l.length : Int) > 0) then
    k
      (Out.ret (AVal.tuple [AVal.list true 0 fun (x : Nat) => [], AVal.int IntKind.i64 at_, AVal.int IntKind.i64 8])
        [Obj.var [AVal.list true 0 fun (x : Nat) => []], Obj.var [AVal.int IntKind.i64 at_],
          Obj.var [AVal.int IntKind.i64 8]])
  else
    bif
        tst
          (caOk (AVal.list f l.length fun (i : Nat) => encWq (l.getD i wd0)) ∧
            SubTL
                [AVal.list f l.length fun (i : Nat) => encWq (l.getD i wd0), AVal.int IntKind.i64 at_,
                  AVal.ptr (Oid.hp 0) 0, AVal.ptr (Oid.hp 1) 0, AVal.ptr (Oid.hp 2) 0]
                (encWqsR (AVal.list f l.length fun (i : Nat) => encWq (l.getD i wd0)) :: paV at_) ∧
              ([] : List (List AVal)) = [] ∧
                [Obj.var [AVal.list true 0 fun (x : Nat) => []], Obj.var [AVal.int IntKind.i64 0],
                    Obj.var [AVal.int IntKind.i64 0]] =
                  paH (AVal.list true 0 fun (x : Nat) => [])) then
      bif m0 == 0 then
        bif c1 then
          k
            (Out.ret
              (AVal.tuple
                [AVal.list true 0 fun (x : Nat) => [],
                  AVal.int IntKind.i64
                    (paEA (AVal.list f l.length fun (i : Nat) => encWq (l.getD i wd0)) at_),
                  AVal.int IntKind.i64
                    (paEE (AVal.list f l.length fun (i : Nat) => encWq (l.getD i wd0)) at_)])
              [Obj.var [AVal.list true 0 fun (x : Nat) => []],
                Obj.var
                  [AVal.int IntKind.i64
                      (paEA (AVal.list f l.length fun (i : Nat) => encWq (l.getD i wd0)) at_)],
                Obj.var
                  [AVal.int IntKind.i64
                      (paEE (AVal.list f l.length fun (i : Nat) => encWq (l.getD i wd0)) at_)]])
        else
          k
            (Out.ret (AVal.tuple [AVal.list true 0 fun (x : Nat) => [], AVal.int IntKind.i64 at_, AVal.int IntKind.i64 0])
              [Obj.var [AVal.list true 0 fun (x : Nat) => []], Obj.var [AVal.int IntKind.i64 at_],
                Obj.var [AVal.int IntKind.i64 0]])
      else
        bif c1 then
          k
            (Out.ret
              (AVal.tuple
                [AVal.list true 0 fun (x : Nat) => [],
                  AVal.int IntKind.i64
                    (paEA (AVal.list f l.length fun (i : Nat) => encWq (l.getD i wd0)) at_),
                  AVal.int IntKind.i64
                    (paEE (AVal.list f l.length fun (i : Nat) => encWq (l.getD i wd0)) at_)])
              [Obj.var [AVal.list true 0 fun (x : Nat) => []],
                Obj.var
                  [AVal.int IntKind.i64
                      (paEA (AVal.list f l.length fun (i : Nat) => encWq (l.getD i wd0)) at_)],
                Obj.var
                  [AVal.int IntKind.i64
                      (paEE (AVal.list f l.length fun (i : Nat) => encWq (l.getD i wd0)) at_)],
                Obj.arr 2 (paRows (AVal.list f l.length fun (i : Nat) => encWq (l.getD i wd0)) at_) m2])
        else
          k
            (Out.ret (AVal.tuple [AVal.own 3 0 m0 m2 false, AVal.int IntKind.i64 at_, AVal.int IntKind.i64 0])
              [Obj.var [AVal.own 3 0 m0 m2 false], Obj.var [AVal.int IntKind.i64 at_], Obj.var [AVal.int IntKind.i64 0],
                Obj.arr 2 (paRows (AVal.list f l.length fun (i : Nat) => encWq (l.getD i wd0)) at_) m2])
    else none) := by kernel_rfl
/-- what Parse tells -/
def parR (l : List WdD) (at_ : Int) : List CallD × Int × Int :=
  bif l.isEmpty then ([], at_, 8) else match parM l.length l [] at_ with
  | (some e, _) => ([], e.1, e.2)
  | (none, cs) => (cs, at_, 0)
theorem sub_pipe0 {r : Nat → List AVal} {a b : AVal} : Sub (.tuple [.list true 0 r, a, b]) (.tuple [encPipe false [], a, b]) :=
  .tuple (.cons (Sub.list (fun h => by cases h) (fun i hi => by omega)) (.refl _))
theorem sub_pipe (cs : List CallD) (a b : AVal) : Sub (.tuple [.list false cs.length (fun i => (cs.map encCall).getD i []), a, b]) (.tuple [encPipe false cs, a, b]) := by
  refine .tuple (.cons (Sub.list (fun h => h) (fun i hi => ?_)) (.refl _))
  have : (cs.map encCall).getD i [] = encCall (cs.getD i callD0) := by
    rw [List.getD_eq_getElem?_getD, List.getD_eq_getElem?_getD, List.getElem?_map, List.getElem?_eq_getElem hi]
    rfl
  rw [this]
  exact .refl _
theorem par_ok (f : Bool) (l : List WdD) (at_ : Int) (hl : l.length ≤ 67108864) (hw : ∀ w ∈ l, okWd w) :
    CallOK Tryd.prog 12 [encWqs f l, .int .i64 at_] [] (.ret (.tuple [encPipe false (parR l at_).1, .int .i64 (parR l at_).2.1, .int .i64 (parR l at_).2.2]) []) := by
  have d := decWqs_enc f l
  have e3 := encWqsR_enc f l
  have key := fun k => par_fun f l at_ k
  by_cases hne : l = []
  · subst hne
    have hc : CallOK Tryd.prog 12 [encWqs f [], .int .i64 at_] [] (.ret (.tuple [.list true 0 fun (x : Nat) => [], .int .i64 at_, .int .i64 8]) _) := layPa2_ok.call key
    exact (CallOK.shrink (H := []) (H' := []) hc (Nat.le_refl _) rfl (fun x hx => by cases hx)).sub (.refl _) ⟨sub_pipe0, rfl⟩
  have hr : paR (AVal.list f l.length fun (i : Nat) => encWq (l.getD i wd0)) at_ = parM l.length l [] at_ := by unfold paR; rw [d]
  have p1 : caOk (AVal.list f l.length fun (i : Nat) => encWq (l.getD i wd0)) := ⟨by rw [d]; exact hne, by rw [d]; exact hl, by rw [d]; exact hw⟩
  have hpos : 0 < l.length := List.length_pos_iff.2 hne
  have hem : l.isEmpty = false := by simpa using hne
  unfold paNum paBad paEA paEE paRows at key
  simp only [hr, e3, dT (show (l.length : Int) > 0 by omega), Bool.not_true, cond_false] at key
  replace key := fun k => (key k).trans ((congrArg (fun c => cond c _ none) (tst_true ⟨p1, .refl _, by first | trivial | rfl, by first | trivial | rfl⟩)).trans (cond_true _ _))
  unfold parR
  rw [hem, cond_false]
  cases hm : parM l.length l [] at_ with
  | mk o cs =>
    rw [hm] at key
    cases o with
    | some e =>
      simp only [Option.isSome_some, cond_true, Option.getD_some] at key ⊢
      cases cs with
      | nil =>
        have hc : CallOK Tryd.prog 12 [encWqs f l, .int .i64 at_] [] (.ret (.tuple [.list true 0 fun (x : Nat) => [], .int .i64 e.1, .int .i64 e.2]) _) := layPa2_ok.call key
        exact (CallOK.shrink (H := []) (H' := []) hc (Nat.le_refl _) rfl (fun x hx => by cases hx)).sub (.refl _) ⟨sub_pipe0, rfl⟩
      | cons c t =>
        have hc : CallOK Tryd.prog 12 [encWqs f l, .int .i64 at_] [] (.ret (.tuple [.list true 0 fun (x : Nat) => [], .int .i64 e.1, .int .i64 e.2]) _) := layPa2_ok.call key
        exact (CallOK.shrink (H := []) (H' := []) hc (Nat.le_refl _) rfl (fun x hx => by cases hx)).sub (.refl _) ⟨sub_pipe0, rfl⟩
    | none =>
      simp only [Option.isSome_none, cond_false] at key ⊢
      cases cs with
      | nil =>
        have hc : CallOK Tryd.prog 12 [encWqs f l, .int .i64 at_] [] (.ret (.tuple [.list true 0 fun (x : Nat) => [], .int .i64 at_, .int .i64 0]) _) := layPa2_ok.call key
        exact (CallOK.shrink (H := []) (H' := []) hc (Nat.le_refl _) rfl (fun x hx => by cases hx)).sub (.refl _) ⟨sub_pipe0, rfl⟩
      | cons c t =>
        have hc : CallOK Tryd.prog 12 [encWqs f l, .int .i64 at_] [] (.ret (.tuple [.own 3 0 (c :: t).length t.length false, .int .i64 at_, .int .i64 0])
          [.var [.own 3 0 (c :: t).length t.length false], .var [.int .i64 at_], .var [.int .i64 0], .arr 2 ((c :: t).map encCall) t.length]) := layPa2_ok.call key
        have fz : freezeV [.var [.own 3 0 (c :: t).length t.length false], .var [.int .i64 at_], .var [.int .i64 0], .arr 2 ((c :: t).map encCall) t.length] 3 (.tuple [.own 3 0 (c :: t).length t.length false, .int .i64 at_, .int .i64 0]) = some (.tuple [.list false (c :: t).length (fun i => ((c :: t).map encCall).getD i []), .int .i64 at_, .int .i64 0]) := by
          refine freeze_t3 ?_
          refine freezeW (sz := 2) (rows := (c :: t).map encCall) (rows' := (c :: t).map encCall) rfl (by simp) ?_
          rw [List.drop_zero, List.take_of_length_le (by simp)]
          exact freeze_pures _ 0 _ (fun r hr => by
            obtain ⟨a, _, rfl⟩ := List.mem_map.1 hr
            rfl)
        exact (hc.freeze (d := 3) fz).sub (.refl _) ⟨sub_pipe (c :: t) _ _, rfl⟩
def parOkR (x : AVal) : Prop := (decL decWq x).length ≤ 67108864 ∧ ∀ w ∈ decL decWq x, okWd w
def parRR (x : AVal) (at_ : Int) : List CallD × Int × Int := parR (decL decWq x) at_
def parV (x : AVal) (at_ : Int) : List CallD := (parRR x at_).1
def parA (x : AVal) (at_ : Int) : Int := (parRR x at_).2.1
def parE (x : AVal) (at_ : Int) : Int := (parRR x at_).2.2
noncomputable def parTold : FSp := mkF (fun xs H => PaA.mk (xs.getD 0 .undef) (aI xs 1)) (fun a => parOkR a.x) (fun a => [encWqsR a.x, .int .i64 a.at_]) (fun _ => []) (fun a k => k (.ret (.tuple [encPipe false (parV a.x a.at_), .int .i64 (parA a.x a.at_), .int .i64 (parE a.x a.at_)]) []))
theorem parTold_ok : ∀ xs H k out, parTold xs H k = some out → ∃ o, CallOK Tryd.prog 12 xs H o ∧ k o = some out := mkF_ok fun a h => ⟨_, fun k => rfl, par_ok _ _ _ h.1 h.2⟩
end Go.Mu
set_option linter.unusedVariables false
set_option linter.unusedSimpArgs false
set_option maxRecDepth 100000
namespace Go.Mu
open Go Go.Proofs
/-- a slice that grows, one by one, from nil -/
def slV (j : Nat) (ws : List (List UInt8)) : AVal := match ws with
  | [] => nilList
  | w :: r => .own j 0 (r.length + 1) r.length false
def slH (ws : List (List UInt8)) : Heap := match ws with
  | [] => []
  | w :: r => [.arr 1 ((w :: r).map encS) r.length]
def slD (H : Heap) : List (List UInt8) := match H with
  | [_, .arr _ rows _] => rows.map decS
  | _ => []
structure PiA where
  c : Nat
  H : Heap
  pf : Bool
  pn : Nat
  pr : Nat → List AVal
  n : Int
  i : Int
  x : AVal
  j : Nat
def encAsR (x : AVal) : AVal := encAs (fullOf x) (decL decArg x)
def lenAsR (x : AVal) : Nat := (decL decArg x).length
def piOk (H : Heap) (x : AVal) (j : Nat) : Prop := j ≤ lenAsR x ∧ (slD H).length ≤ 4294967296 ∧ lenAsR x ≤ 4294967296 ∧ ∀ a ∈ decL decArg x, okW a
def piEH (H : Heap) : Heap := H.getD 0 (.var []) :: slH (slD H)
def piEV (H : Heap) : AVal := slV 1 (slD H)
def piR (H : Heap) (x : AVal) (j : Nat) : List (List UInt8) := slD H ++ ((decL decArg x).drop j).map wordM
abbrev piV (c : Nat) (x : AVal) (pf : Bool) (pn : Nat) (pr : Nat → List AVal) (n i : Int) : List AVal := [.own 0 0 c c false, x, .list pf pn pr, .int .i64 n, .int .i64 i]
def lenO : AVal → Nat
  | .own _ _ n _ _ => n
  | _ => 0
noncomputable def piSpR (R : Heap → AVal → Nat → List (List UInt8)) : LSp := mkL (fun vs _ H => PiA.mk (lenO (vs.getD 0 .undef)) H (plF (vs.getD 2 .undef)) (plN (vs.getD 2 .undef)) (plR (vs.getD 2 .undef)) (aI vs 3) (aI vs 4) (vs.getD 5 .undef) (aI vs 7).toNat)
  (fun a => piOk a.H a.x a.j) (fun a => piV a.c (piEV a.H) a.pf a.pn a.pr a.n a.i ++ [encAsR a.x, .int .i64 (lenAsR a.x : Nat), .int .i64 a.j]) (fun _ => []) (fun a => piEH a.H)
  (fun a k => cond (R a.H a.x a.j).isEmpty (k (.exit 2) (piV a.c nilList a.pf a.pn a.pr a.n a.i) [] [a.H.getD 0 (.var [])])
    (k (.exit 2) (piV a.c (.own 1 0 (R a.H a.x a.j).length ((R a.H a.x a.j).length - 1) false) a.pf a.pn a.pr a.n a.i) [] [a.H.getD 0 (.var []), .arr 1 ((R a.H a.x a.j).map encS) ((R a.H a.x a.j).length - 1)]))
noncomputable abbrev piSp : LSp := piSpR piR
noncomputable def piFH : FH := .of [(9, loopSpec 47 [3,6,12,13,14,27,28,29] [] [3,6,12,13,14] [] piSp)]
noncomputable def layPi : Lay := (Lay.nil.addF 45 sJoinTold).addF 44 wordTold
theorem layPi_ok : layPi.OK Tryd.prog := (Lay.nil_ok.addF sJoinTold_ok).addF wordTold_ok
noncomputable abbrev piTurn := lturn Tryd.prog layPi piFH 17 9 [3,6,12,13,14,27,28,29] [] [3,6,12,13,14] []
theorem pi_s0 (c : Nat) (pf : Bool) (pn : Nat) (pr : Nat → List AVal) (n i : Int) (f : Bool) (l : List ArgD) (m j : Int) (O : Obj) (D : List (FuncId × List AVal)) (k : Kont) : piTurn (stL 47 [3,6,12,13,14,27,28,29] (piV c nilList pf pn pr n i ++ [encAs f l, .int .i64 m, .int .i64 j]) [] [] [O] D) k = (
  bif decide (j < m) then
    bif decide (0 ≤ j) && decide (j < (l.length : Int)) then
      bif tst (okR (encArg (l.getD j.toNat argD0)) ∧ SubL [.agg (encArg (l.getD j.toNat argD0))] [encR (encArg (l.getD j.toNat argD0))] ∧ ([] : Heap) = []) then
        k .normal (stL 47 [3,6,12,13,14,27,28,29] (piV c (.own 1 0 (0 + 1) 0 false) pf pn pr n i ++ [encAs f l, .int .i64 m, .int .i64 (IntKind.i64.wrap (j + 1))]) [] [] [O, .arr 1 [[.str (wordR (encArg (l.getD j.toNat argD0)))]] 0] D)
      else none
    else none
  else k (.exit 2) (stL 47 [3,6,12,13,14] (piV c nilList pf pn pr n i) [] [] [O] D)) := by kernel_rfl
theorem pi_s1 (c : Nat) (pf : Bool) (pn : Nat) (pr : Nat → List AVal) (n i : Int) (f : Bool) (l : List ArgD) (m j : Int) (O : Obj) (q v : Nat) (rows : List (List AVal)) (D : List (FuncId × List AVal)) (k : Kont) : piTurn (stL 47 [3,6,12,13,14,27,28,29] (piV c (.own 1 0 q v false) pf pn pr n i ++ [encAs f l, .int .i64 m, .int .i64 j]) [] [] [O, .arr 1 rows v] D) k = (
  bif decide (j < m) then
    bif decide (0 ≤ j) && decide (j < (l.length : Int)) then
      bif tst (okR (encArg (l.getD j.toNat argD0)) ∧ SubL [.agg (encArg (l.getD j.toNat argD0))] [encR (encArg (l.getD j.toNat argD0))] ∧ ([] : Heap) = []) then
        bif v == v && q == rows.length && decide ((2 * (q + 1) + 1000) * 16 ≤ 281474976710656) && true then k .normal (stL 47 [3,6,12,13,14,27,28,29] (piV c (.own 1 0 (q + 1) (v + 1) false) pf pn pr n i ++ [encAs f l, .int .i64 m, .int .i64 (IntKind.i64.wrap (j + 1))]) [] [] [O, .arr 1 (rows ++ [[.str (wordR (encArg (l.getD j.toNat argD0)))]]) (v + 1)] D)
        else none
      else none
    else none
  else k (.exit 2) (stL 47 [3,6,12,13,14] (piV c (.own 1 0 q v false) pf pn pr n i) [] [] [O, .arr 1 rows v] D)) := by kernel_rfl
/-- one more -/
theorem sl_snoc (j : Nat) (ws : List (List UInt8)) (w : List UInt8) : slV j (ws ++ [w]) = .own j 0 (ws.length + 1) ws.length false ∧ slH (ws ++ [w]) = [.arr 1 ((ws ++ [w]).map encS) ws.length] := by
  cases ws with
  | nil => exact ⟨rfl, rfl⟩
  | cons a r => simp [slV, slH]
theorem tst_encR (a : ArgD) (h : okW a) : tst (okR (encArg a) ∧ SubL [.agg (encArg a)] [encR (encArg a)] ∧ ([] : Heap) = []) = true := by
  rw [encR_enc, okR_enc]
  exact tst_true ⟨h, .refl _, rfl⟩
theorem pi_runs (c : Nat) (pf : Bool) (pn : Nat) (pr : Nat → List AVal) (n i : Int) (f : Bool) (l : List ArgD) (O : Obj) (hl : l.length ≤ 4294967296) (hw : ∀ x ∈ l, okW x) : ∀ (m j : Nat) (ws : List (List UInt8)), l.length - j ≤ m → j ≤ l.length → ws.length ≤ 4294967296 + j →
    LoopRuns piTurn 47 [3,6,12,13,14,27,28,29] [] [3,6,12,13,14] [] (piV c (slV 1 ws) pf pn pr n i ++ [encAs f l, .int .i64 l.length, .int .i64 j]) [] (O :: slH ws) (.exit 2) (piV c (slV 1 (ws ++ (l.drop j).map wordM)) pf pn pr n i) [] (O :: slH (ws ++ (l.drop j).map wordM)) := by
  intro m
  induction m with
  | zero =>
    intro j ws hm hj hws
    have e : l.drop j = [] := List.drop_eq_nil_of_le (by omega)
    rw [e, List.map_nil, List.append_nil]
    refine .stop (by simp) (fun D k => ?_)
    cases ws with
    | nil => exact (pi_s0 c pf pn pr n i f l l.length j O D k).trans (by rw [dF (by omega)]; rfl)
    | cons a r => exact (pi_s1 c pf pn pr n i f l l.length j O _ _ _ D k).trans (by rw [dF (by omega)]; rfl)
  | succ m ih =>
    intro j ws hm hj hws
    by_cases hlt : j < l.length
    case neg =>
      have e : l.drop j = [] := List.drop_eq_nil_of_le (by omega)
      rw [e, List.map_nil, List.append_nil]
      refine .stop (by simp) (fun D k => ?_)
      cases ws with
      | nil => exact (pi_s0 c pf pn pr n i f l l.length j O D k).trans (by rw [dF (by omega)]; rfl)
      | cons a r => exact (pi_s1 c pf pn pr n i f l l.length j O _ _ _ D k).trans (by rw [dF (by omega)]; rfl)
    obtain ⟨a, ha⟩ : ∃ a, a = l.getD j argD0 := ⟨_, rfl⟩
    have hwa : okW a := hw a (by rw [ha, List.getD_eq_getElem?_getD, List.getElem?_eq_getElem hlt]; exact List.getElem_mem _)
    have ed := drop_cons_of l j argD0 hlt
    rw [← ha] at ed
    have e2 : IntKind.i64.wrap ((j : Int) + 1) = ((j + 1 : Nat) : Int) := wrap_add1 (by omega)
    have ih2 := ih (j + 1) (ws ++ [wordM a]) (by omega) (by omega) (by rw [List.length_append]; show _ + 1 ≤ _; omega)
    rw [List.append_assoc, List.singleton_append, ← List.map_cons, ← ed] at ih2
    obtain ⟨s1, s2⟩ := sl_snoc 1 ws (wordM a)
    refine .step (fun D k => ?_) ih2
    rw [s1, s2]
    cases ws with
    | nil =>
      refine (pi_s0 c pf pn pr n i f l l.length j O D k).trans ?_
      rw [dT (show (j : Int) < l.length by omega), dT (show (0 : Int) ≤ j by omega), Int.toNat_natCast, ← ha, tst_encR a hwa, e2, wordR_enc]
      rfl
    | cons b r =>
      refine (pi_s1 c pf pn pr n i f l l.length j O _ _ _ D k).trans ?_
      rw [List.length_cons] at hws
      rw [dT (show (j : Int) < l.length by omega), dT (show (0 : Int) ≤ j by omega), Int.toNat_natCast, ← ha, tst_encR a hwa, e2, wordR_enc, dT (show (2 * (r.length + 1 + 1) + 1000) * 16 ≤ 281474976710656 by omega)]
      have hq : (r.length + 1 == ((b :: r).map encS).length) = true := by simp
      rw [hq, beq_self_eq_true]
      have hr : (b :: r).map encS ++ [[.str (wordM a)]] = (b :: r ++ [wordM a]).map encS := by simp [encS]
      rw [hr]
      rfl
theorem slV_ne {r : List (List UInt8)} (j : Nat) (h : r.isEmpty = false) : slV j r = .own j 0 r.length (r.length - 1) false ∧ slH r = [.arr 1 (r.map encS) (r.length - 1)] := by
  cases r with
  | nil => cases h
  | cons a r => exact ⟨rfl, rfl⟩
theorem slV_e {r : List (List UInt8)} (j : Nat) (h : r.isEmpty = true) : slV j r = nilList ∧ slH r = [] := by
  cases r with
  | nil => exact ⟨rfl, rfl⟩
  | cons a r => cases h
theorem piSp_ok : SpOK piTurn 47 [3,6,12,13,14,27,28,29] [] [3,6,12,13,14] [] piSp := mkL_ok fun a h => by
  obtain ⟨c, H, pf, pn, pr, n, i, x, j⟩ := a
  have key := pi_runs c pf pn pr n i (fullOf x) (decL decArg x) (H.getD 0 (.var [])) h.2.2.1 h.2.2.2 _ j (slD H) (Nat.le_refl _) h.1 (by have := h.2.1; simp only at this; omega)
  show ∃ e vs bs H', (∀ k : AExit → List AVal → List (List AVal) → Heap → Ans, cond (piR H x j).isEmpty _ _ = k e vs bs H') ∧ _
  cases hb : (piR H x j).isEmpty with
  | true =>
    obtain ⟨e1, e2⟩ := slV_e 1 hb
    unfold piR at e1 e2
    rw [e1, e2] at key
    exact ⟨_, _, _, _, fun k => rfl, key⟩
  | false =>
    obtain ⟨e1, e2⟩ := slV_ne 1 hb
    unfold piR at e1 e2
    rw [e1, e2] at key
    exact ⟨_, _, _, _, fun k => rfl, key⟩
noncomputable def prtFH0 (R : Heap → AVal → Nat → List (List UInt8)) : FH := .of [(9, loopSpec 47 [3,6,12,13,14,27,28,29] [] [3,6,12,13,14] [] (piSpR R))]
theorem po_step (R : Heap → AVal → Nat → List (List UInt8)) (f : Bool) (q : Nat) (nm : Nat → List UInt8) (af : Nat → Bool) (an : Nat → Nat) (ar : Nat → Nat → List AVal) (n i : Int) (c : Nat) (os : List (List UInt8)) (k : Kont) (m0 : Nat) (e_m0 : m0 = (lenO (AVal.own 0 0 c c false)))
  (m1 : Nat) (e_m1 : m1 = (m0 + 1))
  (c2 : Bool) (e_c2 : c2 = (c == m0 && m0 == (List.map encS os).length &&
      decide ((2 * m1 + 1000) * 16 ≤ 281474976710656) &&
    true))
  (m3 : Nat) (e_m3 : m3 = ((R [Obj.arr 1 (List.map encS os) c, Obj.arr 1 [[AVal.str (nm i.toNat)]] 0]
      (AVal.list (af i.toNat) (an i.toNat) (ar i.toNat)) (Int.toNat 0)).length))
  (m4 : Nat) (e_m4 : m4 = (m3 - 1))
  (m5 : Nat) (e_m5 : m5 = ((decL decS
      (AVal.list false m3 fun (i_1 : Nat) =>
        (List.map encS
              (R
                [Obj.arr 1 (List.map encS os) c,
                  Obj.arr 1 [[AVal.str (nm i.toNat)]] 0]
                (AVal.list (af i.toNat) (an i.toNat) (ar i.toNat)) (Int.toNat 0))).getD
          (0 + i_1) [])).length))
  (l6 : List UInt8) (e_l6 : l6 = (Lib.join
    (decL decS
      (AVal.list false m3 fun (i_1 : Nat) =>
        (List.map encS
              (R
                [Obj.arr 1 (List.map encS os) c,
                  Obj.arr 1 [[AVal.str (nm i.toNat)]] 0]
                (AVal.list (af i.toNat) (an i.toNat) (ar i.toNat)) (Int.toNat 0))).getD
          (0 + i_1) []))
    [32]))
  (m7 : Nat) (e_m7 : m7 = ((R [Obj.arr 1 (List.map encS os) c]
      (AVal.list (af i.toNat) (an i.toNat) (ar i.toNat)) (Int.toNat 0)).length))
  (m8 : Nat) (e_m8 : m8 = (m7 - 1))
  (m9 : Nat) (e_m9 : m9 = ((decL decS
      (AVal.list false m7 fun (i_1 : Nat) =>
        (List.map encS
              (R [Obj.arr 1 (List.map encS os) c]
                (AVal.list (af i.toNat) (an i.toNat) (ar i.toNat)) (Int.toNat 0))).getD
          (0 + i_1) [])).length))
  (l10 : List UInt8) (e_l10 : l10 = (Lib.join
    (decL decS
      (AVal.list false m7 fun (i_1 : Nat) =>
        (List.map encS
              (R [Obj.arr 1 (List.map encS os) c]
                (AVal.list (af i.toNat) (an i.toNat) (ar i.toNat)) (Int.toNat 0))).getD
          (0 + i_1) []))
    [32])) : lturnD 1 Tryd.prog layPi (prtFH0 R) 17 3 [3,12,13,14] [] [3] [] (stL 47 [3,12,13,14] [.own 0 0 c c false, .list f q (fun i => [.str (nm i), .list (af i) (an i) (ar i)]), .int .i64 n, .int .i64 i] [] [] [.arr 1 (os.map encS) c] []) k = (
  bif decide (i < n) then
    bif decide (0 ≤ i) && decide (i < (↑q : Int)) then
      bif !nm i.toNat == [] then
        bif
            tst
              (piOk
                  [Obj.arr 1 (List.map encS os) c,
                    Obj.arr 1 [[AVal.str (nm i.toNat)]] 0]
                  (AVal.list (af i.toNat) (an i.toNat) (ar i.toNat)) (Int.toNat 0) ∧
                SubTL
                    [AVal.own 0 0 c c false, AVal.own 1 0 (0 + 1) 0 false,
                      AVal.list f q fun (i : Nat) => [AVal.str (nm i), AVal.list (af i) (an i) (ar i)],
                      AVal.int IntKind.i64 n, AVal.int IntKind.i64 i, AVal.list (af i.toNat) (an i.toNat) (ar i.toNat),
                      AVal.int IntKind.i64 (↑(an i.toNat) : Int), AVal.int IntKind.i64 0]
                    [AVal.own 0 0 m0 m0 false,
                      piEV
                        [Obj.arr 1 (List.map encS os) c,
                          Obj.arr 1 [[AVal.str (nm i.toNat)]] 0],
                      AVal.list f q fun (i : Nat) => [AVal.str (nm i), AVal.list (af i) (an i) (ar i)],
                      AVal.int IntKind.i64 n, AVal.int IntKind.i64 i,
                      encAsR (AVal.list (af i.toNat) (an i.toNat) (ar i.toNat)),
                      AVal.int IntKind.i64 (↑(lenAsR (AVal.list (af i.toNat) (an i.toNat) (ar i.toNat))) : Int),
                      AVal.int IntKind.i64 (↑(Int.toNat 0) : Int)] ∧
                  ([] : List (List AVal)) = [] ∧
                    [Obj.arr 1 (List.map encS os) c,
                        Obj.arr 1 [[AVal.str (nm i.toNat)]] 0] =
                      piEH
                        [Obj.arr 1 (List.map encS os) c,
                          Obj.arr 1 [[AVal.str (nm i.toNat)]] 0]) then
          bif
              (R [Obj.arr 1 (List.map encS os) c, Obj.arr 1 [[AVal.str (nm i.toNat)]] 0]
                  (AVal.list (af i.toNat) (an i.toNat) (ar i.toNat)) (Int.toNat 0)).isEmpty then
            bif
                tst
                  ((0 ≤ 140737488355328 ∧ 0 ≤ 140737488355328) ∧
                    SubL [AVal.list true 0 fun (x : Nat) => [], AVal.str [32]]
                        [AVal.list true 0 fun (i : Nat) => [AVal.str []], AVal.str [32]] ∧
                      ([] : Heap) = []) then
              bif c2 then
                k AExit.normal
                  (stL 47 [3, 12, 13, 14]
                    [AVal.own 0 0 m1 m1 false,
                      AVal.list f q fun (i : Nat) => [AVal.str (nm i), AVal.list (af i) (an i) (ar i)],
                      AVal.int IntKind.i64 n, AVal.int IntKind.i64 (IntKind.i64.wrap (i + 1))]
                    [] [] [Obj.arr 1 ((List.map encS os).append [[AVal.str []]]) m1] [])
              else none
            else none
          else
            bif
                (m4 == m4 &&
                      decide
                        (0 + m3 ≤
                          (List.map encS
                              (R
                                [Obj.arr 1 (List.map encS os) c,
                                  Obj.arr 1 [[AVal.str (nm i.toNat)]] 0]
                                (AVal.list (af i.toNat) (an i.toNat) (ar i.toNat)) (Int.toNat 0))).length) &&
                    (List.map encS
                          (R
                            [Obj.arr 1 (List.map encS os) c,
                              Obj.arr 1 [[AVal.str (nm i.toNat)]] 0]
                            (AVal.list (af i.toNat) (an i.toNat) (ar i.toNat)) (Int.toNat 0))).all
                      fun (r : List AVal) => r.all isPure) &&
                  true then
              bif
                  tst
                    ((m5 ≤ 140737488355328 ∧ l6.length ≤ 140737488355328) ∧
                      SubL
                          [AVal.list false m3 fun (i_1 : Nat) =>
                              (List.map encS
                                    (R
                                      [Obj.arr 1 (List.map encS os) c,
                                        Obj.arr 1 [[AVal.str (nm i.toNat)]] 0]
                                      (AVal.list (af i.toNat) (an i.toNat) (ar i.toNat)) (Int.toNat 0))).getD
                                (0 + i_1) [],
                            AVal.str [32]]
                          [AVal.list false m5 fun (i_1 : Nat) =>
                              [AVal.str
                                  ((decL decS
                                        (AVal.list false
                                          (R
                                              [Obj.arr 1 (List.map encS os) c,
                                                Obj.arr 1 [[AVal.str (nm i.toNat)]] 0]
                                              (AVal.list (af i.toNat) (an i.toNat) (ar i.toNat)) (Int.toNat 0)).length
                                          fun (i_2 : Nat) =>
                                          (List.map encS
                                                (R
                                                  [Obj.arr 1 (List.map encS os) c,
                                                    Obj.arr 1 [[AVal.str (nm i.toNat)]] 0]
                                                  (AVal.list (af i.toNat) (an i.toNat) (ar i.toNat)) (Int.toNat 0))).getD
                                            (0 + i_2) [])).getD
                                    i_1 [])],
                            AVal.str [32]] ∧
                        ([] : Heap) = []) then
                bif c2 then
                  k AExit.normal
                    (stL 47 [3, 12, 13, 14]
                      [AVal.own 0 0 m1 m1 false,
                        AVal.list f q fun (i : Nat) => [AVal.str (nm i), AVal.list (af i) (an i) (ar i)],
                        AVal.int IntKind.i64 n, AVal.int IntKind.i64 (IntKind.i64.wrap (i + 1))]
                      [] []
                      [Obj.arr 1
                          (List.map
                            (fun (r : List AVal) =>
                              List.map
                                (fzV (2 - 1) []
                                  ((R
                                          [Obj.arr 1 (List.map encS os) c,
                                            Obj.arr 1 [[AVal.str (nm i.toNat)]] 0]
                                          (AVal.list (af i.toNat) (an i.toNat) (ar i.toNat)) (Int.toNat 0)).length -
                                      1 +
                                    1)
                                  6)
                                r)
                            ((List.map encS os).append [[AVal.str l6]]))
                          m1]
                      [])
                else none
              else none
            else none
        else none
      else
        bif
            tst
              (piOk [Obj.arr 1 (List.map encS os) c]
                  (AVal.list (af i.toNat) (an i.toNat) (ar i.toNat)) (Int.toNat 0) ∧
                SubTL
                    [AVal.own 0 0 c c false, AVal.list true 0 fun (x : Nat) => [],
                      AVal.list f q fun (i : Nat) => [AVal.str (nm i), AVal.list (af i) (an i) (ar i)],
                      AVal.int IntKind.i64 n, AVal.int IntKind.i64 i, AVal.list (af i.toNat) (an i.toNat) (ar i.toNat),
                      AVal.int IntKind.i64 (↑(an i.toNat) : Int), AVal.int IntKind.i64 0]
                    [AVal.own 0 0 m0 m0 false, piEV [Obj.arr 1 (List.map encS os) c],
                      AVal.list f q fun (i : Nat) => [AVal.str (nm i), AVal.list (af i) (an i) (ar i)],
                      AVal.int IntKind.i64 n, AVal.int IntKind.i64 i,
                      encAsR (AVal.list (af i.toNat) (an i.toNat) (ar i.toNat)),
                      AVal.int IntKind.i64 (↑(lenAsR (AVal.list (af i.toNat) (an i.toNat) (ar i.toNat))) : Int),
                      AVal.int IntKind.i64 (↑(Int.toNat 0) : Int)] ∧
                  ([] : List (List AVal)) = [] ∧
                    [Obj.arr 1 (List.map encS os) c] =
                      piEH [Obj.arr 1 (List.map encS os) c]) then
          bif
              (R [Obj.arr 1 (List.map encS os) c]
                  (AVal.list (af i.toNat) (an i.toNat) (ar i.toNat)) (Int.toNat 0)).isEmpty then
            bif
                tst
                  ((0 ≤ 140737488355328 ∧ 0 ≤ 140737488355328) ∧
                    SubL [AVal.list true 0 fun (x : Nat) => [], AVal.str [32]]
                        [AVal.list true 0 fun (i : Nat) => [AVal.str []], AVal.str [32]] ∧
                      ([] : Heap) = []) then
              bif c2 then
                k AExit.normal
                  (stL 47 [3, 12, 13, 14]
                    [AVal.own 0 0 m1 m1 false,
                      AVal.list f q fun (i : Nat) => [AVal.str (nm i), AVal.list (af i) (an i) (ar i)],
                      AVal.int IntKind.i64 n, AVal.int IntKind.i64 (IntKind.i64.wrap (i + 1))]
                    [] [] [Obj.arr 1 ((List.map encS os).append [[AVal.str []]]) m1] [])
              else none
            else none
          else
            bif
                (m8 == m8 &&
                      decide
                        (0 + m7 ≤
                          (List.map encS
                              (R [Obj.arr 1 (List.map encS os) c]
                                (AVal.list (af i.toNat) (an i.toNat) (ar i.toNat)) (Int.toNat 0))).length) &&
                    (List.map encS
                          (R [Obj.arr 1 (List.map encS os) c]
                            (AVal.list (af i.toNat) (an i.toNat) (ar i.toNat)) (Int.toNat 0))).all
                      fun (r : List AVal) => r.all isPure) &&
                  true then
              bif
                  tst
                    ((m9 ≤ 140737488355328 ∧ l10.length ≤ 140737488355328) ∧
                      SubL
                          [AVal.list false m7 fun (i_1 : Nat) =>
                              (List.map encS
                                    (R [Obj.arr 1 (List.map encS os) c]
                                      (AVal.list (af i.toNat) (an i.toNat) (ar i.toNat)) (Int.toNat 0))).getD
                                (0 + i_1) [],
                            AVal.str [32]]
                          [AVal.list false m9 fun (i_1 : Nat) =>
                              [AVal.str
                                  ((decL decS
                                        (AVal.list false
                                          (R [Obj.arr 1 (List.map encS os) c]
                                              (AVal.list (af i.toNat) (an i.toNat) (ar i.toNat)) (Int.toNat 0)).length
                                          fun (i_2 : Nat) =>
                                          (List.map encS
                                                (R [Obj.arr 1 (List.map encS os) c]
                                                  (AVal.list (af i.toNat) (an i.toNat) (ar i.toNat)) (Int.toNat 0))).getD
                                            (0 + i_2) [])).getD
                                    i_1 [])],
                            AVal.str [32]] ∧
                        ([] : Heap) = []) then
                bif c2 then
                  k AExit.normal
                    (stL 47 [3, 12, 13, 14]
                      [AVal.own 0 0 m1 m1 false,
                        AVal.list f q fun (i : Nat) => [AVal.str (nm i), AVal.list (af i) (an i) (ar i)],
                        AVal.int IntKind.i64 n, AVal.int IntKind.i64 (IntKind.i64.wrap (i + 1))]
                      [] []
                      [Obj.arr 1
                          (List.map
                            (fun (r : List AVal) =>
                              List.map
                                (fzV (2 - 1) []
                                  ((R [Obj.arr 1 (List.map encS os) c]
                                          (AVal.list (af i.toNat) (an i.toNat) (ar i.toNat)) (Int.toNat 0)).length -
                                      1 +
                                    1)
                                  6)
                                r)
                            ((List.map encS os).append [[AVal.str l10]]))
                          m1]
                      [])
                else none
              else none
            else none
        else none
    else none
  else
    k (AExit.exit 0)
      (stL 47 [3] [AVal.own 0 0 c c false] [] [] [Obj.arr 1 (List.map encS os) c] [])) := by
  subst e_m0 e_m1 e_c2 e_m3 e_m4 e_m5 e_l6 e_m7 e_m8 e_m9 e_l10
  kernel_rfl
/- what a borrowed slice of texts reads as -/
theorem brw_dec (r : List (List UInt8)) (f : Bool) : decL decS (AVal.list f r.length fun (i : Nat) => (List.map encS r).getD (0 + i) []) = r := by
  have h : ∀ i, decS ((List.map encS r).getD (0 + i) []) = r.getD i [] := fun i => by
    rw [Nat.zero_add, List.getD_eq_getElem?_getD, List.getD_eq_getElem?_getD, List.getElem?_map]
    cases r[i]? <;> rfl
  simp only [decL, h]
  exact range_getD r []
theorem brw_wf (r : List (List UInt8)) (f : Bool) : wfL wfS (AVal.list f r.length fun (i : Nat) => (List.map encS r).getD (0 + i) []) = true := by
  simp only [wfL, List.all_eq_true, List.mem_range]
  intro i hi
  rw [Nat.zero_add, List.getD_eq_getElem?_getD, List.getElem?_map, List.getElem?_eq_getElem hi]
  rfl
theorem brw_sub (r : List (List UInt8)) (f : Bool) : Sub (AVal.list f r.length fun (i : Nat) => (List.map encS r).getD (0 + i) []) (ssL f r) := by
  have := sub_encL (g := decS) (f := encS) (d := []) (brw_wf r f) wfS_sub
  rw [brw_dec] at this
  exact this
theorem brw_pure (r : List (List UInt8)) : ((List.map encS r).all fun (r : List AVal) => r.all isPure) = true := by
  rw [List.all_map, List.all_eq_true]
  intro s hs
  rfl
/-- a call's words -/
def callWs (c : CallD) : List (List UInt8) := (bif c.name == [] then [] else [c.name]) ++ c.args.map wordM
def callW (c : CallD) : List UInt8 := Lib.join (callWs c) [32]
def okCW (c : CallD) : Prop := c.args.length ≤ 4294967296 ∧ (∀ a ∈ c.args, okW a) ∧ (callW c).length ≤ 140737488355328
noncomputable abbrev poTurn := lturnD 1 Tryd.prog layPi (prtFH0 piR) 17 3 [3,12,13,14] [] [3] []
abbrev poSt (f : Bool) (l : List CallD) (i : Nat) (os : List (List UInt8)) : St := stL 47 [3,12,13,14] [.own 0 0 i i false, encPipe f l, .int .i64 l.length, .int .i64 i] [] [] [.arr 1 (os.map encS) i] []
theorem fz_rows (k u : Nat) (r : List (List UInt8)) : List.map (fun (x : List AVal) => List.map (fzV k [] u 6) x) (List.map encS r) = List.map encS r := by
  rw [List.map_map]; rfl
theorem po_round (f : Bool) (l : List CallD) (i : Nat) (os : List (List UInt8)) (hi : i < l.length) (hl : l.length ≤ 4294967296) (hos : os.length = i) (c : CallD) (hc : c = l.getD i callD0) (hok : okCW c) (k : Kont) : poTurn (poSt f l i os) k = k .normal (poSt f l (i + 1) (os ++ [callW c])) := by
  obtain ⟨h1, h2, h3⟩ := hok
  have dA : decL decArg (AVal.list c.af c.args.length fun (j : Nat) => encArg (c.args.getD j argD0)) = c.args := decAs_enc c.af c.args
  have eA : encAsR (AVal.list c.af c.args.length fun (j : Nat) => encArg (c.args.getD j argD0)) = AVal.list c.af c.args.length fun (j : Nat) => encArg (c.args.getD j argD0) := by
    unfold encAsR; rw [dA]; rfl
  have eL : lenAsR (AVal.list c.af c.args.length fun (j : Nat) => encArg (c.args.getD j argD0)) = c.args.length := by
    unfold lenAsR; rw [dA]
  have R1 : piR [Obj.arr 1 (List.map encS os) i, Obj.arr 1 [[AVal.str c.name]] 0] (AVal.list c.af c.args.length fun (j : Nat) => encArg (c.args.getD j argD0)) (Int.toNat 0) = c.name :: c.args.map wordM := by
    unfold piR; rw [dA]; rfl
  have R2 : piR [Obj.arr 1 (List.map encS os) i] (AVal.list c.af c.args.length fun (j : Nat) => encArg (c.args.getD j argD0)) (Int.toNat 0) = c.args.map wordM := by
    unfold piR; rw [dA]; rfl
  have hc2 : (i == i && i == (List.map encS os).length && decide ((2 * (i + 1) + 1000) * 16 ≤ 281474976710656) && true) = true := by
    rw [List.length_map, hos, dT (by omega)]; simp
  refine (po_step piR f l.length (fun i => (l.getD i callD0).name) (fun i => (l.getD i callD0).af) (fun i => (l.getD i callD0).args.length) (fun i j => encArg ((l.getD i callD0).args.getD j argD0)) l.length i i os k i rfl (i + 1) rfl true hc2.symm
    _ rfl _ rfl _ rfl _ rfl _ rfl _ rfl _ rfl _ rfl).trans ?_
  simp only [Int.toNat_natCast, ← hc]
  simp only [R1, R2, eA, eL]
  rw [dT (show (i : Int) < l.length by omega), dT (show (0 : Int) ≤ i by omega), wrap_add1 (by omega)]
  simp only [cond_true, Bool.and_true]
  cases hn : c.name == [] with
  | false =>
    have hw : callWs c = c.name :: c.args.map wordM := by unfold callWs; rw [hn]; rfl
    have hj : (Lib.join (c.name :: c.args.map wordM) [32]).length ≤ 140737488355328 := by rw [← hw]; exact h3
    have p1 : piOk [Obj.arr 1 (List.map encS os) i, Obj.arr 1 [[AVal.str c.name]] 0] (AVal.list c.af c.args.length fun (j : Nat) => encArg (c.args.getD j argD0)) (Int.toNat 0) := by
      refine ⟨Nat.zero_le _, by show 1 ≤ 4294967296; omega, by rw [eL]; exact h1, by rw [dA]; exact h2⟩
    simp only [Bool.not_false, cond_true]
    rw [tst_true ⟨p1, .refl _, trivial, rfl⟩]
    have b1 := brw_dec (c.name :: c.args.map wordM) false
    have b2 := brw_sub (c.name :: c.args.map wordM) false
    have b3 := brw_pure (c.name :: c.args.map wordM)
    have b4 : decide (0 + (c.name :: c.args.map wordM).length ≤ (List.map encS (c.name :: c.args.map wordM)).length) = true := dT (by simp)
    have b5 : (c.name :: c.args.map wordM).isEmpty = false := rfl
    have b6 : (c.name :: c.args.map wordM).length ≤ 140737488355328 := by simp; omega
    simp only [b1, b3, b4, b5, cond_true, cond_false, beq_self_eq_true, Bool.and_self]
    rw [tst_true ⟨⟨b6, hj⟩, .cons b2 (.cons (.refl _) .nil), trivial⟩]
    have e3 : (List.map encS os).append [[AVal.str (Lib.join (c.name :: c.args.map wordM) [32])]] = List.map encS (os ++ [callW c]) := by
      unfold callW; rw [hw]; simp [encS]
    rw [e3, fz_rows]
    rfl
  | true =>
    have hw : callWs c = c.args.map wordM := by unfold callWs; rw [hn]; rfl
    have hj : (Lib.join (c.args.map wordM) [32]).length ≤ 140737488355328 := by rw [← hw]; exact h3
    have p1 : piOk [Obj.arr 1 (List.map encS os) i] (AVal.list c.af c.args.length fun (j : Nat) => encArg (c.args.getD j argD0)) (Int.toNat 0) := by
      refine ⟨Nat.zero_le _, by show 0 ≤ 4294967296; omega, by rw [eL]; exact h1, by rw [dA]; exact h2⟩
    simp only [Bool.not_true, cond_false]
    rw [tst_true ⟨p1, .refl _, trivial, rfl⟩]
    cases hr : (c.args.map wordM).isEmpty with
    | true =>
      have hr' : c.args.map wordM = [] := List.isEmpty_iff.1 hr
      simp only [cond_true]
      rw [tst_true ⟨⟨by omega, by omega⟩, .cons (Sub.list (fun h => h) (fun i hi => by omega)) (.cons (.refl _) .nil), trivial⟩]
      have e3 : (List.map encS os).append [[AVal.str []]] = List.map encS (os ++ [callW c]) := by
        unfold callW; rw [hw, hr']; simp [encS, Lib.join_nil]
      rw [e3]
      rfl
    | false =>
      have b1 := brw_dec (c.args.map wordM) false
      have b2 := brw_sub (c.args.map wordM) false
      have b3 := brw_pure (c.args.map wordM)
      have b4 : decide (0 + (c.args.map wordM).length ≤ (List.map encS (c.args.map wordM)).length) = true := dT (by simp)
      have b6 : (c.args.map wordM).length ≤ 140737488355328 := by simp; omega
      simp only [b1, b3, b4, cond_true, cond_false, beq_self_eq_true, Bool.and_self]
      rw [tst_true ⟨⟨b6, hj⟩, .cons b2 (.cons (.refl _) .nil), trivial⟩]
      have e3 : (List.map encS os).append [[AVal.str (Lib.join (c.args.map wordM) [32])]] = List.map encS (os ++ [callW c]) := by
        unfold callW; rw [hw]; simp [encS]
      rw [e3, fz_rows]
      rfl
theorem po_end (f : Bool) (l : List CallD) (i : Nat) (os : List (List UInt8)) (hi : ¬ i < l.length) (k : Kont) : poTurn (poSt f l i os) k = k (.exit 0) (stL 47 [3] [.own 0 0 i i false] [] [] [.arr 1 (os.map encS) i] []) := by
  refine (po_step piR f l.length (fun i => (l.getD i callD0).name) (fun i => (l.getD i callD0).af) (fun i => (l.getD i callD0).args.length) (fun i j => encArg ((l.getD i callD0).args.getD j argD0)) l.length i i os k i rfl (i + 1) rfl _ rfl
    _ rfl _ rfl _ rfl _ rfl _ rfl _ rfl _ rfl _ rfl).trans ?_
  rw [dF (by omega)]
  rfl
theorem po_runs (f : Bool) (l : List CallD) (hl : l.length ≤ 4294967296) (hok : ∀ c ∈ l, okCW c) : ∀ (m i : Nat), l.length - i ≤ m → i ≤ l.length →
    ∃ q, ∀ k, rounds poTurn q (poSt f l i ((l.take i).map callW)) k = k (.exit 0) (stL 47 [3] [.own 0 0 l.length l.length false] [] [] [.arr 1 ((l.map callW).map encS) l.length] []) := by
  intro m
  induction m with
  | zero =>
    intro i h1 h2
    obtain rfl : i = l.length := by omega
    rw [List.take_length]
    exact ⟨1, fun k => by rw [rounds_succ', po_end f l _ _ (by omega)]⟩
  | succ m ih =>
    intro i h1 h2
    by_cases hi : i < l.length
    · obtain ⟨q, hq⟩ := ih (i + 1) (by omega) (by omega)
      refine ⟨q + 1, fun k => ?_⟩
      have hm : l.getD i callD0 ∈ l := by rw [List.getD_eq_getElem?_getD, List.getElem?_eq_getElem hi]; exact List.getElem_mem _
      rw [rounds_succ', po_round f l i _ hi hl (by simp; omega) _ rfl (hok _ hm)]
      have e : (l.take i).map callW ++ [callW (l.getD i callD0)] = (l.take (i + 1)).map callW := by
        rw [List.take_succ_eq_append_getElem hi, List.map_append]
        simp [List.getD_eq_getElem?_getD, List.getElem?_eq_getElem hi]
      rw [e]
      exact hq k
    · obtain rfl : i = l.length := by omega
      rw [List.take_length]
      exact ⟨1, fun k => by rw [rounds_succ', po_end f l _ _ (by omega)]⟩
def encPsR (x : AVal) : AVal := encPipe (fullOf x) (decL decCall x)
def lenPsR (x : AVal) : Nat := (decL decCall x).length
def poOk (x : AVal) : Prop := lenPsR x ≤ 4294967296 ∧ ∀ c ∈ decL decCall x, okCW c
def poR (x : AVal) : List (List AVal) := ((decL decCall x).map callW).map encS
noncomputable def poSp : LSp := mkL (fun vs _ _ => vs.getD 1 .undef) poOk (fun x => [.own 0 0 0 0 false, encPsR x, .int .i64 (lenPsR x), .int .i64 0]) (fun _ => []) (fun _ => [.arr 1 [] 0]) (fun x k => k (.exit 0) [.own 0 0 (lenPsR x) (lenPsR x) false] [] [.arr 1 (poR x) (lenPsR x)])
theorem mkL_okM {α : Type} {turn : St → Kont → Ans} {n : Nat} {l m lx mx : List Nat} {dec : List AVal → List (List AVal) → Heap → α} {ok : α → Prop} {ev : α → List AVal} {eb : α → List (List AVal)} {eh : α → Heap} {post : α → (AExit → List AVal → List (List AVal) → Heap → Ans) → Ans}
    (h : ∀ a, ok a → ∃ e vs bs H, (∀ k, post a k = k e vs bs H) ∧ ∃ q, ∀ k, rounds turn q (stL n l (ev a) m (eb a) (eh a) []) k = k e (stL n lx vs mx bs H [])) : SpOKM turn n l m lx mx (mkL dec ok ev eb eh post) := by
  intro vs bs H k out ho
  unfold mkL at ho
  rw [Bool.cond_eq_ite] at ho
  split at ho
  case isFalse => simp at ho
  rename_i hc
  obtain ⟨h1, h2, h3, h4⟩ := of_tst hc
  generalize dec vs bs H = a at *
  obtain ⟨e, vs', bs', H', h5, h6⟩ := h a h1
  rw [h5] at ho
  subst h3 h4
  exact ⟨ev a, e, vs', bs', H', vs', h2, h6, .refl _, ho⟩
theorem poSp_ok : SpOKM poTurn 47 [3,12,13,14] [] [3] [] poSp := mkL_okM fun x h =>
  ⟨_, _, _, _, fun k => rfl, po_runs (fullOf x) (decL decCall x) h.1 h.2 _ 0 (Nat.le_refl _) (Nat.zero_le _)⟩
noncomputable def prtFH : FH := .of [(9, loopSpec 47 [3,6,12,13,14,27,28,29] [] [3,6,12,13,14] [] piSp), (3, loopSpecM 47 [3,12,13,14] [] [3] [] poSp)]
abbrev prtF : Nat := 17
theorem prt_loops : LOk Tryd.prog prtFH (codeOf Tryd.prog prtF) := by
  have f9 : prtFH.loops (firstRegion (loopAt 9 (codeOf Tryd.prog prtF))) = some (loopSpec 47 [3,6,12,13,14,27,28,29] [] [3,6,12,13,14] [] piSp) := by kernel_rfl
  have f9' : (prtFH0 piR).loops (firstRegion (loopAt 9 (codeOf Tryd.prog prtF))) = some (loopSpec 47 [3,6,12,13,14,27,28,29] [] [3,6,12,13,14] [] piSp) := by kernel_rfl
  have f3 : prtFH.loops (firstRegion (loopAt 3 (codeOf Tryd.prog prtF))) = some (loopSpecM 47 [3,12,13,14] [] [3] [] poSp) := by kernel_rfl
  have e9 : loopsIn (loopAt 9 (codeOf Tryd.prog prtF)) = [] := by kernel_rfl
  have e3 : loopsIn (loopAt 3 (codeOf Tryd.prog prtF)) = [loopAt 9 (codeOf Tryd.prog prtF)] := by kernel_rfl
  have e : loopsIn (codeOf Tryd.prog prtF) = [loopAt 3 (codeOf Tryd.prog prtF), loopAt 9 (codeOf Tryd.prog prtF)] := by kernel_rfl
  have t9 : LoopTold Tryd.prog (loopAt 9 (codeOf Tryd.prog prtF)) (loopSpec 47 [3,6,12,13,14,27,28,29] [] [3,6,12,13,14] [] piSp) := layPi_ok.told (LOk.of _ (fun d hd => by rw [e9] at hd; cases hd)) piSp_ok
  have t3 : LoopTold Tryd.prog (loopAt 3 (codeOf Tryd.prog prtF)) (loopSpecM 47 [3,12,13,14] [] [3] [] poSp) := layPi_ok.toldD (LOk.of _ (fun d hd sp hsp => by
    rw [e3, List.mem_singleton] at hd
    subst hd
    rw [f9', Option.some.injEq] at hsp
    subst hsp; exact t9)) poSp_ok
  refine LOk.of _ (fun d hd sp hsp => ?_)
  rw [e, List.mem_cons, List.mem_singleton] at hd
  rcases hd with rfl | rfl
  · rw [f3, Option.some.injEq] at hsp
    subst hsp; exact t3
  · rw [f9, Option.some.injEq] at hsp
    subst hsp; exact t9
noncomputable def layPr2 : Lay := layPi.addL prtF prtFH
theorem layPr2_ok : layPr2.OK Tryd.prog := layPi_ok.addL prt_loops
theorem prt_fun (f : Bool) (l : List CallD) (k : Out → Ans) : iFun Tryd.prog (layPr2.hd Tryd.prog) layPr2.fhs 0 17 [encPipe f l] [] k = (
  let n0 : Int := (↑l.length : Int);
  let m1 : Nat := lenPsR (AVal.list f l.length fun (i : Nat) => encCall (l.getD i callD0));
  let m2 : Nat :=
    (decL decS
        (AVal.list false m1 fun (i : Nat) =>
          (poR (AVal.list f l.length fun (i : Nat) => encCall (l.getD i callD0))).getD (0 + i) [])).length;
  let l3 : List UInt8 :=
    Lib.join
      (decL decS
        (AVal.list false m1 fun (i : Nat) =>
          (poR (AVal.list f l.length fun (i : Nat) => encCall (l.getD i callD0))).getD (0 + i) []))
      [32, 124, 32];
  bif decide (16 * n0 ≤ 281474976710656) && decide (n0 ≤ 9223372036854775807) then
    bif
        tst
          (poOk (AVal.list f l.length fun (i : Nat) => encCall (l.getD i callD0)) ∧
            SubTL
                [AVal.own 0 0 0 0 false, AVal.list f l.length fun (i : Nat) => encCall (l.getD i callD0),
                  AVal.int IntKind.i64 n0, AVal.int IntKind.i64 0]
                [AVal.own 0 0 0 0 false,
                  encPsR (AVal.list f l.length fun (i : Nat) => encCall (l.getD i callD0)),
                  AVal.int IntKind.i64 (↑m1 : Int), AVal.int IntKind.i64 0] ∧
              ([] : List (List AVal)) = [] ∧ [Obj.arr 1 [] 0] = [Obj.arr 1 [] 0]) then
      bif
          (m1 == m1 &&
                decide
                  (0 + m1 ≤
                    (poR (AVal.list f l.length fun (i : Nat) => encCall (l.getD i callD0))).length) &&
              (poR (AVal.list f l.length fun (i : Nat) => encCall (l.getD i callD0))).all
                fun (r : List AVal) => r.all isPure) &&
            true then
        bif
            tst
              ((m2 ≤ 140737488355328 ∧ l3.length ≤ 140737488355328) ∧
                SubL
                    [AVal.list false m1 fun (i : Nat) =>
                        (poR (AVal.list f l.length fun (i : Nat) => encCall (l.getD i callD0))).getD
                          (0 + i) [],
                      AVal.str [32, 124, 32]]
                    [AVal.list false m2 fun (i : Nat) =>
                        [AVal.str
                            ((decL decS
                                  (AVal.list false
                                    (lenPsR
                                      (AVal.list f l.length fun (i : Nat) => encCall (l.getD i callD0)))
                                    fun (i : Nat) =>
                                    (poR
                                          (AVal.list f l.length fun (i : Nat) =>
                                            encCall (l.getD i callD0))).getD
                                      (0 + i) [])).getD
                              i [])],
                      AVal.str [32, 124, 32]] ∧
                  ([] : Heap) = []) then
          k
            (Out.ret (AVal.str l3)
              [Obj.arr 1 (poR (AVal.list f l.length fun (i : Nat) => encCall (l.getD i callD0))) m1])
        else none
      else none
    else none
  else none) := by kernel_rfl
/-- a pipeline as words -/
def printP (l : List CallD) : List UInt8 := Lib.join (l.map callW) [32, 124, 32]
def okPW (l : List CallD) : Prop := l.length ≤ 4294967296 ∧ (∀ c ∈ l, okCW c) ∧ (printP l).length ≤ 140737488355328
theorem prt_ok (f : Bool) (l : List CallD) (h : okPW l) : CallOK Tryd.prog 17 [encPipe f l] [] (.ret (.str (printP l)) []) := by
  obtain ⟨h1, h2, h3⟩ := h
  have d : decL decCall (AVal.list f l.length fun (i : Nat) => encCall (l.getD i callD0)) = l := decL_encL decCall_enc l
  have e1 : lenPsR (AVal.list f l.length fun (i : Nat) => encCall (l.getD i callD0)) = (l.map callW).length := by unfold lenPsR; rw [d, List.length_map]
  have e2 : encPsR (AVal.list f l.length fun (i : Nat) => encCall (l.getD i callD0)) = AVal.list f l.length fun (i : Nat) => encCall (l.getD i callD0) := by unfold encPsR; rw [d]; rfl
  have e3 : poR (AVal.list f l.length fun (i : Nat) => encCall (l.getD i callD0)) = List.map encS (l.map callW) := by unfold poR; rw [d]
  have p1 : poOk (AVal.list f l.length fun (i : Nat) => encCall (l.getD i callD0)) := ⟨by rw [e1, List.length_map]; exact h1, by rw [d]; exact h2⟩
  have b1 := brw_dec (l.map callW) false
  have b2 := brw_sub (l.map callW) false
  have b3 := brw_pure (l.map callW)
  have b4 : decide (0 + (l.map callW).length ≤ (List.map encS (l.map callW)).length) = true := dT (by simp)
  have b6 : (l.map callW).length ≤ 140737488355328 := by simp; omega
  have key : ∀ k, iFun Tryd.prog (layPr2.hd Tryd.prog) layPr2.fhs 0 17 [encPipe f l] [] k = k (.ret (.str (printP l)) [.arr 1 (List.map encS (l.map callW)) (l.map callW).length]) := fun k => by
    refine (prt_fun f l k).trans ?_
    simp only [e1, e2, e3, b1, b3, b4, beq_self_eq_true, Bool.and_self]
    rw [dT (by omega), dT (by omega), Bool.and_self, cond_true]
    have hl : ((l.map callW).length : Int) = (l.length : Int) := by rw [List.length_map]
    rw [hl, tst_true ⟨p1, .refl _, trivial, trivial⟩, cond_true, cond_true, tst_true ⟨⟨b6, h3⟩, .cons b2 (.cons (.refl _) .nil), trivial⟩]
    rfl
  exact layPr2_ok.callF rfl key
def okPR (x : AVal) : Prop := okPW (decL decCall x)
def printR (x : AVal) : List UInt8 := printP (decL decCall x)
noncomputable def prtTold : FSp := mkF (fun xs H => xs.getD 0 .undef) okPR (fun x => [encPsR x]) (fun _ => []) (fun x k => k (.ret (.str (printR x)) []))
theorem prtTold_ok : ∀ xs H k out, prtTold xs H k = some out → ∃ o, CallOK Tryd.prog 17 xs H o ∧ k o = some out := mkF_ok fun x h => ⟨_, fun k => rfl, prt_ok _ _ h⟩
end Go.Mu
set_option linter.unusedVariables false
set_option linter.unusedSimpArgs false
set_option maxRecDepth 100000
namespace Go.Mu
open Go Go.Proofs
noncomputable def sp15 : LSp := fun vs bs H k => match vs, bs with
  | [x, y, .int .i64 i, .int .i64 j, .ptr (.tmp 7) 0, .ptr (.tmp 8) 0, .int .i64 z], [c, d] => cond (tst (c = encArg (decArg c) ∧ d = encArg (decArg d) ∧ z = 0 ∧ (decArg c).path.length = (decArg d).path.length ∧ (decArg c).path.length ≤ 1099511627776))
      (cond (!all2 eqS (decArg c).path (decArg d).path) (k .ret [x, y, .bool false, .int .i64 i, .int .i64 j] [] H) (k (.exit 4) [x, y, .undef, .int .i64 i, .int .i64 j] [] H)) none
  | _, _ => none
noncomputable def sp9 : LSp := fun vs bs H k => match vs with
  | [x, y, .int .i64 i, .int .i64 z] => cond (tst (x = encPipe (fullOf x) (decL decCall x) ∧ y = encPipe (fullOf y) (decL decCall y) ∧ okPipe (decL decCall x) ∧ okPipe (decL decCall y) ∧ 0 ≤ i ∧ i < (decL decCall x).length ∧ i < (decL decCall y).length ∧ z = 0 ∧ ((decL decCall x).getD i.toNat callD0).args.length = ((decL decCall y).getD i.toNat callD0).args.length ∧ bs = []))
      (cond (!all2 argEq ((decL decCall x).getD i.toNat callD0).args ((decL decCall y).getD i.toNat callD0).args) (k .ret [x, y, .bool false, .int .i64 i] [] H) (k (.exit 2) [x, y, .undef, .int .i64 i] [] H)) none
  | _ => none
noncomputable def sp4 : LSp := fun vs bs H k => match vs with
  | [x, y, .int .i64 z] => cond (tst (x = encPipe (fullOf x) (decL decCall x) ∧ y = encPipe (fullOf y) (decL decCall y) ∧ okPipe (decL decCall x) ∧ okPipe (decL decCall y) ∧ z = 0 ∧ (decL decCall x).length = (decL decCall y).length ∧ bs = []))
      (cond (!all2 callEq (decL decCall x) (decL decCall y)) (k .ret [.bool false] [] H) (k (.exit 0) [.undef] [] H)) none
  | _ => none
noncomputable def spFH : FH := .of [(4, loopSpec 126 [0,1,5] [] [4] [] sp4), (9, loopSpec 126 [0,1,5,6] [] [0,1,4,5] [] sp9), (15, loopSpec 126 [0,1,5,6,7,8,9] [7,8] [0,1,4,5,6] [] sp15)]
noncomputable abbrev sp15Turn := lturn Tryd.prog layK spFH 15 15 [0,1,5,6,7,8,9] [7,8] [0,1,4,5,6] []
noncomputable abbrev sp9Turn := lturn Tryd.prog layK spFH 15 9 [0,1,5,6] [] [0,1,4,5] []
noncomputable abbrev sp4Turn := lturn Tryd.prog layK spFH 15 4 [0,1,5] [] [4] []
abbrev sp15St (x y : AVal) (i j : Int) (a b : ArgD) (m : Int) (H : Heap) (D : List (FuncId × List AVal)) : St := stL 126 [0,1,5,6,7,8,9] [x, y, .int .i64 i, .int .i64 j, .ptr (.tmp 7) 0, .ptr (.tmp 8) 0, .int .i64 m] [7,8] [encArg a, encArg b] H D
theorem sp15_step0 (x y : AVal) (i j : Int) (a b : ArgD) (m : Nat) (H : Heap) (D : List (FuncId × List AVal)) (k : Kont) : sp15Turn (sp15St x y i j a b m H D) k =
    cond (decide ((m : Int) < a.path.length)) (cond (decide ((m : Int) < a.path.length)) (cond (decide ((m : Int) < b.path.length)) (cond (!(a.path.getD (m : Int).toNat [] == b.path.getD (m : Int).toNat []))
      (k .ret (stL 126 [0,1,4,5,6] [x, y, .bool false, .int .i64 i, .int .i64 j] [] [] H D)) (k .normal (sp15St x y i j a b (IntKind.i64.wrap ((m : Int) + 1)) H D))) none) none)
      (k (.exit 4) (stL 126 [0,1,4,5,6] [x, y, .undef, .int .i64 i, .int .i64 j] [] [] H D)) := by kernel_rfl
theorem sp15_ok : SpOK sp15Turn 126 [0,1,5,6,7,8,9] [7,8] [0,1,4,5,6] [] sp15 := by
  intro vs bs H k out ho
  unfold sp15 at ho
  split at ho
  case h_2 => simp at ho
  rename_i x y i j z c d
  rw [Bool.cond_eq_ite] at ho
  split at ho
  case isFalse => simp at ho
  rename_i hc
  obtain ⟨hx, hy, rfl, hab, hn⟩ := of_tst hc
  generalize decArg c = a at hx hab hn ho
  generalize decArg d = b at hy hab ho
  subst hx hy
  have hrun := fun D k => search_any (turn := sp15Turn) (S := fun m => sp15St x y i j a b (m : Nat) H D) (hit := fun m => !eqS (a.path.getD m []) (b.path.getD m [])) (n := a.path.length) (e0 := .exit 4) (e1 := .ret) (R0 := stL 126 [0,1,4,5,6] [x, y, .undef, .int .i64 i, .int .i64 j] [] [] H D) (R1 := stL 126 [0,1,4,5,6] [x, y, .bool false, .int .i64 i, .int .i64 j] [] [] H D)
    (fun m k hi => by rw [sp15_step0, decide_eq_true (show (m : Int) < a.path.length by omega), decide_eq_true (show (m : Int) < b.path.length by omega), wrap_add1 (by omega), Int.toNat_natCast]; rfl)
    (fun k => by rw [sp15_step0, decide_eq_false (by omega)]; rfl) (by simp) (by simp) k
  rw [all2_any [] a.path b.path hab] at hrun
  cases ha : !all2 eqS a.path b.path with
  | true =>
    rw [ha] at ho
    exact ⟨_, _, _, _, _, _, .refl _, ⟨_, fun D k => (hrun D k).trans (by rw [ha]; rfl)⟩, .refl _, ho⟩
  | false =>
    rw [ha] at ho
    exact ⟨_, _, _, _, _, _, .refl _, ⟨_, fun D k => (hrun D k).trans (by rw [ha]; rfl)⟩, .refl _, ho⟩

abbrev sp9Re (fa fb : Bool) (a b : List CallD) (i : Int) (H : Heap) (D : List (FuncId × List AVal)) : St := stL 126 [0,1,4,5] [encPipe fa a, encPipe fb b, .bool false, .int .i64 i] [] [] H D
abbrev sp9St (fa fb : Bool) (a b : List CallD) (i j : Int) (H : Heap) (D : List (FuncId × List AVal)) : St := stL 126 [0,1,5,6] [encPipe fa a, encPipe fb b, .int .i64 i, .int .i64 j] [] [] H D
theorem sp9_step0 (fa fb : Bool) (a b : List CallD) (i j : Nat) (H : Heap) (D : List (FuncId × List AVal)) (k : Kont) : sp9Turn (sp9St fa fb a b i j H D) k =
    cond (decide ((i : Int) < a.length)) (cond (decide ((j : Int) < (a.getD (i : Int).toNat callD0).args.length)) (cond (decide ((i : Int) < a.length)) (cond (decide ((j : Int) < (a.getD (i : Int).toNat callD0).args.length)) (cond (decide ((i : Int) < b.length)) (cond (decide ((j : Int) < (b.getD (i : Int).toNat callD0).args.length))
      (cond (cond (cond (cond (cond (((a.getD (i : Int).toNat callD0).args.getD (j : Int).toNat argD0).kind != ((b.getD (i : Int).toNat callD0).args.getD (j : Int).toNat argD0).kind) true (!(((a.getD (i : Int).toNat callD0).args.getD (j : Int).toNat argD0).name == ((b.getD (i : Int).toNat callD0).args.getD (j : Int).toNat argD0).name))) true (((a.getD (i : Int).toNat callD0).args.getD (j : Int).toNat argD0).int != ((b.getD (i : Int).toNat callD0).args.getD (j : Int).toNat argD0).int)) true (!(((a.getD (i : Int).toNat callD0).args.getD (j : Int).toNat argD0).text == ((b.getD (i : Int).toNat callD0).args.getD (j : Int).toNat argD0).text))) true ((((a.getD (i : Int).toNat callD0).args.getD (j : Int).toNat argD0).path.length : Int) != ((b.getD (i : Int).toNat callD0).args.getD (j : Int).toNat argD0).path.length)) (k .ret (sp9Re fa fb a b i H D))
        (cond (tst (encArg ((a.getD (i : Int).toNat callD0).args.getD (j : Int).toNat argD0) = encArg (decArg (encArg ((a.getD (i : Int).toNat callD0).args.getD (j : Int).toNat argD0))) ∧ encArg ((b.getD (i : Int).toNat callD0).args.getD (j : Int).toNat argD0) = encArg (decArg (encArg ((b.getD (i : Int).toNat callD0).args.getD (j : Int).toNat argD0))) ∧ (0 : Int) = 0 ∧ (decArg (encArg ((a.getD (i : Int).toNat callD0).args.getD (j : Int).toNat argD0))).path.length = (decArg (encArg ((b.getD (i : Int).toNat callD0).args.getD (j : Int).toNat argD0))).path.length ∧ (decArg (encArg ((a.getD (i : Int).toNat callD0).args.getD (j : Int).toNat argD0))).path.length ≤ 1099511627776))
          (cond (!all2 eqS (decArg (encArg ((a.getD (i : Int).toNat callD0).args.getD (j : Int).toNat argD0))).path (decArg (encArg ((b.getD (i : Int).toNat callD0).args.getD (j : Int).toNat argD0))).path) (k .ret (sp9Re fa fb a b i H D)) (k .normal (sp9St fa fb a b i (IntKind.i64.wrap ((j : Int) + 1)) H D))) none)) none) none) none) none)
      (k (.exit 2) (stL 126 [0,1,4,5] [encPipe fa a, encPipe fb b, .undef, .int .i64 i] [] [] H D))) none := by kernel_rfl
theorem sp9_step (fa fb : Bool) (a b : List CallD) (i j : Nat) (H : Heap) (D : List (FuncId × List AVal)) (k : Kont) (ha : okPipe a) (hb : okPipe b) (hi : i < a.length) (hib : i < b.length) (hab : (a.getD i callD0).args.length = (b.getD i callD0).args.length) (hj : j < (a.getD i callD0).args.length) :
    sp9Turn (sp9St fa fb a b i j H D) k = cond (!argEq ((a.getD i callD0).args.getD j argD0) ((b.getD i callD0).args.getD j argD0)) (k .ret (sp9Re fa fb a b i H D)) (k .normal (sp9St fa fb a b i ((j + 1 : Nat) : Int) H D)) := by
  have oc : okCall (a.getD i callD0) := getD_ok ha.2 hi
  have oa : okArg ((a.getD i callD0).args.getD j argD0) := getD_ok oc.2.1 hj
  have hal := oc.1
  rw [sp9_step0, decide_eq_true (show (i : Int) < a.length by omega), Int.toNat_natCast, Int.toNat_natCast, decide_eq_true (show (j : Int) < ((a.getD i callD0).args.length : Int) by omega), decide_eq_true (show (i : Int) < b.length by omega), decide_eq_true (show (j : Int) < ((b.getD i callD0).args.length : Int) by omega), wrap_add1 (by omega), decArg_enc, decArg_enc, len_ne]
  generalize (a.getD i callD0).args.getD j argD0 = x at oa ⊢
  generalize (b.getD i callD0).args.getD j argD0 = y
  unfold argEq
  rw [show (x.kind != y.kind) = (!(x.kind == y.kind)) from rfl, show (x.int != y.int) = (!(x.int == y.int)) from rfl]
  by_cases hp : x.path.length = y.path.length
  · rw [decide_eq_true hp, tst_true ⟨rfl, rfl, rfl, hp, oa.1⟩]
    simp only [cond_true]
    generalize (x.kind == y.kind) = b1
    generalize (x.name == y.name) = b2
    generalize (x.int == y.int) = b3
    generalize (x.text == y.text) = b4
    generalize all2 eqS x.path y.path = b5
    cases b1 <;> cases b2 <;> cases b3 <;> cases b4 <;> cases b5 <;> rfl
  · rw [decide_eq_false hp, all2_len _ _ hp]
    simp only [cond_true]
    generalize (x.kind == y.kind) = b1
    generalize (x.name == y.name) = b2
    generalize (x.int == y.int) = b3
    generalize (x.text == y.text) = b4
    cases b1 <;> cases b2 <;> cases b3 <;> cases b4 <;> rfl
theorem sp9_ok : SpOK sp9Turn 126 [0,1,5,6] [] [0,1,4,5] [] sp9 := by
  intro vs bs H k out ho
  unfold sp9 at ho
  split at ho
  case h_2 => simp at ho
  rename_i x y i z
  rw [Bool.cond_eq_ite] at ho
  split at ho
  case isFalse => simp at ho
  rename_i hc
  obtain ⟨hx, hy, oka, okb, hi0, hi1, hi2, rfl, hab, rfl⟩ := of_tst hc
  generalize fullOf x = fa at hx
  generalize fullOf y = fb at hy
  generalize decL decCall x = a at hx oka hi1 hab ho
  generalize decL decCall y = b at hy okb hi2 hab ho
  subst hx hy
  obtain ⟨i, rfl⟩ : ∃ n : Nat, i = n := ⟨i.toNat, by omega⟩
  rw [Int.toNat_natCast] at hab ho
  have hrun := fun D k => search_any (turn := sp9Turn) (S := fun j => sp9St fa fb a b i (j : Nat) H D) (hit := fun j => !argEq ((a.getD i callD0).args.getD j argD0) ((b.getD i callD0).args.getD j argD0)) (n := (a.getD i callD0).args.length) (e0 := .exit 2) (e1 := .ret)
    (R0 := stL 126 [0,1,4,5] [encPipe fa a, encPipe fb b, .undef, .int .i64 i] [] [] H D) (R1 := sp9Re fa fb a b i H D)
    (fun j k hj => sp9_step fa fb a b i j H D k oka okb (by omega) (by omega) hab hj)
    (fun k => by rw [sp9_step0, decide_eq_true hi1, Int.toNat_natCast, decide_eq_false (by omega)]; rfl) (by simp) (by simp) k
  rw [all2_any argD0 _ _ hab] at hrun
  cases ha : !all2 argEq (a.getD i callD0).args (b.getD i callD0).args with
  | true =>
    rw [ha] at ho
    exact ⟨_, _, _, _, _, _, .refl _, ⟨_, fun D k => (hrun D k).trans (by rw [ha]; rfl)⟩, .refl _, ho⟩
  | false =>
    rw [ha] at ho
    exact ⟨_, _, _, _, _, _, .refl _, ⟨_, fun D k => (hrun D k).trans (by rw [ha]; rfl)⟩, .refl _, ho⟩

abbrev sp4St (fa fb : Bool) (a b : List CallD) (i : Int) (H : Heap) (D : List (FuncId × List AVal)) : St := stL 126 [0,1,5] [encPipe fa a, encPipe fb b, .int .i64 i] [] [] H D
theorem sp4_step0 (fa fb : Bool) (a b : List CallD) (i : Nat) (H : Heap) (D : List (FuncId × List AVal)) (k : Kont) : sp4Turn (sp4St fa fb a b i H D) k =
    cond (decide ((i : Int) < a.length)) (cond (decide ((i : Int) < a.length)) (cond (decide ((i : Int) < b.length))
      (cond (decide ((i : Int) < a.length) || !!!((a.getD (i : Int).toNat callD0).name == (b.getD (i : Int).toNat callD0).name)) (cond (decide ((i : Int) < b.length) || !!!((a.getD (i : Int).toNat callD0).name == (b.getD (i : Int).toNat callD0).name))
        (cond (cond (!((a.getD (i : Int).toNat callD0).name == (b.getD (i : Int).toNat callD0).name)) true (((a.getD (i : Int).toNat callD0).args.length : Int) != (b.getD (i : Int).toNat callD0).args.length)) (k .ret (stL 126 [4] [.bool false] [] [] H D))
          (cond (tst (encPipe fa a = encPipe (fullOf (encPipe fa a)) (decL decCall (encPipe fa a)) ∧ encPipe fb b = encPipe (fullOf (encPipe fb b)) (decL decCall (encPipe fb b)) ∧ okPipe (decL decCall (encPipe fa a)) ∧ okPipe (decL decCall (encPipe fb b)) ∧ 0 ≤ (i : Int) ∧ (i : Int) < (decL decCall (encPipe fa a)).length ∧ (i : Int) < (decL decCall (encPipe fb b)).length ∧ (0 : Int) = 0 ∧ ((decL decCall (encPipe fa a)).getD (i : Int).toNat callD0).args.length = ((decL decCall (encPipe fb b)).getD (i : Int).toNat callD0).args.length ∧ ([] : List (List AVal)) = []))
            (cond (!all2 argEq ((decL decCall (encPipe fa a)).getD (i : Int).toNat callD0).args ((decL decCall (encPipe fb b)).getD (i : Int).toNat callD0).args) (k .ret (stL 126 [4] [.bool false] [] [] H D))
              (k .normal (sp4St fa fb a b (IntKind.i64.wrap ((i : Int) + 1)) H D))) none)) none) none) none) none)
      (k (.exit 0) (stL 126 [4] [.undef] [] [] H D)) := by kernel_rfl
theorem sp4_step (fa fb : Bool) (a b : List CallD) (i : Nat) (H : Heap) (D : List (FuncId × List AVal)) (k : Kont) (ha : okPipe a) (hb : okPipe b) (hi : i < a.length) (hib : i < b.length) :
    sp4Turn (sp4St fa fb a b i H D) k = cond (!callEq (a.getD i callD0) (b.getD i callD0)) (k .ret (stL 126 [4] [.bool false] [] [] H D)) (k .normal (sp4St fa fb a b ((i + 1 : Nat) : Int) H D)) := by
  have hal := ha.1
  rw [sp4_step0, decide_eq_true (show (i : Int) < a.length by omega), decide_eq_true (show (i : Int) < b.length by omega), wrap_add1 (by omega), len_ne, decPipe_enc, decPipe_enc, Int.toNat_natCast]
  unfold callEq
  by_cases hp : (a.getD i callD0).args.length = (b.getD i callD0).args.length
  · rw [decide_eq_true hp, tst_true ⟨rfl, rfl, ha, hb, by omega, by omega, by omega, rfl, hp, rfl⟩]
    generalize ((a.getD i callD0).name == (b.getD i callD0).name) = b1
    generalize all2 argEq (a.getD i callD0).args (b.getD i callD0).args = b2
    cases b1 <;> cases b2 <;> rfl
  · rw [decide_eq_false hp, all2_len _ _ hp]
    generalize ((a.getD i callD0).name == (b.getD i callD0).name) = b1
    cases b1 <;> rfl
theorem sp4_ok : SpOK sp4Turn 126 [0,1,5] [] [4] [] sp4 := by
  intro vs bs H k out ho
  unfold sp4 at ho
  split at ho
  case h_2 => simp at ho
  rename_i x y z
  rw [Bool.cond_eq_ite] at ho
  split at ho
  case isFalse => simp at ho
  rename_i hc
  obtain ⟨hx, hy, oka, okb, rfl, hab, rfl⟩ := of_tst hc
  generalize fullOf x = fa at hx
  generalize fullOf y = fb at hy
  generalize decL decCall x = a at hx oka hab ho
  generalize decL decCall y = b at hy okb hab ho
  subst hx hy
  have hrun := fun D k => search_any (turn := sp4Turn) (S := fun i => sp4St fa fb a b (i : Nat) H D) (hit := fun i => !callEq (a.getD i callD0) (b.getD i callD0)) (n := a.length) (e0 := .exit 0) (e1 := .ret)
    (R0 := stL 126 [4] [.undef] [] [] H D) (R1 := stL 126 [4] [.bool false] [] [] H D)
    (fun i k hi => sp4_step fa fb a b i H D k oka okb hi (by omega))
    (fun k => by rw [sp4_step0, decide_eq_false (by omega)]; rfl) (by simp) (by simp) k
  rw [all2_any callD0 _ _ hab] at hrun
  cases ha : !all2 callEq a b with
  | true =>
    rw [ha] at ho
    exact ⟨_, _, _, _, _, _, .refl _, ⟨_, fun D k => (hrun D k).trans (by rw [ha]; rfl)⟩, .refl _, ho⟩
  | false =>
    rw [ha] at ho
    exact ⟨_, _, _, _, _, _, .refl _, ⟨_, fun D k => (hrun D k).trans (by rw [ha]; rfl)⟩, .refl _, ho⟩
abbrev spF : Nat := 15
theorem sp_loops : LOk Tryd.prog spFH (codeOf Tryd.prog spF) := by
  have f15 : spFH.loops (firstRegion (loopAt 15 (codeOf Tryd.prog spF))) = some (loopSpec 126 [0,1,5,6,7,8,9] [7,8] [0,1,4,5,6] [] sp15) := by kernel_rfl
  have f9 : spFH.loops (firstRegion (loopAt 9 (codeOf Tryd.prog spF))) = some (loopSpec 126 [0,1,5,6] [] [0,1,4,5] [] sp9) := by kernel_rfl
  have f4 : spFH.loops (firstRegion (loopAt 4 (codeOf Tryd.prog spF))) = some (loopSpec 126 [0,1,5] [] [4] [] sp4) := by kernel_rfl
  have e15 : loopsIn (loopAt 15 (codeOf Tryd.prog spF)) = [] := by kernel_rfl
  have e9 : loopsIn (loopAt 9 (codeOf Tryd.prog spF)) = [loopAt 15 (codeOf Tryd.prog spF)] := by kernel_rfl
  have e4 : loopsIn (loopAt 4 (codeOf Tryd.prog spF)) = [loopAt 9 (codeOf Tryd.prog spF), loopAt 15 (codeOf Tryd.prog spF)] := by kernel_rfl
  have e : loopsIn (codeOf Tryd.prog spF) = [loopAt 4 (codeOf Tryd.prog spF), loopAt 9 (codeOf Tryd.prog spF), loopAt 15 (codeOf Tryd.prog spF)] := by kernel_rfl
  have t15 : LoopTold Tryd.prog (loopAt 15 (codeOf Tryd.prog spF)) (loopSpec 126 [0,1,5,6,7,8,9] [7,8] [0,1,4,5,6] [] sp15) := layK_ok.told (LOk.of _ (fun d hd => by rw [e15] at hd; cases hd)) sp15_ok
  have t9 : LoopTold Tryd.prog (loopAt 9 (codeOf Tryd.prog spF)) (loopSpec 126 [0,1,5,6] [] [0,1,4,5] [] sp9) := layK_ok.told (LOk.of _ (fun d hd sp hsp => by
    rw [e9, List.mem_singleton] at hd
    subst hd
    rw [f15, Option.some.injEq] at hsp
    subst hsp; exact t15)) sp9_ok
  have t4 : LoopTold Tryd.prog (loopAt 4 (codeOf Tryd.prog spF)) (loopSpec 126 [0,1,5] [] [4] [] sp4) := layK_ok.told (LOk.of _ (fun d hd sp hsp => by
    rw [e4, List.mem_cons, List.mem_singleton] at hd
    rcases hd with rfl | rfl
    · rw [f9, Option.some.injEq] at hsp
      subst hsp; exact t9
    · rw [f15, Option.some.injEq] at hsp
      subst hsp; exact t15)) sp4_ok
  refine LOk.of _ (fun d hd sp hsp => ?_)
  rw [e, List.mem_cons, List.mem_cons, List.mem_singleton] at hd
  rcases hd with rfl | rfl | rfl
  · rw [f4, Option.some.injEq] at hsp
    subst hsp; exact t4
  · rw [f9, Option.some.injEq] at hsp
    subst hsp; exact t9
  · rw [f15, Option.some.injEq] at hsp
    subst hsp; exact t15
noncomputable def layT : Lay := layK.addL spF spFH
theorem layT_ok : layT.OK Tryd.prog := layK_ok.addL sp_loops
theorem sp_fun (fa fb : Bool) (a b : List CallD) (k : Out → Ans) : iFun Tryd.prog (layT.hd Tryd.prog) layT.fhs 0 15 [encPipe fa a, encPipe fb b] [] k =
    cond ((a.length : Int) != b.length) (k (.ret (.bool false) []))
      (cond (tst (encPipe fa a = encPipe (fullOf (encPipe fa a)) (decL decCall (encPipe fa a)) ∧ encPipe fb b = encPipe (fullOf (encPipe fb b)) (decL decCall (encPipe fb b)) ∧ okPipe (decL decCall (encPipe fa a)) ∧ okPipe (decL decCall (encPipe fb b)) ∧ (0 : Int) = 0 ∧ (decL decCall (encPipe fa a)).length = (decL decCall (encPipe fb b)).length ∧ ([] : List (List AVal)) = []))
        (cond (!all2 callEq (decL decCall (encPipe fa a)) (decL decCall (encPipe fb b))) (k (.ret (.bool false) [])) (k (.ret (.bool true) []))) none) := by kernel_rfl
theorem sp_call {a b : List CallD} (ha : okPipe a) (hb : okPipe b) (fa fb : Bool) (k : Out → Ans) : iFun Tryd.prog (layT.hd Tryd.prog) layT.fhs 0 15 [encPipe fa a, encPipe fb b] [] k = k (.ret (.bool (pipeEq a b)) []) := by
  rw [sp_fun, len_ne, decPipe_enc, decPipe_enc]
  unfold pipeEq
  by_cases h : a.length = b.length
  · rw [decide_eq_true h, tst_true ⟨rfl, rfl, ha, hb, rfl, h, rfl⟩]
    cases all2 callEq a b <;> rfl
  · rw [decide_eq_false h, all2_len a b h]; rfl
theorem spTold_ok (xs : List AVal) (H : Heap) (k : Out → Ans) (out : Out) (ho : sameTold xs H k = some out) : ∃ o, CallOK Tryd.prog 15 xs H o ∧ k o = some out := by
  unfold sameTold at ho
  split at ho
  · rename_i x y
    rw [Bool.cond_eq_ite] at ho
    split at ho
    · rename_i hc
      obtain ⟨hx, hy, hn, hm⟩ := of_tst hc
      generalize fullOf x = fa at hx
      generalize fullOf y = fb at hy
      generalize decL decCall x = a at hx hn ho
      generalize decL decCall y = b at hy hm ho
      subst hx hy
      exact ⟨_, layT_ok.call (sp_call hn hm fa fb), ho⟩
    · simp at ho
  · simp at ho
noncomputable def layU : Lay := layT.addF 15 sameTold
theorem layU_ok : layU.OK Tryd.prog := layT_ok.addF spTold_ok
end Go.Mu
set_option linter.unusedVariables false
set_option linter.unusedSimpArgs false
set_option maxRecDepth 100000
namespace Go.Mu
open Go Go.Proofs
/-- names, plainly -/
def isNm (s : List UInt8) : Prop := s ≠ [] ∧ s.length ≤ 32 ∧ (∀ c ∈ s, nmC c = true) ∧ (ltr (s.getD 0 0) || s.getD 0 0 == 95) = true
theorem nameB_nm {s : List UInt8} (h : nameB s = true) : isNm s := by
  unfold nameB at h
  rw [Bool.and_eq_true, decide_eq_true_eq, Bool.not_eq_true'] at h
  obtain ⟨⟨h1, h2⟩, h3⟩ := h
  have hc : ∀ n : Fin 256, (rBadA (UInt8.ofNat n) = false → (ltr (UInt8.ofNat n) || UInt8.ofNat n == 95) = true ∧ nmC (UInt8.ofNat n) = true) ∧ (oBad (UInt8.ofNat n) = false → nmC (UInt8.ofNat n) = true) := by decide +kernel
  have hc' : ∀ c : UInt8, (rBadA c = false → (ltr c || c == 95) = true ∧ nmC c = true) ∧ (oBad c = false → nmC c = true) := fun c => by
    have := hc ⟨c.toNat, c.toNat_lt⟩
    simpa using this
  cases s with
  | nil => simp at h1
  | cons c t =>
    rw [nmHit_any, Bool.or_eq_false_iff, List.any_eq_false] at h3
    obtain ⟨h4, h5⟩ := h3
    refine ⟨by simp, h2, fun d hd => ?_, ((hc' c).1 h4).1⟩
    rcases List.mem_cons.1 hd with rfl | hd
    · exact ((hc' d).1 h4).2
    · exact (hc' d).2 (by simpa using h5 d hd)
theorem isNm_46 {s : List UInt8} (h : isNm s) : (46 : UInt8) ∉ s := fun hm => by
  have := h.2.2.1 _ hm
  exact absurd this (by decide)
theorem isNm_dig {s : List UInt8} (h : isNm s) : dig (s.getD 0 0) = false := by
  have hc : ∀ n : Fin 256, (ltr (UInt8.ofNat n) || UInt8.ofNat n == 95) = true → dig (UInt8.ofNat n) = false := by decide +kernel
  have := hc ⟨(s.getD 0 0).toNat, (s.getD 0 0).toNat_lt⟩
  simp only [UInt8.ofNat_toNat] at this
  exact this h.2.2.2
/-- where a word ends -/
def stopB (rest : List UInt8) : Prop := rest = [] ∨ ∃ r, rest = 32 :: r
theorem runN_nm : ∀ {s rest : List UInt8}, (∀ c ∈ s, nmC c = true) → (rest = [] ∨ nmC (rest.getD 0 0) = false) → runN (s ++ rest) = s.length
  | [], rest, _, h => by
    cases rest with
    | nil => rfl
    | cons c t =>
      rw [List.nil_append, runN_cons]
      rcases h with h | h
      · cases h
      · rw [show nmC c = false from h]; rfl
  | c :: s, rest, hs, h => by
    rw [List.cons_append, runN_cons, hs c (by simp), runN_nm (fun d hd => hs d (by simp [hd])) h]
    rfl
theorem idE_nm {s rest : List UInt8} (h : isNm s) (hr : rest = [] ∨ nmC (rest.getD 0 0) = false) : idE (s ++ rest) = 0 ∧ runN (s ++ rest) = s.length := by
  have hrun := runN_nm h.2.2.1 hr
  refine ⟨?_, hrun⟩
  unfold idE
  have h0 : (s ++ rest).getD 0 0 = s.getD 0 0 := by
    cases s with
    | nil => exact absurd rfl h.1
    | cons c t => rfl
  have hp : 0 < s.length := List.length_pos_iff.2 h.1
  rw [hrun, h0, isNm_dig h, dT hp, dT h.2.1]
  rfl
theorem stop_nm {rest : List UInt8} (h : stopB rest) : rest = [] ∨ nmC (rest.getD 0 0) = false := by
  rcases h with h | ⟨r, rfl⟩
  · exact .inl h
  · exact .inr (by show nmC 32 = false; decide)
/-- a path, as it is told behind something -/
def pathK (l : List (List UInt8)) : List UInt8 := (l.map (46 :: ·)).flatten
theorem pathK_cons (s : List UInt8) (l : List (List UInt8)) : pathK (s :: l) = 46 :: (s ++ pathK l) := by simp [pathK]
theorem join_pathK (s : List UInt8) (l : List (List UInt8)) : Lib.join (s :: l) [46] = s ++ pathK l := by
  rw [Lib.join_cons]; rfl
theorem pathK_stop {l : List (List UInt8)} {rest : List UInt8} (h : stopB rest) : pathK l ++ rest = [] ∨ nmC ((pathK l ++ rest).getD 0 0) = false := by
  cases l with
  | nil => exact stop_nm h
  | cons s l => rw [pathK_cons]; exact .inr (by show nmC 46 = false; decide)
theorem dots_path : ∀ (l : List (List UInt8)) (rest : List UInt8) (m : Nat), (∀ s ∈ l, isNm s) → stopB rest → (pathK l).length ≤ m → dotsM m (pathK l ++ rest) = (0, (pathK l).length)
  | [], rest, m, _, hr, _ => by
    cases m with
    | zero => rfl
    | succ m =>
      rw [dotsM]
      have : (decide (1 < ([] ++ rest : List UInt8).length) && ([] ++ rest : List UInt8).getD 0 0 == 46) = false := by
        rcases hr with rfl | ⟨r, rfl⟩
        · rfl
        · show (_ && (32 : UInt8) == 46) = false
          rw [show ((32 : UInt8) == 46) = false from rfl, Bool.and_false]
      show (bif (decide (1 < ([] ++ rest : List UInt8).length) && ([] ++ rest : List UInt8).getD 0 0 == 46) then _ else _) = _
      rw [this]; rfl
  | s :: l, rest, m, hs, hr, hm => by
    have hns := hs s (by simp)
    have hp : 0 < s.length := List.length_pos_iff.2 hns.1
    rw [pathK_cons, List.length_cons, List.length_append] at hm
    obtain ⟨m, rfl⟩ : ∃ m', m = m' + 1 := ⟨m - 1, by omega⟩
    obtain ⟨e1, e2⟩ := idE_nm hns (pathK_stop (l := l) hr)
    have e0 : pathK (s :: l) ++ rest = 46 :: (s ++ (pathK l ++ rest)) := by rw [pathK_cons]; simp
    rw [e0, dotsM]
    have c1 : (decide (1 < (46 :: (s ++ (pathK l ++ rest))).length) && (46 :: (s ++ (pathK l ++ rest))).getD 0 0 == 46) = true := by
      rw [dT (by simp; omega)]; rfl
    have d1 : (46 :: (s ++ (pathK l ++ rest))).drop 1 = s ++ (pathK l ++ rest) := rfl
    have d2 : (46 :: (s ++ (pathK l ++ rest))).drop (1 + s.length) = pathK l ++ rest := by
      rw [Nat.add_comm, List.drop_succ_cons, List.drop_left]
    rw [c1, d1, e1, e2, d2, dots_path l rest m (fun x hx => hs x (by simp [hx])) hr (by omega), pathK_cons]
    simp only [cond_true, beq_self_eq_true, List.length_cons, List.length_append, Prod.mk.injEq, true_and]
    omega
/-- a word that is read as it is told -/
def Tok (t : List UInt8) (kind : Int) (text : List UInt8) : Prop := t ≠ [] ∧ blk (t.getD 0 0) = false ∧ ∀ rest, stopB rest → oneM (t ++ rest) = ⟨0, 0, kind, text, t.length⟩
theorem take_left' (t rest : List UInt8) : (t ++ rest).take t.length = t := List.take_left
theorem tok_name {s : List UInt8} (h : isNm s) : Tok s 1 s := by
  have h0 : ∀ rest, (s ++ rest).getD 0 0 = s.getD 0 0 := fun rest => by
    cases s with
    | nil => exact absurd rfl h.1
    | cons c t => rfl
  refine ⟨h.1, ?_, fun rest hr => ?_⟩
  · have hc : ∀ n : Fin 256, (ltr (UInt8.ofNat n) || UInt8.ofNat n == 95) = true → blk (UInt8.ofNat n) = false := by decide +kernel
    have := hc ⟨(s.getD 0 0).toNat, (s.getD 0 0).toNat_lt⟩
    simp only [UInt8.ofNat_toNat] at this
    exact this h.2.2.2
  · obtain ⟨e1, e2⟩ := idE_nm h (stop_nm hr)
    unfold oneM
    rw [h0, h.2.2.2, cond_true, e1, e2]
    unfold cutR
    rw [take_left']
theorem tok_path {l : List (List UInt8)} (h : ∀ s ∈ l, isNm s) : Tok (46 :: Lib.join l [46]) 2 (46 :: Lib.join l [46]) := by
  refine ⟨by simp, by show blk 46 = false; decide, fun rest hr => ?_⟩
  unfold oneM
  have f0 : (46 :: Lib.join l [46] ++ rest).getD 0 0 = (46 : UInt8) := rfl
  rw [f0, show (ltr 46 || (46 : UInt8) == 95) = false by decide, show ((46 : UInt8) == 46) = true from rfl, cond_false, cond_true]
  have key : dotM (46 :: Lib.join l [46] ++ rest) = (0, (46 :: Lib.join l [46]).length) := by
    unfold dotM
    cases l with
    | nil =>
      have : hd1 (46 :: Lib.join [] [46] ++ rest) = false := by
        rcases hr with rfl | ⟨r, rfl⟩
        · rfl
        · show (decide (1 < (46 :: 32 :: r).length) && (ltr 32 || (32 : UInt8) == 95)) = false
          rw [show (ltr 32 || (32 : UInt8) == 95) = false by decide, Bool.and_false]
      rw [this]; rfl
    | cons s l =>
      have hs := h s (by simp)
      have e : 46 :: Lib.join (s :: l) [46] = pathK (s :: l) := by rw [join_pathK, pathK_cons]
      have hp : 0 < s.length := List.length_pos_iff.2 hs.1
      rw [e, dots_path (s :: l) rest _ h hr (by simp)]
      have : hd1 (pathK (s :: l) ++ rest) = true := by
        unfold hd1
        rw [pathK_cons]
        have g : (46 :: (s ++ pathK l) ++ rest).getD 1 0 = s.getD 0 0 := by
          cases s with
          | nil => exact absurd rfl hs.1
          | cons c t => rfl
        rw [g, hs.2.2.2, dT (by simp; omega)]
        rfl
      rw [this]; rfl
  rw [key]
  unfold cutR
  rw [take_left']
theorem tok_var {nm : List UInt8} {l : List (List UInt8)} (hn : nm = [] ∨ isNm nm) (h : ∀ s ∈ l, isNm s) : Tok (Lib.join ((36 :: nm) :: l) [46]) 3 (Lib.join ((36 :: nm) :: l) [46]) := by
  rw [join_pathK]
  refine ⟨by simp, by show blk 36 = false; decide, fun rest hr => ?_⟩
  unfold oneM
  have f0 : ((36 :: nm) ++ pathK l ++ rest).getD 0 0 = (36 : UInt8) := rfl
  rw [f0, show (ltr 36 || (36 : UInt8) == 95) = false by decide, show ((36 : UInt8) == 46) = false from rfl, show ((36 : UInt8) == 36) = true from rfl, cond_false, cond_false, cond_true]
  have e : (36 :: nm) ++ pathK l ++ rest = 36 :: (nm ++ (pathK l ++ rest)) := by simp
  have key : dollarM ((36 :: nm) ++ pathK l ++ rest) = (0, ((36 :: nm) ++ pathK l).length) := by
    unfold dollarM
    rw [e]
    have d1 : (36 :: (nm ++ (pathK l ++ rest))).drop 1 = nm ++ (pathK l ++ rest) := rfl
    rcases hn with rfl | hn
    · have : hd1 (36 :: ([] ++ (pathK l ++ rest))) = false := by
        unfold hd1
        have : (ltr ((36 :: ([] ++ (pathK l ++ rest))).getD 1 0) || (36 :: ([] ++ (pathK l ++ rest))).getD 1 0 == 95) = false ∨ ([] ++ (pathK l ++ rest) : List UInt8) = [] := by
          cases l with
          | nil =>
            rcases hr with rfl | ⟨r, rfl⟩
            · exact .inr rfl
            · exact .inl (by show (ltr 32 || (32 : UInt8) == 95) = false; decide)
          | cons s l => exact .inl (by rw [pathK_cons]; show (ltr 46 || (46 : UInt8) == 95) = false; decide)
        rcases this with g | g
        · rw [g, Bool.and_false]
        · rw [g]; rfl
      rw [this, d1, List.nil_append, dots_path l rest _ h hr (by simp; omega)]
      simp only [cond_false, List.length_append, List.length_cons, List.length_nil]
    · obtain ⟨e1, e2⟩ := idE_nm hn (pathK_stop (l := l) hr)
      have hp : 0 < nm.length := List.length_pos_iff.2 hn.1
      have : hd1 (36 :: (nm ++ (pathK l ++ rest))) = true := by
        unfold hd1
        have g : (36 :: (nm ++ (pathK l ++ rest))).getD 1 0 = nm.getD 0 0 := by
          cases nm with
          | nil => exact absurd rfl hn.1
          | cons c t => rfl
        rw [g, hn.2.2.2, dT (by simp; omega)]
        rfl
      have d2 : (36 :: (nm ++ (pathK l ++ rest))).drop (1 + nm.length) = pathK l ++ rest := by
        rw [Nat.add_comm, List.drop_succ_cons, List.drop_left]
      rw [this, d1, e1, e2, d2, dots_path l rest _ h hr (by simp; omega)]
      simp only [cond_true, beq_self_eq_true, List.length_append, List.length_cons, Prod.mk.injEq, true_and]
      omega
  rw [key]
  unfold cutR
  rw [take_left']
theorem tok_quote (s : List UInt8) (h : s.length ≤ 4096) : Tok (quoteM s) 5 s := by
  refine ⟨by simp [quoteM], by show blk 34 = false; decide, fun rest hr => ?_⟩
  rw [one_quote, dT h]; rfl
theorem tok_bar : Tok [124] 6 [124] := by
  refine ⟨by simp, by decide, fun rest hr => ?_⟩
  unfold oneM
  have f0 : ([124] ++ rest).getD 0 0 = (124 : UInt8) := rfl
  rw [f0]
  have hp : [58, 61].isPrefixOf ([124] ++ rest) = false := rfl
  rw [show (ltr 124 || (124 : UInt8) == 95) = false by decide, show ((124 : UInt8) == 46) = false from rfl, show ((124 : UInt8) == 36) = false from rfl, show ((124 : UInt8) == 45 || dig 124) = false by decide, show ((124 : UInt8) == 34) = false from rfl, hp]
  rfl
end Go.Mu
set_option linter.unusedVariables false
set_option linter.unusedSimpArgs false
set_option maxRecDepth 100000
namespace Go.Mu
open Go Go.Proofs
/-- digits' value -/
def valD (n : Nat) (t : List UInt8) : Nat := t.foldl (fun n c => n * 10 + (c.toNat - 48)) n
theorem valD_cons (n : Nat) (c : UInt8) (t : List UInt8) : valD n (c :: t) = valD (n * 10 + (c.toNat - 48)) t := by unfold valD; rw [List.foldl_cons]
theorem valD_ge (t : List UInt8) : ∀ n : Nat, n ≤ valD n t := by
  induction t with
  | nil => intro n; exact Nat.le_refl n
  | cons c t ih =>
    intro n
    rw [valD_cons]
    have h1 := ih (n * 10 + (c.toNat - 48))
    have h2 : n ≤ n * 10 + (c.toNat - 48) := by omega
    exact Nat.le_trans h2 h1
theorem numL_val : ∀ (t : List UInt8) (n : Nat), valD n t ≤ 9223372036854775808 → numL n t = (false, valD n t)
  | [], n, h => rfl
  | c :: t, n, h => by
    rw [valD_cons] at h
    have := valD_ge t (n * 10 + (c.toNat - 48))
    rw [numL, dF (by omega), cond_false, valD_cons]
    exact numL_val t _ h
theorem dg_nat (u : Nat) : (UInt8.ofNat (48 + u % 10)).toNat = 48 + u % 10 := by
  have : u % 10 < 10 := Nat.mod_lt _ (by decide)
  rw [UInt8.toNat_ofNat', Nat.mod_eq_of_lt (show 48 + u % 10 < 2 ^ 8 by omega)]
theorem dg_dig (u : Nat) : dig (UInt8.ofNat (48 + u % 10)) = true := by
  have : u % 10 < 10 := Nat.mod_lt _ (by decide)
  unfold dig
  rw [dg_nat, dT (by omega), dT (by omega)]; rfl
theorem digs_val : ∀ (f u : Nat) (t : List UInt8), 0 < f → u < 10 ^ f → valD 0 (digsF f u t) = valD u t
  | 0, u, t, h, _ => absurd h (by decide)
  | f + 1, u, t, _, hu => by
    rw [digsF]
    cases hq : u / 10 == 0 with
    | true =>
      have : u / 10 = 0 := by simpa using hq
      rw [cond_true, valD_cons, dg_nat]
      congr 1; omega
    | false =>
      have h0 : u / 10 ≠ 0 := by simpa using hq
      rw [cond_false]
      have hf : 0 < f := by
        cases f with
        | zero => simp at hu; omega
        | succ f => omega
      rw [digs_val f (u / 10) _ hf (by rw [Nat.pow_succ] at hu; omega), valD_cons, dg_nat]
      congr 1; omega
theorem digs_all : ∀ (f u : Nat) (t : List UInt8), (∀ c ∈ t, dig c = true) → ∀ c ∈ digsF f u t, dig c = true
  | 0, u, t, h => h
  | f + 1, u, t, h => by
    have h2 : ∀ c ∈ UInt8.ofNat (48 + u % 10) :: t, dig c = true := fun c hc => by
      rcases List.mem_cons.1 hc with rfl | hc
      · exact dg_dig u
      · exact h c hc
    rw [digsF]
    cases u / 10 == 0 with
    | true => exact h2
    | false => exact digs_all f (u / 10) _ h2
theorem digs_head : ∀ (f u : Nat) (t : List UInt8), 0 < f → 0 < u → u < 10 ^ f → digsF f u t ≠ [] ∧ (digsF f u t).getD 0 0 ≠ 48
  | 0, u, t, h, _, _ => absurd h (by decide)
  | f + 1, u, t, _, h0, hu => by
    rw [digsF]
    cases hq : u / 10 == 0 with
    | true =>
      have : u / 10 = 0 := by simpa using hq
      refine ⟨by simp, fun h => ?_⟩
      have h2 := congrArg UInt8.toNat h
      rw [cond_true, List.getD_cons_zero, dg_nat] at h2
      have : (48 : UInt8).toNat = 48 := rfl
      omega
    | false =>
      have h1 : u / 10 ≠ 0 := by simpa using hq
      have hf : 0 < f := by
        cases f with
        | zero => simp at hu; omega
        | succ f => omega
      exact digs_head f (u / 10) _ hf (by omega) (by rw [Nat.pow_succ] at hu; omega)
/-- what a number's digits are -/
theorem digs_fact (u : Nat) (h : u ≤ 9223372036854775808) : digsF 19 u [] ≠ [] ∧ (∀ c ∈ digsF 19 u [], dig c = true) ∧ numL 0 (digsF 19 u []) = (false, u) ∧ ((digsF 19 u []).getD 0 0 = 48 → u = 0 ∧ digsF 19 u [] = [48]) := by
  have hv := digs_val 19 u [] (by decide) (by omega)
  have e : valD u [] = u := rfl
  rw [e] at hv
  refine ⟨?_, digs_all 19 u [] (fun c hc => by cases hc), ?_, fun h48 => ?_⟩
  · by_cases h0 : u = 0
    · subst h0; decide
    · exact (digs_head 19 u [] (by decide) (by omega) (by omega)).1
  · rw [numL_val _ _ (by rw [hv]; exact h), hv]
  · by_cases h0 : u = 0
    · subst h0; exact ⟨rfl, rfl⟩
    · exact absurd h48 (digs_head 19 u [] (by decide) (by omega) (by omega)).2
theorem nd_all {l : List UInt8} (h : ∀ c ∈ l, dig c = true) : l.any ndC = false := by
  rw [List.any_eq_false]
  intro c hc
  rw [nd_dig, h c hc]; simp
theorem numM_print (n : Int) (h1 : -9223372036854775808 ≤ n) (h2 : n ≤ 9223372036854775807) : numM (printM n) = (n, 0) := by
  obtain ⟨d1, d2, d3, d4⟩ := digs_fact n.natAbs (by omega)
  unfold printM
  by_cases h0 : n < 0
  · rw [dT h0, cond_true]
    unfold numM
    have e1 : [45].isPrefixOf (45 :: digsF 19 n.natAbs []) = true := rfl
    have e2 : (45 :: digsF 19 n.natAbs []).drop 1 = digsF 19 n.natAbs [] := rfl
    have e3 : (digsF 19 n.natAbs [] == []) = false := by simpa using d1
    have e4 : ((digsF 19 n.natAbs []).getD 0 0 == 48) = false := by
      simp only [beq_eq_false_iff_ne, ne_eq]
      intro h
      have := (d4 h).1
      omega
    rw [e1, e2, e3, nd_all d2, e4, d3]
    simp only [cond_true, cond_false, Bool.or_self]
    rw [show (-(n.natAbs : Int)) = n by omega]
  · rw [dF h0, cond_false]
    unfold numM
    have e1 : [45].isPrefixOf (digsF 19 n.natAbs []) = false := by
      cases hd : digsF 19 n.natAbs [] with
      | nil => rfl
      | cons c t =>
        have := d2 c (by rw [hd]; simp)
        have hc : c ≠ 45 := fun e => by subst e; exact absurd this (by decide)
        simp [List.isPrefixOf, hc.symm]
    have e3 : (digsF 19 n.natAbs [] == []) = false := by simpa using d1
    have e4 : ((digsF 19 n.natAbs []).getD 0 0 == 48 && decide (1 < (digsF 19 n.natAbs []).length)) = false := by
      cases hb : (digsF 19 n.natAbs []).getD 0 0 == 48 with
      | false => rfl
      | true =>
        have := (d4 (by simpa using hb)).2
        rw [this]; rfl
    rw [e1, e3, nd_all d2, e4, d3]
    simp only [cond_false, Bool.or_self]
    rw [dF (by omega), cond_false]
    rw [show ((n.natAbs : Nat) : Int) = n by omega]
theorem dgN_all : ∀ {s rest : List UInt8}, (∀ c ∈ s, dig c = true) → stopB rest → dgN (s ++ rest) = s.length
  | [], rest, _, h => by
    rcases h with rfl | ⟨r, rfl⟩
    · rfl
    · rw [List.nil_append, dgN_cons]; rfl
  | c :: s, rest, hs, h => by
    rw [List.cons_append, dgN_cons, hs c (by simp), dgN_all (fun d hd => hs d (by simp [hd])) h]
    rfl
theorem tok_num (n : Int) (h1 : -9223372036854775808 ≤ n) (h2 : n ≤ 9223372036854775807) : Tok (printM n) 4 (printM n) := by
  obtain ⟨d1, d2, d3, d4⟩ := digs_fact n.natAbs (by omega)
  have hm := numM_print n h1 h2
  -- a sign or digits
  obtain ⟨c, D, hp, hc, hD⟩ : ∃ c D, printM n = c :: D ∧ (c == 45 || dig c) = true ∧ ∀ x ∈ D, dig x = true := by
    unfold printM
    by_cases h0 : n < 0
    · rw [dT h0]; exact ⟨45, _, rfl, rfl, d2⟩
    · rw [dF h0, cond_false]
      cases hd : digsF 19 n.natAbs [] with
      | nil => exact absurd hd d1
      | cons c t =>
        rw [hd] at d2
        exact ⟨c, t, rfl, by rw [d2 c (by simp), Bool.or_true], fun x hx => d2 x (by simp [hx])⟩
  have hall : ∀ m : Fin 256, (UInt8.ofNat m == 45 || dig (UInt8.ofNat m)) = true → blk (UInt8.ofNat m) = false ∧ (ltr (UInt8.ofNat m) || UInt8.ofNat m == 95) = false ∧ (UInt8.ofNat m == 46) = false ∧ (UInt8.ofNat m == 36) = false := by decide +kernel
  have hcc := hall ⟨c.toNat, c.toNat_lt⟩
  simp only [UInt8.ofNat_toNat] at hcc
  obtain ⟨g1, g2, g3, g4⟩ := hcc hc
  rw [hp]
  refine ⟨by simp, g1, fun rest hr => ?_⟩
  have f0 : (c :: D ++ rest).getD 0 0 = c := rfl
  have hk : digM (c :: D ++ rest) = (0, (c :: D).length) := by
    unfold digM
    have e1 : (c :: D ++ rest).drop 1 = D ++ rest := rfl
    have e2 : (c :: D ++ rest).take (1 + D.length) = c :: D := by
      rw [show 1 + D.length = (c :: D).length by simp; omega]
      exact List.take_left
    rw [e1, dgN_all hD hr, e2, ← hp, hm]
    rw [hp, List.length_cons, Nat.add_comm]
    rfl
  unfold oneM
  rw [f0, g2, g3, g4, hc, cond_false, cond_false, cond_false, cond_true, hk]
  unfold cutR
  rw [take_left']
/- parting at dots -/
theorem idxB_none : ∀ {s : List UInt8}, (46 : UInt8) ∉ s → Lib.indexByte s 46 = -1
  | [], _ => rfl
  | c :: s, h => by
    have hc : (c == 46) = false := by
      simp only [beq_eq_false_iff_ne, ne_eq]
      intro e; exact h (by simp [e])
    rw [Lib.indexByte, hc, idxB_none (fun hm => h (by simp [hm]))]
    rfl
theorem idxB_hit : ∀ {s : List UInt8} (rest : List UInt8), (46 : UInt8) ∉ s → Lib.indexByte (s ++ 46 :: rest) 46 = (s.length : Int)
  | [], rest, _ => rfl
  | c :: s, rest, h => by
    have hc : (c == 46) = false := by
      simp only [beq_eq_false_iff_ne, ne_eq]
      intro e; exact h (by simp [e])
    rw [List.cons_append, Lib.indexByte, hc, idxB_hit rest (fun hm => h (by simp [hm]))]
    have : ((s.length : Int) == -1) = false := by
      simp only [beq_eq_false_iff_ne, ne_eq]; omega
    rw [this]
    simp
theorem splitM_eq (s : List UInt8) : splitM s [46] = Lib.splitK [46] 0 (Lib.count s [46]) s := by
  unfold splitM
  rw [Lib.splitB_data]
  rfl
theorem splitK_join : ∀ (l : List (List UInt8)) (s : List UInt8), (46 : UInt8) ∉ s → (∀ x ∈ l, (46 : UInt8) ∉ x) → Lib.count (s ++ pathK l) [46] = l.length ∧ Lib.splitK [46] 0 l.length (s ++ pathK l) = s :: l
  | [], s, hs, _ => by
    have e : s ++ pathK [] = s := by simp [pathK]
    rw [e]
    have hi : Lib.index s [46] = -1 := by rw [Lib.index_one]; exact idxB_none hs
    exact ⟨Lib.count_miss hi, rfl⟩
  | x :: l, s, hs, hl => by
    have e : s ++ pathK (x :: l) = s ++ 46 :: (x ++ pathK l) := by rw [pathK_cons]
    rw [e]
    have hi : Lib.index (s ++ 46 :: (x ++ pathK l)) [46] = (s.length : Int) := by rw [Lib.index_one]; exact idxB_hit _ hs
    obtain ⟨i1, i2⟩ := splitK_join l x (hl x (by simp)) (fun y hy => hl y (by simp [hy]))
    have ed : (s ++ 46 :: (x ++ pathK l)).drop (s.length + 1) = x ++ pathK l := by
      rw [show s ++ 46 :: (x ++ pathK l) = (s ++ [46]) ++ (x ++ pathK l) by simp, show s.length + 1 = (s ++ [46]).length by simp]
      exact List.drop_left
    refine ⟨?_, ?_⟩
    · rw [Lib.count_hit (by simp) hi]
      show 1 + Lib.count ((s ++ 46 :: (x ++ pathK l)).drop (s.length + 1)) [46] = _
      rw [ed, i1, List.length_cons, Nat.add_comm]
    · rw [List.length_cons, Lib.splitK]
      have : (Lib.index (s ++ 46 :: (x ++ pathK l)) [46] == -1) = false := by
        rw [hi]
        simp only [beq_eq_false_iff_ne, ne_eq]; omega
      rw [this, hi]
      simp only [Int.toNat_natCast, Nat.add_zero]
      show (s ++ 46 :: (x ++ pathK l)).take s.length :: Lib.splitK [46] 0 l.length ((s ++ 46 :: (x ++ pathK l)).drop (s.length + 1)) = _
      rw [ed, i2, List.take_left]
theorem steps_join {l : List (List UInt8)} (h : ∀ s ∈ l, isNm s) : stepsM (46 :: Lib.join l [46]) = l := by
  cases l with
  | nil => rfl
  | cons s l =>
    have hs := h s (by simp)
    have hp : 0 < s.length := List.length_pos_iff.2 hs.1
    unfold stepsM
    have e0 : (46 :: Lib.join (s :: l) [46] == [46] || 46 :: Lib.join (s :: l) [46] == []) = false := by
      rw [Bool.or_eq_false_iff]
      refine ⟨?_, rfl⟩
      simp only [beq_eq_false_iff_ne, ne_eq]
      intro e
      rw [join_pathK] at e
      have := congrArg List.length e
      rw [List.length_cons, List.length_append] at this
      have h1 : ([46] : List UInt8).length = 1 := rfl
      omega
    rw [e0, cond_false]
    show splitM (Lib.join (s :: l) [46]) [46] = _
    obtain ⟨i1, i2⟩ := splitK_join l s (isNm_46 hs) (fun x hx => isNm_46 (h x (by simp [hx])))
    rw [join_pathK, splitM_eq, i1, i2]
/-- a variable's name and path, parted -/
theorem cut_var {nm : List UInt8} {l : List (List UInt8)} (hn : (46 : UInt8) ∉ nm) (h : ∀ s ∈ l, isNm s) : (Lib.cut (nm ++ pathK l) [46]).1 = nm ∧ stepsM (varRest (nm ++ pathK l)) = l := by
  cases l with
  | nil =>
    have e : nm ++ pathK [] = nm := by simp [pathK]
    have hi : Lib.index nm [46] = -1 := by rw [Lib.index_one]; exact idxB_none hn
    rw [e]
    unfold varRest Lib.cut
    rw [hi]
    exact ⟨rfl, rfl⟩
  | cons s l =>
    have e : nm ++ pathK (s :: l) = nm ++ 46 :: (s ++ pathK l) := by rw [pathK_cons]
    have hi : Lib.index (nm ++ 46 :: (s ++ pathK l)) [46] = (nm.length : Int) := by rw [Lib.index_one]; exact idxB_hit _ hn
    have hc : Lib.cut (nm ++ pathK (s :: l)) [46] = (nm, s ++ pathK l, true) := by
      unfold Lib.cut
      rw [e, hi, if_pos (by omega), Int.toNat_natCast, List.take_left]
      show (nm, (nm ++ 46 :: (s ++ pathK l)).drop (nm.length + 1), true) = _
      rw [show nm ++ 46 :: (s ++ pathK l) = (nm ++ [46]) ++ (s ++ pathK l) by simp, show nm.length + 1 = (nm ++ [46]).length by simp, List.drop_left]
    unfold varRest
    rw [hc]
    refine ⟨rfl, ?_⟩
    show stepsM (46 :: (s ++ pathK l)) = _
    rw [← join_pathK]
    exact steps_join h
end Go.Mu
set_option linter.unusedVariables false
set_option linter.unusedSimpArgs false
set_option maxRecDepth 100000
namespace Go.Mu
open Go Go.Proofs
def kx (w : WdD) : Int × List UInt8 := (w.kind, w.text)
def setP (a : ArgD) : ArgD := { a with pf := true }
structure ArgF (a : ArgD) : Prop where
  p1 : ∀ s ∈ a.path, isNm s
  p2 : a.path.length ≤ 16
  p3 : 1 ≤ a.kind ∧ a.kind ≤ 7
  p4 : (a.kind = 2 ∧ isNm a.name) ∨ a.name = []
  p5 : a.kind ≤ 2 ∨ a.path = []
  p6 : a.kind = 3 ∨ a.int = 0
  p7 : a.kind = 4 ∨ a.text = []
  p8 : a.text.length ≤ 4096
theorem argB_f {a : ArgD} (h : argB a = true) : ArgF a := by
  unfold argB pBad pArgT at h
  simp only [bif_and, bif_or, Bool.and_eq_true, Bool.or_eq_true, decide_eq_true_eq, Bool.not_eq_true', List.any_eq_false, beq_iff_eq] at h
  obtain ⟨⟨h1, h2⟩, ⟨⟨⟨⟨⟨h3, h4⟩, h5⟩, h6⟩, h7⟩, h8⟩⟩ := h
  refine ⟨fun s hs => nameB_nm (by simpa using h1 s hs), h2, h3, ?_, ?_, h6, h7, by omega⟩
  · rcases h4 with ⟨k, h4⟩ | h4
    · rcases h4 with h4 | h4
      · exact .inr h4
      · exact .inl ⟨k, nameB_nm h4⟩
    · exact .inr h4
  · rcases h5 with h5 | h5
    · exact .inl h5
    · exact .inr (List.eq_nil_of_length_eq_zero (by omega))
theorem pathK_len : ∀ (l : List (List UInt8)), (∀ s ∈ l, isNm s) → (pathK l).length ≤ 33 * l.length
  | [], _ => Nat.le_refl _
  | s :: l, h => by
    have := pathK_len l (fun x hx => h x (by simp [hx]))
    have := (h s (by simp)).2.1
    rw [pathK_cons, List.length_cons, List.length_append, List.length_cons]
    omega
theorem tok_cTrue : Tok cTrue 1 cTrue := tok_name ⟨by decide, by decide, by decide, by decide⟩
theorem tok_cFalse : Tok cFalse 1 cFalse := tok_name ⟨by decide, by decide, by decide, by decide⟩
theorem tok_cNil : Tok cNil 1 cNil := tok_name ⟨by decide, by decide, by decide, by decide⟩
/-- a word that is read as an argument -/
def AW (a : ArgD) (w : WdD) : Prop := argE w = 0 ∧ argA w = setP a ∧ w.kind ≠ 6 ∧ isName w = false ∧ okWd w
theorem isC_no {w : WdD} (h : w.kind ≠ 1) : isC w = false := by
  unfold isC
  have : (w.kind == 1) = false := by simpa using h
  rw [this]; rfl
theorem isName_no {w : WdD} (h : w.kind ≠ 1) : isName w = false := by
  unfold isName
  have : (w.kind != 1) = true := by simp [bne, h]
  rw [this]; rfl
theorem steps_ok16 {s : List UInt8} {l : List (List UInt8)} (h : stepsM s = l) (hl : l.length ≤ 16) : stepsB s = true := by
  unfold stepsB; rw [h]; exact dT hl
theorem arg_tok {a : ArgD} (h : argB a = true) (hi : -9223372036854775808 ≤ a.int ∧ a.int ≤ 9223372036854775807) : ∃ k t, Tok (wordM a) k t ∧ ∀ w : WdD, kx w = (k, t) → AW a w := by
  obtain ⟨p1, p2, p3, p4, p5, p6, p7, p8⟩ := argB_f h
  obtain ⟨kd, nm, pf, path, int, text⟩ := a
  simp only at p1 p2 p3 p4 p5 p6 p7 p8 hi
  have hk : kd = 1 ∨ kd = 2 ∨ kd = 3 ∨ kd = 4 ∨ kd = 5 ∨ kd = 6 ∨ kd = 7 := by omega
  have hl := pathK_len path p1
  have kc : ∀ {w : WdD} {k : Int} {t : List UInt8}, kx w = (k, t) → w.kind = k ∧ w.text = t := fun h => by
    simp only [kx, Prod.mk.injEq] at h; exact h
  rcases hk with rfl | rfl | rfl | rfl | rfl | rfl | rfl
  · -- a path
    have h4 : nm = [] := p4.resolve_left (fun h => absurd h.1 (by decide))
    have h6 : int = 0 := p6.resolve_left (fun h => absurd h (by decide))
    have h7 : text = [] := p7.resolve_left (fun h => absurd h (by decide))
    subst h4 h6 h7
    refine ⟨2, 46 :: Lib.join path [46], tok_path p1, fun w hw => ?_⟩
    obtain ⟨e1, e2⟩ := kc hw
    have hs := steps_join p1
    have c0 := isC_no (w := w) (by rw [e1]; decide)
    refine ⟨?_, ?_, by rw [e1]; decide, isName_no (by rw [e1]; decide), ?_, by rw [e1]; intro h; exact absurd h (by decide)⟩
    · unfold argE; rw [c0, e1, e2, steps_ok16 hs p2]; rfl
    · unfold argA setP; rw [c0, e1, e2, hs]; rfl
    · rw [e2]
      cases path with
      | nil => show 1 ≤ 1048576; omega
      | cons s l =>
        rw [join_pathK, List.length_cons, List.length_append]
        rw [pathK_cons, List.length_cons, List.length_append, List.length_cons] at hl
        rw [List.length_cons] at p2
        omega
  · -- a variable
    have h4 : nm = [] ∨ isNm nm := p4.elim (fun h => .inr h.2) .inl
    have h6 : int = 0 := p6.resolve_left (fun h => absurd h (by decide))
    have h7 : text = [] := p7.resolve_left (fun h => absurd h (by decide))
    subst h6 h7
    refine ⟨3, Lib.join ((36 :: nm) :: path) [46], tok_var h4 p1, fun w hw => ?_⟩
    obtain ⟨e1, e2⟩ := kc hw
    have h46 : (46 : UInt8) ∉ nm := by
      rcases h4 with rfl | h
      · simp
      · exact isNm_46 h
    obtain ⟨c1, c2⟩ := cut_var h46 p1
    have c0 := isC_no (w := w) (by rw [e1]; decide)
    have ed : (Lib.join ((36 :: nm) :: path) [46]).drop 1 = nm ++ pathK path := by rw [join_pathK]; rfl
    refine ⟨?_, ?_, by rw [e1]; decide, isName_no (by rw [e1]; decide), ?_, fun _ => by rw [e2, join_pathK]; simp⟩
    · unfold argE; rw [c0, e1, e2, ed, steps_ok16 c2 p2]; rfl
    · unfold argA setP; rw [c0, e1, e2, ed, c1, c2]; rfl
    · rw [e2, join_pathK, List.length_append, List.length_cons]
      have : nm.length ≤ 32 := by
        rcases h4 with rfl | h
        · exact Nat.zero_le _
        · exact h.2.1
      omega
  · -- a number
    have h4 : nm = [] := p4.resolve_left (fun h => absurd h.1 (by decide))
    have h5 : path = [] := p5.resolve_left (fun h => absurd h (by decide))
    have h7 : text = [] := p7.resolve_left (fun h => absurd h (by decide))
    subst h4 h5 h7
    refine ⟨4, printM int, tok_num int hi.1 hi.2, fun w hw => ?_⟩
    obtain ⟨e1, e2⟩ := kc hw
    have c0 := isC_no (w := w) (by rw [e1]; decide)
    refine ⟨?_, ?_, by rw [e1]; decide, isName_no (by rw [e1]; decide), ?_, by rw [e1]; intro h; exact absurd h (by decide)⟩
    · unfold argE; rw [c0, e1]; rfl
    · unfold argA setP; rw [c0, e1, e2, numM_print int hi.1 hi.2]; rfl
    · rw [e2]
      have := digsF_len 19 int.natAbs []
      simp only [List.length_nil, Nat.zero_add] at this
      unfold printM
      cases decide (int < 0)
      · simp only [cond_false]; omega
      · simp only [cond_true, List.length_cons]; omega
  · -- a text
    have h4 : nm = [] := p4.resolve_left (fun h => absurd h.1 (by decide))
    have h5 : path = [] := p5.resolve_left (fun h => absurd h (by decide))
    have h6 : int = 0 := p6.resolve_left (fun h => absurd h (by decide))
    subst h4 h5 h6
    refine ⟨5, text, tok_quote text p8, fun w hw => ?_⟩
    obtain ⟨e1, e2⟩ := kc hw
    have c0 := isC_no (w := w) (by rw [e1]; decide)
    refine ⟨?_, ?_, by rw [e1]; decide, isName_no (by rw [e1]; decide), by rw [e2]; omega, by rw [e1]; intro h; exact absurd h (by decide)⟩
    · unfold argE; rw [c0, e1]; rfl
    · unfold argA setP; rw [c0, e1, e2]; rfl
  all_goals
    have h4 : nm = [] := p4.resolve_left (fun h => absurd h.1 (by decide))
    have h5 : path = [] := p5.resolve_left (fun h => absurd h (by decide))
    have h6 : int = 0 := p6.resolve_left (fun h => absurd h (by decide))
    have h7 : text = [] := p7.resolve_left (fun h => absurd h (by decide))
    subst h4 h5 h6 h7
  · refine ⟨1, cTrue, tok_cTrue, fun w hw => ?_⟩
    obtain ⟨e1, e2⟩ := kc hw
    obtain ⟨k, t, p⟩ := w
    simp only at e1 e2
    subst e1 e2
    exact ⟨rfl, rfl, by show (1 : Int) ≠ 6; decide, rfl, by show 4 ≤ 1048576; omega, fun h => absurd h (by show ¬ (1 : Int) = 3; decide)⟩
  · refine ⟨1, cFalse, tok_cFalse, fun w hw => ?_⟩
    obtain ⟨e1, e2⟩ := kc hw
    obtain ⟨k, t, p⟩ := w
    simp only at e1 e2
    subst e1 e2
    exact ⟨rfl, rfl, by show (1 : Int) ≠ 6; decide, rfl, by show 5 ≤ 1048576; omega, fun h => absurd h (by show ¬ (1 : Int) = 3; decide)⟩
  · refine ⟨1, cNil, tok_cNil, fun w hw => ?_⟩
    obtain ⟨e1, e2⟩ := kc hw
    obtain ⟨k, t, p⟩ := w
    simp only at e1 e2
    subst e1 e2
    exact ⟨rfl, rfl, by show (1 : Int) ≠ 6; decide, rfl, by show 3 ≤ 1048576; omega, fun h => absurd h (by show ¬ (1 : Int) = 3; decide)⟩
/-- a token: its text, and as what it is read -/
abbrev TK := List UInt8 × Int × List UInt8
def TokOK (x : TK) : Prop := Tok x.1 x.2.1 x.2.2
def inR (a : ArgD) : Prop := -9223372036854775808 ≤ a.int ∧ a.int ≤ 9223372036854775807
theorem map_cons_inv {α β : Type} {f : α → β} {l : List α} {b : β} {bs : List β} (h : l.map f = b :: bs) : ∃ a r, l = a :: r ∧ f a = b ∧ r.map f = bs := by
  cases l with
  | nil => cases h
  | cons a r =>
    rw [List.map_cons, List.cons.injEq] at h
    exact ⟨a, r, rfl, h.1, h.2⟩
/-- arguments -/
theorem args_tok : ∀ (l : List ArgD), (∀ a ∈ l, argB a = true) → (∀ a ∈ l, inR a) → ∃ ts : List TK, l.map wordM = ts.map (·.1) ∧ (∀ x ∈ ts, TokOK x) ∧ ts.length = l.length ∧ ∀ ws : List WdD, ws.map kx = ts.map (·.2) → argsM ws = (l.map setP, none) ∧ ∀ w ∈ ws, w.kind ≠ 6 ∧ okWd w
  | [], _, _ => ⟨[], rfl, fun x hx => (by cases hx), rfl, fun ws h => by
    have : ws = [] := List.map_eq_nil_iff.1 h
    subst this
    exact ⟨rfl, fun w hw => (by cases hw)⟩⟩
  | a :: l, hb, hr => by
    obtain ⟨ts, h1, h2, h3, h4⟩ := args_tok l (fun x hx => hb x (by simp [hx])) (fun x hx => hr x (by simp [hx]))
    obtain ⟨k, t, g1, g2⟩ := arg_tok (hb a (by simp)) (hr a (by simp))
    refine ⟨(wordM a, k, t) :: ts, by simp [h1], fun x hx => ?_, by simp [h3], fun ws h => ?_⟩
    · rcases List.mem_cons.1 hx with rfl | hx
      · exact g1
      · exact h2 x hx
    · obtain ⟨w, r, rfl, e1, e2⟩ := map_cons_inv h
      obtain ⟨b1, b2, b3, b4, b5⟩ := g2 w e1
      obtain ⟨c1, c2⟩ := h4 r e2
      refine ⟨?_, fun x hx => ?_⟩
      · rw [argsM, b1, b2, c1]; rfl
      · rcases List.mem_cons.1 hx with rfl | hx
        · exact ⟨b3, b5⟩
        · exact c2 x hx
theorem all2_set : ∀ l : List ArgD, all2 argEq l (l.map setP) = true
  | [] => rfl
  | a :: l => by
    rw [List.map_cons, all2, all2_set l, Bool.and_true]
    exact argEq_refl a
/-- a function's name -/
theorem ar_name {s : List UInt8} (h : (ar s).2.2 = true) : isNm s ∧ constM s < 0 := by
  unfold ar at h
  have key : ∀ x ∈ ([[108, 101, 110], [110, 111, 116], [117, 112, 112, 101, 114], [108, 111, 119, 101, 114], [101, 113], [108, 116], [97, 110, 100], [111, 114], [106, 111, 105, 110], [100, 101, 102, 97, 117, 108, 116], [105, 110, 100, 101, 120], [112, 114, 105, 110, 116]] : List (List UInt8)), (x ≠ [] ∧ x.length ≤ 32 ∧ (∀ c ∈ x, nmC c = true) ∧ (ltr (x.getD 0 0) || x.getD 0 0 == 95) = true) ∧ constM x < 0 := by decide +kernel
  refine key s ?_
  cases h1 : (s == [108, 101, 110]) || (s == [110, 111, 116]) || (s == [117, 112, 112, 101, 114]) || (s == [108, 111, 119, 101, 114]) with
  | true =>
    simp only [Bool.or_eq_true, beq_iff_eq] at h1
    rcases h1 with ((h | h) | h) | h <;> subst h <;> simp
  | false =>
    rw [h1, cond_false] at h
    cases h2 : (s == [101, 113]) || (s == [108, 116]) || (s == [97, 110, 100]) || (s == [111, 114]) || (s == [106, 111, 105, 110]) || (s == [100, 101, 102, 97, 117, 108, 116]) || (s == [105, 110, 100, 101, 120]) with
    | true =>
      simp only [Bool.or_eq_true, beq_iff_eq] at h2
      rcases h2 with (((((h | h) | h) | h) | h) | h) | h <;> subst h <;> simp
    | false =>
      rw [h2, cond_false] at h
      cases h3 : s == [112, 114, 105, 110, 116] with
      | true => rw [beq_iff_eq] at h3; subst h3; simp
      | false => rw [h3, cond_false] at h; cases h
/-- a call's words are read as it -/
def CW (c : CallD) (b : Bool) (ws : List WdD) : Prop := ∃ w r, ws = w :: r ∧ (∀ x ∈ ws, x.kind ≠ 6 ∧ okWd x) ∧ calE w r b = none ∧ callEq c (calC w r) = true
theorem call_tok (c : CallD) (b : Bool) (h : callB c b = true) (hi : ∀ a ∈ c.args, inR a) : ∃ (x : TK) (ts : List TK), callWs c = (x :: ts).map (·.1) ∧ (∀ y ∈ x :: ts, TokOK y) ∧ ∀ ws : List WdD, ws.map kx = (x :: ts).map (·.2) → CW c b ws := by
  unfold callB cBad at h
  rw [Bool.and_eq_true, Bool.not_eq_true', List.any_eq_false] at h
  obtain ⟨h1, h2⟩ := h
  obtain ⟨ts, t1, t2, t3, t4⟩ := args_tok c.args (fun a ha => by simpa using h1 a ha) hi
  cases hn : c.name == [] with
  | true =>
    rw [hn, cond_true, Bool.and_eq_true, Bool.not_eq_true', beq_iff_eq] at h2
    obtain ⟨hb, hl⟩ := h2
    subst hb
    obtain ⟨nm, af, args⟩ := c
    simp only at hl h1 t1 t3 t4 hi hn
    have hnm : nm = [] := by simpa using hn
    subst hnm
    obtain ⟨a, rfl⟩ : ∃ a, args = [a] := by
      match args, hl with
      | [a], _ => exact ⟨a, rfl⟩
    obtain ⟨x, rfl⟩ : ∃ x, ts = [x] := by
      match ts, t3 with
      | [x], _ => exact ⟨x, rfl⟩
    obtain ⟨k, t, g1, g2⟩ := arg_tok (a := a) (by simpa using h1 a (by simp)) (hi a (by simp))
    refine ⟨(wordM a, k, t), [], by simp [callWs], fun y hy => ?_, fun ws hws => ?_⟩
    · simp only [List.mem_cons, List.not_mem_nil, or_false] at hy
      subst hy; exact g1
    · obtain ⟨w, r, rfl, e1, e2⟩ := map_cons_inv hws
      have : r = [] := List.map_eq_nil_iff.1 e2
      subst this
      obtain ⟨b1, b2, b3, b4, b5⟩ := g2 w e1
      refine ⟨w, [], rfl, fun y hy => ?_, ?_, ?_⟩
      · simp only [List.mem_cons, List.not_mem_nil, or_false] at hy
        subst hy; exact ⟨b3, b5⟩
      · unfold calE; rw [b4, b1]; rfl
      · unfold calC; rw [b4, b2, cond_false]
        unfold callEq
        show (([] : List UInt8) == [] && all2 argEq [a] ([a].map setP)) = true
        rw [all2_set]; rfl
  | false =>
    rw [hn, cond_false, Bool.and_eq_true, Bool.and_eq_true] at h2
    obtain ⟨⟨ha, h3⟩, h4⟩ := h2
    obtain ⟨n1, n2⟩ := ar_name ha
    refine ⟨(c.name, 1, c.name), ts, by unfold callWs; rw [hn]; simp [t1], fun y hy => ?_, fun ws hws => ?_⟩
    · rcases List.mem_cons.1 hy with rfl | hy
      · exact tok_name n1
      · exact t2 y hy
    · obtain ⟨w, r, rfl, e1, e2⟩ := map_cons_inv hws
      simp only [kx, Prod.mk.injEq] at e1
      obtain ⟨k1, k2⟩ := e1
      obtain ⟨c1, c2⟩ := t4 r e2
      have hN : isName w = true := by
        unfold isName
        rw [k1, k2]
        show (!bif (1 : Int) != 1 then true else decide (constM c.name ≥ 0)) = true
        rw [dF (by omega)]; rfl
      refine ⟨w, r, rfl, fun y hy => ?_, ?_, ?_⟩
      · rcases List.mem_cons.1 hy with rfl | hy
        · refine ⟨by rw [k1]; decide, by rw [k2]; have := n1.2.1; omega, by rw [k1]; intro h; exact absurd h (by decide)⟩
        · exact c2 y hy
      · unfold calE
        rw [hN, k2, ha, c1]
        simp only [cond_true, Bool.not_true, cond_false, List.length_map]
        unfold cCnt at h3 h4
        have hcount : (((c.args.length + (bif b then 1 else 0) : Nat) : Int)) = (bif b then (c.args.length : Int) + 1 else c.args.length) := by
          cases b
          · simp
          · simp
        rw [hcount]
        have hh : (decide ((bif b then (c.args.length : Int) + 1 else c.args.length) ≥ (ar c.name).1) && decide ((bif b then (c.args.length : Int) + 1 else c.args.length) ≤ (ar c.name).2.1)) = true := by
          rw [Bool.and_eq_true]; exact ⟨h3, h4⟩
        rw [hh]; rfl
      · unfold calC; rw [hN, k2, c1, cond_true]
        unfold callEq
        rw [beq_self_eq_true, all2_set]; rfl
end Go.Mu
set_option linter.unusedVariables false
set_option linter.unusedSimpArgs false
set_option maxRecDepth 100000
namespace Go.Mu
open Go Go.Proofs
/-- words behind a first one -/
def jW (ts : List (List UInt8)) : List UInt8 := (ts.map (32 :: ·)).flatten
theorem jW_cons (t : List UInt8) (ts : List (List UInt8)) : jW (t :: ts) = 32 :: (t ++ jW ts) := by simp [jW]
theorem jW_app (a b : List (List UInt8)) : jW (a ++ b) = jW a ++ jW b := by simp [jW]
theorem jW_stop (ts : List (List UInt8)) : stopB (jW ts) := by
  cases ts with
  | nil => exact .inl rfl
  | cons t ts => rw [jW_cons]; exact .inr ⟨_, rfl⟩
theorem join_jW (t : List UInt8) (ts : List (List UInt8)) : Lib.join (t :: ts) [32] = t ++ jW ts := by rw [Lib.join_cons]; rfl
theorem wds_tok {t text : List UInt8} {k : Int} (h : Tok t k text) (rest : List UInt8) (hr : stopB rest) (m p : Nat) : wdsM (m + 1) (t ++ rest) p = (⟨k, text, p⟩ :: (wdsM m rest (p + t.length)).1, (wdsM m rest (p + t.length)).2) := by
  obtain ⟨h1, h2, h3⟩ := h
  have e0 : (t ++ rest == []) = false := by
    cases t with
    | nil => exact absurd rfl h1
    | cons c t => rfl
  have e1 : (t ++ rest).getD 0 0 = t.getD 0 0 := by
    cases t with
    | nil => exact absurd rfl h1
    | cons c t => rfl
  have e2 : (t ++ rest).drop t.length = rest := List.drop_left
  rw [wdsM, e0, e1, h2, h3 rest hr]
  simp only [cond_false, beq_self_eq_true, cond_true, e2]
theorem wds_jW : ∀ (ts : List TK) (m p : Nat), (∀ x ∈ ts, TokOK x) → (jW (ts.map (·.1))).length ≤ m → ∃ ws, wdsM m (jW (ts.map (·.1))) p = (ws, none) ∧ ws.map kx = ts.map (·.2)
  | [], m, p, _, _ => by
    refine ⟨[], ?_, rfl⟩
    cases m with
    | zero => rfl
    | succ m => rw [wdsM]; rfl
  | x :: ts, m, p, h, hm => by
    have hx := h x (by simp)
    have hp : 0 < x.1.length := List.length_pos_iff.2 hx.1
    rw [List.map_cons, jW_cons] at hm ⊢
    rw [List.length_cons, List.length_append] at hm
    obtain ⟨m, rfl⟩ : ∃ q, m = q + 1 + 1 := ⟨m - 2, by omega⟩
    obtain ⟨ws, g1, g2⟩ := wds_jW ts m (p + 1 + x.1.length) (fun y hy => h y (by simp [hy])) (by omega)
    refine ⟨⟨x.2.1, x.2.2, p + 1⟩ :: ws, ?_, by rw [List.map_cons, List.map_cons, g2]; rfl⟩
    have e0 : (32 :: (x.1 ++ jW (ts.map (·.1))) == []) = false := rfl
    have e1 : blk ((32 :: (x.1 ++ jW (ts.map (·.1)))).getD 0 0) = true := by show blk 32 = true; decide
    rw [wdsM, e0, e1, cond_false, cond_true]
    show wdsM (m + 1) (x.1 ++ jW (ts.map (·.1))) (p + 1) = _
    rw [wds_tok hx _ (jW_stop _), g1]
/-- all of a pipeline's words -/
def PW : List CallD → Bool → List WdD → Prop
  | [], _, _ => False
  | [c], b, ws => CW c b ws
  | c :: d :: cs, b, ws => ∃ ws1 bar ws2, ws = ws1 ++ bar :: ws2 ∧ CW c b ws1 ∧ bar.kind = 6 ∧ bar.text = [124] ∧ okWd bar ∧ PW (d :: cs) true ws2
theorem pipe_tok : ∀ (cs : List CallD) (c : CallD) (b : Bool), callB c b = true → (∀ d ∈ cs, callB d true = true) → (∀ d ∈ c :: cs, ∀ a ∈ d.args, inR a) →
    ∃ (x : TK) (ts : List TK), Lib.join ((c :: cs).map callW) [32, 124, 32] = x.1 ++ jW (ts.map (·.1)) ∧ (∀ y ∈ x :: ts, TokOK y) ∧ ∀ ws : List WdD, ws.map kx = (x :: ts).map (·.2) → PW (c :: cs) b ws
  | [], c, b, hc, _, hi => by
    obtain ⟨x, ts, h1, h2, h3⟩ := call_tok c b hc (hi c (by simp))
    refine ⟨x, ts, ?_, h2, h3⟩
    rw [List.map_cons, List.map_nil, Lib.join_one]
    unfold callW
    rw [h1, List.map_cons, join_jW]
  | d :: cs, c, b, hc, hd, hi => by
    obtain ⟨x, ts, h1, h2, h3⟩ := call_tok c b hc (hi c (by simp))
    obtain ⟨y, us, g1, g2, g3⟩ := pipe_tok cs d true (hd d (by simp)) (fun e he => hd e (by simp [he])) (fun e he => hi e (by simp only [List.mem_cons] at he ⊢; exact .inr he))
    refine ⟨x, ts ++ ([124], 6, [124]) :: y :: us, ?_, fun z hz => ?_, fun ws hws => ?_⟩
    · have e : Lib.join ((c :: d :: cs).map callW) [32, 124, 32] = callW c ++ ([32, 124, 32] ++ Lib.join ((d :: cs).map callW) [32, 124, 32]) := by
        rw [List.map_cons, Lib.join_cons, List.map_cons, Lib.join_cons]
        simp [Lib.joinTail]
      rw [e, g1]
      unfold callW
      rw [h1, List.map_cons, join_jW, List.map_append, jW_app, List.map_cons, jW_cons, List.map_cons, jW_cons]
      simp
    · simp only [List.mem_cons, List.mem_append] at hz
      rcases hz with rfl | hz | rfl | rfl | hz
      · exact h2 z (by simp)
      · exact h2 z (by simp [hz])
      · exact tok_bar
      · exact g2 z (by simp)
      · exact g2 z (by simp [hz])
    · obtain ⟨w, r, rfl, e1, e2⟩ := map_cons_inv hws
      rw [List.map_append, List.map_cons] at e2
      obtain ⟨r1, r2, rfl, e3, e4⟩ := List.map_eq_append_iff.1 e2
      obtain ⟨bar, ws2, rfl, e5, e6⟩ := map_cons_inv e4
      simp only [kx, Prod.mk.injEq] at e5
      refine ⟨w :: r1, bar, ws2, rfl, h3 _ (by rw [List.map_cons, List.map_cons, e1, e3]), e5.1, e5.2, ⟨by rw [e5.2]; show 1 ≤ 1048576; omega, fun h => by rw [e5.1] at h; exact absurd h (by decide)⟩, g3 _ e6⟩
theorem isSig_no {l : List WdD} (h : ∀ x ∈ l, x.kind ≠ 6 ∧ okWd x) : ∀ x ∈ l, isSig x = false := fun x hx => by
  unfold isSig
  simpa using (h x hx).1
theorem pPos_all : ∀ {l : List WdD}, (∀ x ∈ l, isSig x = false) → pPos l = l.length
  | [], _ => rfl
  | w :: l, h => by
    have := pPos_all (l := l) (fun x hx => h x (by simp [hx]))
    unfold pPos at this ⊢
    rw [List.findIdx_cons, h w (by simp), this]
    rfl
theorem pPos_bar : ∀ {l : List WdD} {bar : WdD} {r : List WdD}, (∀ x ∈ l, isSig x = false) → isSig bar = true → pPos (l ++ bar :: r) = l.length
  | [], bar, r, _, hb => by
    unfold pPos
    rw [List.nil_append, List.findIdx_cons, hb]
    rfl
  | w :: l, bar, r, h, hb => by
    have := pPos_bar (l := l) (bar := bar) (r := r) (fun x hx => h x (by simp [hx])) hb
    unfold pPos at this ⊢
    rw [List.cons_append, List.findIdx_cons, h w (by simp), this]
    rfl
theorem par_PW : ∀ (cs : List CallD) (ws : List WdD) (dn : List CallD) (m : Nat) (at_ : Int), PW cs (decide (0 < dn.length)) ws → ws.length ≤ m → dn.length + cs.length ≤ 16 →
    ∃ q, parM m ws dn at_ = (none, dn ++ q) ∧ all2 callEq cs q = true ∧ ws ≠ [] ∧ ∀ w ∈ ws, okWd w
  | [], ws, dn, m, at_, h, _, _ => h.elim
  | [c], ws, dn, m, at_, h, hm, hl => by
    obtain ⟨w, r, rfl, h1, h2, h3⟩ := h
    obtain ⟨m, rfl⟩ : ∃ q, m = q + 1 := ⟨m - 1, by rw [List.length_cons] at hm; omega⟩
    have hp := pPos_all (isSig_no h1)
    have h6 : ((hdW (w :: r)).kind == 6) = false := by
      have := (h1 w (by simp)).1
      simpa [hdW] using this
    have ht : (w :: r).take (w :: r).length = w :: r := List.take_length
    have hE : paE (w :: r) (decide (0 < dn.length)) = none := by unfold paE; rw [hp, ht]; exact h2
    have hC : paC (w :: r) = calC w r := by unfold paC; rw [hp, ht]; rfl
    refine ⟨[calC w r], ?_, by rw [all2, h3]; rfl, by simp, fun x hx => (h1 x hx).2⟩
    rw [parM, h6, cond_false, hE]
    simp only
    rw [List.length_cons, List.length_nil] at hl
    rw [dT (show dn.length < 16 by omega), Bool.not_true, cond_false, hp, beq_self_eq_true, cond_true, hC]
  | c :: d :: cs, ws, dn, m, at_, h, hm, hl => by
    obtain ⟨ws1, bar, ws2, rfl, ⟨w, r, rfl, h1, h2, h3⟩, k1, k2, k3, hP⟩ := h
    obtain ⟨m, rfl⟩ : ∃ q, m = q + 1 := ⟨m - 1, by rw [List.length_append, List.length_cons] at hm; omega⟩
    have hb : isSig bar = true := by unfold isSig; rw [k1]; rfl
    have hp := pPos_bar (r := ws2) (isSig_no h1) hb
    have h6 : ((hdW ((w :: r) ++ bar :: ws2)).kind == 6) = false := by
      have := (h1 w (by simp)).1
      simpa [hdW] using this
    have ht : ((w :: r) ++ bar :: ws2).take (w :: r).length = w :: r := List.take_left
    have hE : paE ((w :: r) ++ bar :: ws2) (decide (0 < dn.length)) = none := by unfold paE; rw [hp, ht]; exact h2
    have hC : paC ((w :: r) ++ bar :: ws2) = calC w r := by unfold paC; rw [hp, ht]; rfl
    have hlen : ((w :: r) ++ bar :: ws2).length = (w :: r).length + 1 + ws2.length := by simp only [List.length_append, List.length_cons]; omega
    have hd : ((w :: r) ++ bar :: ws2).drop ((w :: r).length + 1) = ws2 := by
      rw [show (w :: r) ++ bar :: ws2 = ((w :: r) ++ [bar]) ++ ws2 by simp, show (w :: r).length + 1 = ((w :: r) ++ [bar]).length by simp]
      exact List.drop_left
    have hg : ((w :: r) ++ bar :: ws2).getD (w :: r).length wd0 = bar := by
      rw [List.getD_eq_getElem?_getD, List.getElem?_append_right (Nat.le_refl _), Nat.sub_self]; rfl
    have hdn : decide (0 < (dn ++ [calC w r]).length) = true := dT (by rw [List.length_append]; show 0 < _ + 1; omega)
    rw [List.length_cons, List.length_cons] at hl
    obtain ⟨q, q1, q2, q3, q4⟩ := par_PW (d :: cs) ws2 (dn ++ [calC w r]) m at_ (by rw [hdn]; exact hP) (by rw [hlen] at hm; omega) (by simp only [List.length_append, List.length_cons, List.length_nil]; omega)
    have hw2 : 0 < ws2.length := List.length_pos_iff.2 q3
    refine ⟨calC w r :: q, ?_, by rw [all2, h3, q2]; rfl, by simp, fun x hx => ?_⟩
    · rw [parM, h6, cond_false, hE]
      simp only
      have hne : ((w :: r).length == ((w :: r) ++ bar :: ws2).length) = false := by
        rw [hlen]; simp only [beq_eq_false_iff_ne, ne_eq]; omega
      rw [dT (show dn.length < 16 by omega), Bool.not_true, cond_false, hp, hne, cond_false, hg, k2, hC, hd, dT (show (w :: r).length + 1 < ((w :: r) ++ bar :: ws2).length by rw [hlen]; omega), q1]
      simp
    · rcases List.mem_append.1 hx with hx | hx
      · exact (h1 x hx).2
      · rcases List.mem_cons.1 hx with rfl | hx
        · exact k3
        · exact q4 x hx
/-- THE STAGE'S THEOREM, plain -/
theorem pipe_round (p : List CallD) (h : pipeB p = true) (hi : ∀ c ∈ p, ∀ a ∈ c.args, inR a) : wordsE (printP p) = none ∧ (∀ w ∈ wordsOf (printP p), okWd w) ∧ ∃ q, parR (wordsOf (printP p)) 0 = (q, 0, 0) ∧ pipeEq p q = true := by
  unfold pipeB at h
  rw [Bool.and_eq_true, decide_eq_true_eq, Bool.not_eq_true', List.any_eq_false] at h
  obtain ⟨⟨h1, h2⟩, h3⟩ := h
  obtain ⟨c, cs, rfl⟩ : ∃ c cs, p = c :: cs := by
    cases p with
    | nil => simp at h1
    | cons c cs => exact ⟨c, cs, rfl⟩
  have hc : callB c false = true := by
    have := h3 0 (by simp)
    unfold cHit at this
    simpa using this
  have hd : ∀ d ∈ cs, callB d true = true := fun d hd => by
    obtain ⟨i, hi, rfl⟩ := List.mem_iff_getElem.1 hd
    have := h3 (i + 1) (by simp; omega)
    unfold cHit at this
    rw [List.getD_cons_succ, List.getD_eq_getElem?_getD, List.getElem?_eq_getElem hi] at this
    simpa using this
  obtain ⟨x, ts, t1, t2, t3⟩ := pipe_tok cs c false hc hd hi
  have hP : printP (c :: cs) = x.1 ++ jW (ts.map (·.1)) := t1
  have hx := t2 x (by simp)
  have hpos : 0 < x.1.length := List.length_pos_iff.2 hx.1
  obtain ⟨m, hm⟩ : ∃ m, (printP (c :: cs)).length = m + 1 := ⟨(printP (c :: cs)).length - 1, by rw [hP, List.length_append]; omega⟩
  obtain ⟨ws, g1, g2⟩ := wds_jW ts m (0 + x.1.length) (fun y hy => t2 y (by simp [hy])) (by rw [hP, List.length_append] at hm; omega)
  have hw : wdsM (printP (c :: cs)).length (printP (c :: cs)) 0 = (⟨x.2.1, x.2.2, 0⟩ :: ws, none) := by
    rw [hm, hP, wds_tok hx _ (jW_stop _), g1]
  have hW : PW (c :: cs) (decide (0 < ([] : List CallD).length)) (⟨x.2.1, x.2.2, 0⟩ :: ws) := t3 _ (by rw [List.map_cons, List.map_cons, g2]; rfl)
  obtain ⟨q, q1, q2, q3, q4⟩ := par_PW (c :: cs) _ [] _ 0 hW (Nat.le_refl _) (by rw [List.length_nil, Nat.zero_add]; exact h2)
  have e1 : wordsOf (printP (c :: cs)) = ⟨x.2.1, x.2.2, 0⟩ :: ws := by unfold wordsOf; rw [hw]
  have e2 : wordsE (printP (c :: cs)) = none := by unfold wordsE; rw [hw]
  refine ⟨e2, by rw [e1]; exact q4, q, ?_, q2⟩
  rw [e1]
  unfold parR
  rw [q1]
  rfl
end Go.Mu
set_option linter.unusedVariables false
set_option linter.unusedSimpArgs false
set_option maxRecDepth 100000
namespace Go.Mu
open Go Go.Proofs
def sOf : T → List UInt8
  | .s x => x
  | _ => []
def iOf : T → Int
  | .i _ n => n
  | _ => 0
def lOf : T → List T
  | .l _ es => es
  | _ => []
def fOf : T → Bool
  | .l f _ => f
  | _ => true
def rAt (t : T) (j : Nat) : T := match t with
  | .r fs => fs.getD j (.r [])
  | _ => .r []
def argOf (t : T) : ArgD := ⟨iOf (rAt t 0), sOf (rAt t 1), fOf (rAt t 2), (lOf (rAt t 2)).map sOf, iOf (rAt t 3), sOf (rAt t 4)⟩
def callOf (t : T) : CallD := ⟨sOf (rAt t 0), fOf (rAt t 1), (lOf (rAt t 1)).map argOf⟩
theorem sub_T {α : Type} {conv : T → α} {E : α → List AVal} {d : α} {f : Bool} {es : List T} (h : ∀ t ∈ es, SubL t.enc (E (conv t))) : Sub (.list f es.length (T.encAt es)) (encL f E d (es.map conv)) := by
  unfold encL
  rw [List.length_map]
  refine Sub.list (fun h => h) (fun i hi => ?_)
  rw [T.encAt_get es i es[i] (List.getElem?_eq_getElem hi)]
  have : (es.map conv).getD i d = conv es[i] := by simp [List.getD_eq_getElem?_getD, List.getElem?_eq_getElem hi]
  rw [this]
  exact h _ (List.getElem_mem hi)
theorem str_T {t : T} (h : HasT Tryd.prog 9 t) : SubL t.enc (encS (sOf t)) := by
  obtain ⟨s, rfl⟩ := h.str_inv (by kernel_rfl)
  simp only [T.enc, sOf, encS]; exact .refl _
theorem size_le {es : List T} {t : T} {n : Nat} (h : t ∈ es) (hn : T.sizes es ≤ n) : t.size ≤ n := Nat.le_trans (T.size_mem es t h) hn
theorem arg_T {t : T} (h : HasT Tryd.prog 36 t) (hs : t.size ≤ 1048576) : SubL t.enc (encArg (argOf t)) ∧ okArg (argOf t) := by
  obtain ⟨parts, rfl, hp⟩ := h.struct_inv Tryd.underlying36
  obtain ⟨x0, xs, rfl, h0, hp⟩ := HasTs.cons_inv hp
  obtain ⟨x1, xs, rfl, h1, hp⟩ := HasTs.cons_inv hp
  obtain ⟨x2, xs, rfl, h2, hp⟩ := HasTs.cons_inv hp
  obtain ⟨x3, xs, rfl, h3, hp⟩ := HasTs.cons_inv hp
  obtain ⟨x4, xs, rfl, h4, hp⟩ := HasTs.cons_inv hp
  obtain rfl := HasTs.nil_inv hp
  obtain ⟨k, rfl, _⟩ := h0.int_inv (k := .i64) (by kernel_rfl)
  obtain ⟨nm, rfl⟩ := h1.str_inv (by kernel_rfl)
  obtain ⟨f, path, rfl, hpath⟩ := h2.slice_inv (e := 9) (by kernel_rfl)
  obtain ⟨n, rfl, _⟩ := h3.int_inv (k := .i64) (by kernel_rfl)
  obtain ⟨tx, rfl⟩ := h4.str_inv (by kernel_rfl)
  have hl := T.length_sizes path
  simp only [T.size, T.sizes] at hs
  refine ⟨?_, ?_, fun s hm => ?_, ?_, ?_⟩
  · simp only [T.enc, T.encAll, List.append_nil, List.singleton_append, List.cons_append, List.nil_append]
    exact .cons (.refl _) (.cons (.refl _) (.cons (sub_T (fun t ht => str_T (hpath t ht))) (.cons (.refl _) (.cons (.refl _) .nil))))
  · simp [argOf, rAt, lOf]; omega
  · simp only [argOf, rAt, lOf, List.getD_cons_succ, List.getD_cons_zero, List.mem_map] at hm
    obtain ⟨t, ht, rfl⟩ := hm
    obtain ⟨x, rfl⟩ := (hpath t ht).str_inv (by kernel_rfl)
    have := T.size_mem path _ ht
    simp only [T.size] at this
    simp only [sOf]; omega
  · simp [argOf, rAt, sOf]; omega
  · simp [argOf, rAt, sOf]; omega
theorem call_T {t : T} (h : HasT Tryd.prog 33 t) (hs : t.size ≤ 1048576) : SubL t.enc (encCall (callOf t)) ∧ okCall (callOf t) := by
  obtain ⟨parts, rfl, hp⟩ := h.struct_inv Tryd.underlying33
  obtain ⟨x0, xs, rfl, h0, hp⟩ := HasTs.cons_inv hp
  obtain ⟨x1, xs, rfl, h1, hp⟩ := HasTs.cons_inv hp
  obtain rfl := HasTs.nil_inv hp
  obtain ⟨nm, rfl⟩ := h0.str_inv (by kernel_rfl)
  obtain ⟨f, args, rfl, ha⟩ := h1.slice_inv (e := 36) (by kernel_rfl)
  have hl := T.length_sizes args
  simp only [T.size, T.sizes] at hs
  have ht : ∀ t ∈ args, SubL t.enc (encArg (argOf t)) ∧ okArg (argOf t) := fun t ht => arg_T (ha t ht) (size_le ht (by omega))
  refine ⟨?_, ?_, fun a hm => ?_, ?_⟩
  · simp only [T.enc, T.encAll, List.append_nil, List.singleton_append, List.cons_append, List.nil_append]
    exact .cons (.refl _) (.cons (sub_T (fun t h => (ht t h).1)) .nil)
  · simp [callOf, rAt, lOf]; omega
  · simp only [callOf, rAt, lOf, List.getD_cons_succ, List.getD_cons_zero, List.mem_map] at hm
    obtain ⟨t, h, rfl⟩ := hm
    exact (ht t h).2
  · simp [callOf, rAt, sOf]; omega
theorem pipe_T {es : List T} {full : Bool} (h : ∀ t ∈ es, HasT Tryd.prog 33 t) (hs : T.sizes es ≤ 1048576) : Sub (.list full es.length (T.encAt es)) (encPipe full (es.map callOf)) ∧ okPipe (es.map callOf) := by
  have ht : ∀ t ∈ es, SubL t.enc (encCall (callOf t)) ∧ okCall (callOf t) := fun t hm => call_T (h t hm) (size_le hm hs)
  have hl := T.length_sizes es
  refine ⟨sub_T (fun t h => (ht t h).1), by simp; omega, fun c hm => ?_⟩
  obtain ⟨t, h, rfl⟩ := List.mem_map.1 hm
  exact (ht t h).2
end Go.Mu
set_option linter.unusedVariables false
set_option linter.unusedSimpArgs false
set_option maxRecDepth 100000
namespace Go.Mu
open Go Go.Proofs
def sumL (l : List (List UInt8)) : Nat := (l.map (fun s => s.length + 1)).sum
def aW (a : ArgD) : Nat := a.name.length + sumL a.path + a.text.length
def cW (c : CallD) : Nat := c.name.length + (c.args.map (fun a => aW a + 1)).sum
def pW (l : List CallD) : Nat := (l.map (fun c => cW c + 1)).sum
theorem sumL_T : ∀ path : List T, (∀ t ∈ path, HasT Tryd.prog 9 t) → sumL (path.map sOf) ≤ T.sizes path
  | [], _ => Nat.le_refl _
  | t :: ts, h => by
    obtain ⟨s, rfl⟩ := (h t (by simp)).str_inv (by kernel_rfl)
    have := sumL_T ts (fun x hx => h x (by simp [hx]))
    unfold sumL at this ⊢
    simp only [List.map_cons, List.sum_cons, sOf, T.sizes, T.size]
    omega
theorem arg_S {t : T} (h : HasT Tryd.prog 36 t) : aW (argOf t) + 1 ≤ t.size ∧ inR (argOf t) := by
  obtain ⟨parts, rfl, hp⟩ := h.struct_inv Tryd.underlying36
  obtain ⟨x0, xs, rfl, h0, hp⟩ := HasTs.cons_inv hp
  obtain ⟨x1, xs, rfl, h1, hp⟩ := HasTs.cons_inv hp
  obtain ⟨x2, xs, rfl, h2, hp⟩ := HasTs.cons_inv hp
  obtain ⟨x3, xs, rfl, h3, hp⟩ := HasTs.cons_inv hp
  obtain ⟨x4, xs, rfl, h4, hp⟩ := HasTs.cons_inv hp
  obtain rfl := HasTs.nil_inv hp
  obtain ⟨k, rfl, _⟩ := h0.int_inv (k := .i64) (by kernel_rfl)
  obtain ⟨nm, rfl⟩ := h1.str_inv (by kernel_rfl)
  obtain ⟨f, path, rfl, hpath⟩ := h2.slice_inv (e := 9) (by kernel_rfl)
  obtain ⟨n, rfl, hn⟩ := h3.int_inv (k := .i64) (by kernel_rfl)
  obtain ⟨tx, rfl⟩ := h4.str_inv (by kernel_rfl)
  have hs := sumL_T path hpath
  refine ⟨?_, ?_⟩
  · simp only [aW, argOf, rAt, lOf, sOf, List.getD_cons_succ, List.getD_cons_zero, T.size, T.sizes]
    omega
  · simp only [inR, argOf, rAt, iOf, List.getD_cons_succ, List.getD_cons_zero]
    simp only [Lit.wf, Bool.and_eq_true, decide_eq_true_eq] at hn
    exact hn
theorem args_S : ∀ es : List T, (∀ t ∈ es, HasT Tryd.prog 36 t) → ((es.map argOf).map (fun a => aW a + 1)).sum ≤ T.sizes es ∧ ∀ a ∈ es.map argOf, inR a
  | [], _ => ⟨Nat.le_refl _, fun a ha => (by cases ha)⟩
  | t :: ts, h => by
    obtain ⟨h1, h2⟩ := arg_S (h t (by simp))
    obtain ⟨g1, g2⟩ := args_S ts (fun x hx => h x (by simp [hx]))
    refine ⟨?_, fun a ha => ?_⟩
    · simp only [List.map_cons, List.sum_cons, T.sizes]; omega
    · rw [List.map_cons] at ha
      rcases List.mem_cons.1 ha with rfl | ha
      · exact h2
      · exact g2 a ha
theorem call_S {t : T} (h : HasT Tryd.prog 33 t) : cW (callOf t) + 1 ≤ t.size ∧ ∀ a ∈ (callOf t).args, inR a := by
  obtain ⟨parts, rfl, hp⟩ := h.struct_inv Tryd.underlying33
  obtain ⟨x0, xs, rfl, h0, hp⟩ := HasTs.cons_inv hp
  obtain ⟨x1, xs, rfl, h1, hp⟩ := HasTs.cons_inv hp
  obtain rfl := HasTs.nil_inv hp
  obtain ⟨nm, rfl⟩ := h0.str_inv (by kernel_rfl)
  obtain ⟨f, es, rfl, hes⟩ := h1.slice_inv (e := 36) (by kernel_rfl)
  obtain ⟨g1, g2⟩ := args_S es hes
  refine ⟨?_, g2⟩
  simp only [cW, callOf, rAt, lOf, sOf, List.getD_cons_succ, List.getD_cons_zero, T.size, T.sizes]
  omega
theorem pipe_S : ∀ es : List T, (∀ t ∈ es, HasT Tryd.prog 33 t) → pW (es.map callOf) ≤ T.sizes es ∧ ∀ c ∈ es.map callOf, ∀ a ∈ c.args, inR a
  | [], _ => ⟨Nat.le_refl _, fun a ha => (by cases ha)⟩
  | t :: ts, h => by
    obtain ⟨h1, h2⟩ := call_S (h t (by simp))
    obtain ⟨g1, g2⟩ := pipe_S ts (fun x hx => h x (by simp [hx]))
    unfold pW at g1 ⊢
    refine ⟨?_, fun a ha => ?_⟩
    · simp only [List.map_cons, List.sum_cons, T.sizes]; omega
    · rw [List.map_cons] at ha
      rcases List.mem_cons.1 ha with rfl | ha
      · exact h2
      · exact g2 a ha
theorem join_le (sep : List UInt8) : ∀ l : List (List UInt8), (Lib.join l sep).length ≤ (l.map (fun s => s.length + sep.length)).sum
  | [] => by rw [Lib.join_nil]; exact Nat.le_refl _
  | s :: l => by
    rw [Lib.join_cons, List.length_append]
    have : (Lib.joinTail sep l).length ≤ (l.map (fun s => s.length + sep.length)).sum := by
      unfold Lib.joinTail
      induction l with
      | nil => exact Nat.le_refl _
      | cons x l ih => simp only [List.map_cons, List.flatten_cons, List.length_append, List.sum_cons]; omega
    simp only [List.map_cons, List.sum_cons]; omega
theorem sumL_len (l : List (List UInt8)) : l.length ≤ sumL l := by
  unfold sumL
  induction l with
  | nil => exact Nat.le_refl _
  | cons x l ih => simp only [List.map_cons, List.sum_cons, List.length_cons]; omega
theorem join1 (l : List (List UInt8)) : (Lib.join l [46]).length ≤ sumL l := join_le [46] l
theorem wordM_len (a : ArgD) : (wordM a).length ≤ 2 * aW a + 30 := by
  have j1 := join1 a.path
  have j2 := join1 ((36 :: a.name) :: a.path)
  have e2 : sumL ((36 :: a.name) :: a.path) = a.name.length + 2 + sumL a.path := by simp [sumL]
  have d := digsF_len 19 a.int.natAbs []
  have q := qu_len a.text
  unfold wordM aW
  have hp : (printM a.int).length ≤ 20 := by
    simp only [List.length_nil, Nat.zero_add] at d
    unfold printM
    cases decide (a.int < 0)
    · simp only [cond_false]; omega
    · simp only [cond_true, List.length_cons]; omega
  have hq : (quoteM a.text).length ≤ 2 * a.text.length + 2 := by
    unfold quoteM
    rw [List.length_cons, List.length_append]
    show _ + 1 + 1 ≤ _
    omega
  cases a.kind == 1
  · simp only [cond_false]
    cases a.kind == 2
    · simp only [cond_false]
      cases a.kind == 3
      · simp only [cond_false]
        cases a.kind == 4
        · simp only [cond_false]
          cases a.kind == 5
          · simp only [cond_false]
            cases a.kind == 6
            · simp only [cond_false]
              cases a.kind == 7
              · simp only [cond_false, List.length_nil]; omega
              · simp only [cond_true]; show 3 ≤ _; omega
            · simp only [cond_true]; show 5 ≤ _; omega
          · simp only [cond_true]; show 4 ≤ _; omega
        · simp only [cond_true]; omega
      · simp only [cond_true]; omega
    · simp only [cond_true]; omega
  · simp only [cond_true, List.length_cons]; omega
theorem okW_of {a : ArgD} (h : aW a ≤ 1048576) (hi : inR a) : okW a := by
  have j2 := join1 ((36 :: a.name) :: a.path)
  have e2 : sumL ((36 :: a.name) :: a.path) = a.name.length + 2 + sumL a.path := by simp [sumL]
  have := sumL_len a.path
  unfold aW at h
  exact ⟨by omega, by omega, hi.1, hi.2, by omega⟩
theorem sum_le {α : Type} {f g : α → Nat} {k : Nat} : ∀ l : List α, (∀ x ∈ l, f x ≤ k * g x) → (l.map f).sum ≤ k * (l.map g).sum
  | [], _ => Nat.zero_le _
  | x :: l, h => by
    have := sum_le l (fun y hy => h y (by simp [hy]))
    have := h x (by simp)
    simp only [List.map_cons, List.sum_cons, Nat.mul_add]
    omega
theorem mem_sum {α : Type} (f : α → Nat) : ∀ (l : List α) (x : α), x ∈ l → f x ≤ (l.map f).sum
  | y :: l, x, h => by
    simp only [List.map_cons, List.sum_cons]
    rcases List.mem_cons.1 h with rfl | h
    · omega
    · have := mem_sum f l x h; omega
theorem len_sum {α : Type} (f : α → Nat) : ∀ l : List α, l.length ≤ (l.map (fun a => f a + 1)).sum
  | [] => Nat.le_refl _
  | x :: l => by
    have := len_sum f l
    simp only [List.map_cons, List.sum_cons, List.length_cons]; omega
theorem callW_len (c : CallD) : (callW c).length ≤ 31 * (cW c + 1) := by
  unfold callW
  refine Nat.le_trans (join_le [32] _) ?_
  unfold callWs cW
  rw [List.map_append, List.sum_append, List.map_map]
  have h1 : ((bif c.name == [] then ([] : List (List UInt8)) else [c.name]).map (fun s => s.length + ([32] : List UInt8).length)).sum ≤ c.name.length + 1 := by
    cases c.name == []
    · simp
    · simp
  have h2 := sum_le (f := (fun s => s.length + ([32] : List UInt8).length) ∘ wordM) (g := fun a => aW a + 1) (k := 31) c.args (fun a _ => by
    have := wordM_len a
    show (wordM a).length + 1 ≤ _
    omega)
  omega
theorem okCW_of {c : CallD} (h : cW c ≤ 1048576) (hi : ∀ a ∈ c.args, inR a) : okCW c := by
  have hl := callW_len c
  have h1 := len_sum aW c.args
  have hc : (c.args.map (fun a => aW a + 1)).sum ≤ cW c := by unfold cW; omega
  refine ⟨by omega, fun a ha => okW_of ?_ (hi a ha), by omega⟩
  have := mem_sum (fun a => aW a + 1) c.args a ha
  omega
theorem printP_len (l : List CallD) : (printP l).length ≤ 34 * pW l := by
  unfold printP
  refine Nat.le_trans (join_le [32, 124, 32] _) ?_
  rw [List.map_map]
  exact sum_le (f := (fun s => s.length + ([32, 124, 32] : List UInt8).length) ∘ callW) (g := fun c => cW c + 1) (k := 34) l (fun c _ => by
    have := callW_len c
    show (callW c).length + 3 ≤ _
    omega)
theorem okPW_of {l : List CallD} (h : pW l ≤ 1048576) (hi : ∀ c ∈ l, ∀ a ∈ c.args, inR a) : okPW l := by
  have hl := printP_len l
  have h1 := len_sum cW l
  unfold pW at h hl
  refine ⟨by omega, fun c hc => okCW_of ?_ (hi c hc), by omega⟩
  have := mem_sum (fun c => cW c + 1) l c hc
  omega
end Go.Mu
set_option linter.unusedVariables false
set_option linter.unusedSimpArgs false
set_option maxRecDepth 100000
namespace Go.Mu
open Go Go.Proofs
noncomputable def layAl9 : Lay := (Lay.nil.addF 16 wordsTold).addF 12 parTold
theorem layAl9_ok : layAl9.OK Tryd.prog := (Lay.nil_ok.addF wordsTold_ok).addF parTold_ok
theorem alive19_fun (k : Out → Ans) : iFun Tryd.prog (layAl9.hd Tryd.prog) layAl9.fhs 0 10 [] [] k = (
  bif
      tst
        (parOkR
            (AVal.list false 3 fun (i : Nat) =>
              encWd 0 ((wordsOf [46, 97, 32, 124, 32, 108, 101, 110]).getD i wd0)) ∧
          SubL
              [AVal.list false 3 fun (i : Nat) =>
                  encWd 0 ((wordsOf [46, 97, 32, 124, 32, 108, 101, 110]).getD i wd0),
                AVal.int IntKind.i64 0]
              [encWqsR
                  (AVal.list false 3 fun (i : Nat) =>
                    encWd 0 ((wordsOf [46, 97, 32, 124, 32, 108, 101, 110]).getD i wd0)),
                AVal.int IntKind.i64 0] ∧
            ([] : Heap) = []) then
    k (Out.ret (AVal.bool true) [])
  else none) := by kernel_rfl
theorem decWd_enc (w : WdD) : decWq (encWd 0 w) = w := by
  show (⟨w.kind, w.text, (0 + (w.at_ : Int)).toNat⟩ : WdD) = w
  rw [Int.zero_add, Int.toNat_natCast]
theorem wds_dec (l : List WdD) : decL decWq (AVal.list false l.length fun (i : Nat) => encWd 0 (l.getD i wd0)) = l := decL_encL decWd_enc l
theorem wds_enc (l : List WdD) : encWqsR (AVal.list false l.length fun (i : Nat) => encWd 0 (l.getD i wd0)) = AVal.list false l.length fun (i : Nat) => encWq (l.getD i wd0) := by
  unfold encWqsR; rw [wds_dec]; rfl
theorem wds_sub (l : List WdD) (v : AVal) : SubL [AVal.list false l.length fun (i : Nat) => encWd 0 (l.getD i wd0), v] [encWqsR (AVal.list false l.length fun (i : Nat) => encWd 0 (l.getD i wd0)), v] := by
  rw [wds_enc]
  refine .cons (Sub.list (fun h => h) (fun i hi => ?_)) (.cons (.refl _) .nil)
  unfold encWd encWq
  rw [Int.zero_add]
  exact .refl _
theorem alive19_words : wordsOf [46, 97, 32, 124, 32, 108, 101, 110] = [⟨2, [46, 97], 0⟩, ⟨6, [124], 3⟩, ⟨1, [108, 101, 110], 5⟩] := by kernel_rfl
theorem alive19_ok : CallOK Tryd.prog 10 [] [] (.ret (.bool true) []) := by
  refine layAl9_ok.callF (G := []) rfl (fun k => (alive19_fun k).trans ?_)
  have hs := wds_sub (wordsOf [46, 97, 32, 124, 32, 108, 101, 110]) (.int .i64 0)
  have hd := wds_dec (wordsOf [46, 97, 32, 124, 32, 108, 101, 110])
  have hl : (wordsOf [46, 97, 32, 124, 32, 108, 101, 110]).length = 3 := by rw [alive19_words]; rfl
  rw [hl] at hs hd
  have p1 : parOkR (AVal.list false 3 fun (i : Nat) => encWd 0 ((wordsOf [46, 97, 32, 124, 32, 108, 101, 110]).getD i wd0)) := by
    refine ⟨by rw [hd, hl]; omega, ?_⟩
    rw [hd, alive19_words]
    intro w hw
    simp only [List.mem_cons, List.not_mem_nil, or_false] at hw
    rcases hw with rfl | rfl | rfl
    · exact ⟨by show 2 ≤ 1048576; omega, fun h => by cases h⟩
    · exact ⟨by show 1 ≤ 1048576; omega, fun h => by cases h⟩
    · exact ⟨by show 3 ≤ 1048576; omega, fun h => by cases h⟩
  rw [tst_true ⟨p1, hs, rfl⟩]
  rfl
def alive19Told : FSp := mkFS [] (fun _ => true) (fun _ k => k (.ret (.bool true) []))
theorem alive19Told_ok : ∀ xs H k out, alive19Told xs H k = some out → ∃ o, CallOK Tryd.prog 10 xs H o ∧ k o = some out := mkFS_ok fun ys xs e h => by
  obtain rfl : xs = [] := e
  exact ⟨_, fun k => rfl, alive19_ok⟩
noncomputable def layBk : Lay := ((((((layAl9.addF 10 alive19Told).addF 17 prtTold).addF 26 chkTold).addF 18 mayTold).addF 15 sameTold))
theorem layBk_ok : layBk.OK Tryd.prog := ((((layAl9_ok.addF alive19Told_ok).addF prtTold_ok).addF chkTold_ok).addF mayTold_ok).addF spTold_ok
theorem back_fun (f : Bool) (p : List CallD) (k : Out → Ans) : iFun Tryd.prog (layBk.hd Tryd.prog) layBk.fhs 0 7 [encPipe f p] [] k = (
  let l0 : List UInt8 := printR (AVal.list f p.length fun (i : Nat) => encCall (p.getD i callD0));
  let c1 : Bool :=
    tst
      ((AVal.list f p.length fun (i : Nat) => encCall (p.getD i callD0)) =
          encPipe (fullOf (AVal.list f p.length fun (i : Nat) => encCall (p.getD i callD0)))
            (decL decCall (AVal.list f p.length fun (i : Nat) => encCall (p.getD i callD0))) ∧
        okPipe (decL decCall (AVal.list f p.length fun (i : Nat) => encCall (p.getD i callD0))));
  let c2 : Bool := pipeB (decL decCall (AVal.list f p.length fun (i : Nat) => encCall (p.getD i callD0)));
  let c3 : Bool := !c2;
  bif
      tst
        (okPR (AVal.list f p.length fun (i : Nat) => encCall (p.getD i callD0)) ∧
          SubL [AVal.list f p.length fun (i : Nat) => encCall (p.getD i callD0)]
              [encPsR (AVal.list f p.length fun (i : Nat) => encCall (p.getD i callD0))] ∧
            ([] : Heap) = []) then
    bif decide (l0.length ≤ 1073741824 ∧ (0 : Int) ≤ 0 ∧ (0 : Int) ≤ 1099511627776) then
      bif (wordsE l0).isSome then
        bif c1 then
          bif c3 then bif c1 then k (Out.ret (AVal.bool ((bif c2 then (0 : Int) else 9) == 9)) []) else none
          else
            bif
                tst
                  (parOkR (AVal.list true 0 fun (x : Nat) => []) ∧
                    SubL [AVal.list true 0 fun (x : Nat) => [], AVal.int IntKind.i64 0]
                        [encWqsR (AVal.list true 0 fun (x : Nat) => []), AVal.int IntKind.i64 0] ∧
                      ([] : Heap) = []) then
              bif
                  tst
                    ((AVal.list f p.length fun (i : Nat) => encCall (p.getD i callD0)) =
                        encPipe (fullOf (AVal.list f p.length fun (i : Nat) => encCall (p.getD i callD0)))
                          (decL decCall
                            (AVal.list f p.length fun (i : Nat) => encCall (p.getD i callD0))) ∧
                      (AVal.list false 0 fun (i : Nat) => encCall callD0) =
                          encPipe false
                            (decL decCall (AVal.list false 0 fun (i : Nat) => encCall callD0)) ∧
                        okPipe
                            (decL decCall
                              (AVal.list f p.length fun (i : Nat) => encCall (p.getD i callD0))) ∧
                          okPipe (decL decCall (AVal.list false 0 fun (i : Nat) => encCall callD0))) then
                k
                  (Out.ret
                    (AVal.bool
                      (bif IntKind.i64.wrap (wdErr l0 + parE (AVal.list true 0 fun (x : Nat) => []) 0) == 0 then
                        pipeEq
                          (decL decCall (AVal.list f p.length fun (i : Nat) => encCall (p.getD i callD0)))
                          (decL decCall (AVal.list false 0 fun (i : Nat) => encCall callD0))
                      else false))
                    [])
              else none
            else none
        else none
      else
        bif c1 then
          bif c3 then bif c1 then k (Out.ret (AVal.bool ((bif c2 then (0 : Int) else 9) == 9)) []) else none
          else
            bif
                tst
                  (parOkR
                      (AVal.list false (wordsOf l0).length fun (i : Nat) =>
                        encWd 0
                          ((wordsOf
                                (printR
                                  (AVal.list f p.length fun (i : Nat) => encCall (p.getD i callD0)))).getD
                            i wd0)) ∧
                    SubL
                        [AVal.list false (wordsOf l0).length fun (i : Nat) =>
                            encWd 0
                              ((wordsOf
                                    (printR
                                      (AVal.list f p.length fun (i : Nat) =>
                                        encCall (p.getD i callD0)))).getD
                                i wd0),
                          AVal.int IntKind.i64 0]
                        [encWqsR
                            (AVal.list false (wordsOf l0).length fun (i : Nat) =>
                              encWd 0
                                ((wordsOf
                                      (printR
                                        (AVal.list f p.length fun (i : Nat) =>
                                          encCall (p.getD i callD0)))).getD
                                  i wd0)),
                          AVal.int IntKind.i64 0] ∧
                      ([] : Heap) = []) then
              bif
                  tst
                    ((AVal.list f p.length fun (i : Nat) => encCall (p.getD i callD0)) =
                        encPipe (fullOf (AVal.list f p.length fun (i : Nat) => encCall (p.getD i callD0)))
                          (decL decCall
                            (AVal.list f p.length fun (i : Nat) => encCall (p.getD i callD0))) ∧
                      (AVal.list false
                            (parV
                                (AVal.list false (wordsOf l0).length fun (i : Nat) =>
                                  encWd 0
                                    ((wordsOf
                                          (printR
                                            (AVal.list f p.length fun (i : Nat) =>
                                              encCall (p.getD i callD0)))).getD
                                      i wd0))
                                0).length
                            fun (i : Nat) =>
                            encCall
                              ((parV
                                    (AVal.list false
                                      (wordsOf
                                          (printR
                                            (AVal.list f p.length fun (i : Nat) =>
                                              encCall (p.getD i callD0)))).length
                                      fun (i : Nat) =>
                                      encWd 0
                                        ((wordsOf
                                              (printR
                                                (AVal.list f p.length fun (i : Nat) =>
                                                  encCall (p.getD i callD0)))).getD
                                          i wd0))
                                    0).getD
                                i callD0)) =
                          encPipe false
                            (decL decCall
                              (AVal.list false
                                (parV
                                    (AVal.list false (wordsOf l0).length fun (i : Nat) =>
                                      encWd 0
                                        ((wordsOf
                                              (printR
                                                (AVal.list f p.length fun (i : Nat) =>
                                                  encCall (p.getD i callD0)))).getD
                                          i wd0))
                                    0).length
                                fun (i : Nat) =>
                                encCall
                                  ((parV
                                        (AVal.list false
                                          (wordsOf
                                              (printR
                                                (AVal.list f p.length fun (i : Nat) =>
                                                  encCall (p.getD i callD0)))).length
                                          fun (i : Nat) =>
                                          encWd 0
                                            ((wordsOf
                                                  (printR
                                                    (AVal.list f p.length fun (i : Nat) =>
                                                      encCall (p.getD i callD0)))).getD
                                              i wd0))
                                        0).getD
                                    i callD0))) ∧
                        okPipe
                            (decL decCall
                              (AVal.list f p.length fun (i : Nat) => encCall (p.getD i callD0))) ∧
                          okPipe
                            (decL decCall
                              (AVal.list false
                                (parV
                                    (AVal.list false (wordsOf l0).length fun (i : Nat) =>
                                      encWd 0
                                        ((wordsOf
                                              (printR
                                                (AVal.list f p.length fun (i : Nat) =>
                                                  encCall (p.getD i callD0)))).getD
                                          i wd0))
                                    0).length
                                fun (i : Nat) =>
                                encCall
                                  ((parV
                                        (AVal.list false
                                          (wordsOf
                                              (printR
                                                (AVal.list f p.length fun (i : Nat) =>
                                                  encCall (p.getD i callD0)))).length
                                          fun (i : Nat) =>
                                          encWd 0
                                            ((wordsOf
                                                  (printR
                                                    (AVal.list f p.length fun (i : Nat) =>
                                                      encCall (p.getD i callD0)))).getD
                                              i wd0))
                                        0).getD
                                    i callD0)))) then
                k
                  (Out.ret
                    (AVal.bool
                      (bif
                          IntKind.i64.wrap
                              (0 +
                                parE
                                  (AVal.list false (wordsOf l0).length fun (i : Nat) =>
                                    encWd 0
                                      ((wordsOf
                                            (printR
                                              (AVal.list f p.length fun (i : Nat) =>
                                                encCall (p.getD i callD0)))).getD
                                        i wd0))
                                  0) ==
                            0 then
                        pipeEq
                          (decL decCall (AVal.list f p.length fun (i : Nat) => encCall (p.getD i callD0)))
                          (decL decCall
                            (AVal.list false
                              (parV
                                  (AVal.list false (wordsOf l0).length fun (i : Nat) =>
                                    encWd 0
                                      ((wordsOf
                                            (printR
                                              (AVal.list f p.length fun (i : Nat) =>
                                                encCall (p.getD i callD0)))).getD
                                        i wd0))
                                  0).length
                              fun (i : Nat) =>
                              encCall
                                ((parV
                                      (AVal.list false
                                        (wordsOf
                                            (printR
                                              (AVal.list f p.length fun (i : Nat) =>
                                                encCall (p.getD i callD0)))).length
                                        fun (i : Nat) =>
                                        encWd 0
                                          ((wordsOf
                                                (printR
                                                  (AVal.list f p.length fun (i : Nat) =>
                                                    encCall (p.getD i callD0)))).getD
                                            i wd0))
                                      0).getD
                                  i callD0)))
                      else false))
                    [])
              else none
            else none
        else none
    else none
  else none) := by kernel_rfl
theorem all2_ok {α : Type} {f : α → α → Bool} {P : α → Prop} (h : ∀ x y, f x y = true → P x → P y) : ∀ {a b : List α}, all2 f a b = true → a.length = b.length ∧ ((∀ x ∈ a, P x) → ∀ y ∈ b, P y)
  | [], [], _ => ⟨rfl, fun _ y hy => (by cases hy)⟩
  | [], y :: b, h2 => (by cases h2)
  | x :: a, [], h2 => (by cases h2)
  | x :: a, y :: b, h2 => by
    rw [all2, Bool.and_eq_true] at h2
    obtain ⟨g1, g2⟩ := all2_ok h h2.2
    refine ⟨by rw [List.length_cons, List.length_cons, g1], fun hP z hz => ?_⟩
    rcases List.mem_cons.1 hz with rfl | hz
    · exact h _ _ h2.1 (hP x (by simp))
    · exact g2 (fun w hw => hP w (by simp [hw])) z hz
theorem all2_eqS : ∀ {a b : List (List UInt8)}, all2 eqS a b = true → a = b
  | [], [], _ => rfl
  | [], y :: b, h2 => (by cases h2)
  | x :: a, [], h2 => (by cases h2)
  | x :: a, y :: b, h2 => by
    rw [all2, Bool.and_eq_true] at h2
    have e1 : x = y := by simpa [eqS] using h2.1
    rw [e1, all2_eqS h2.2]
theorem arg_okEq (a b : ArgD) (h : argEq a b = true) (ho : okArg a) : okArg b := by
  unfold argEq at h
  simp only [Bool.and_eq_true, beq_iff_eq] at h
  obtain ⟨⟨⟨⟨h1, h2⟩, h3⟩, h4⟩, h5⟩ := h
  have h6 := all2_eqS h5
  unfold okArg at ho ⊢
  rw [← h2, ← h4, ← h6]
  exact ho
theorem call_okEq (a b : CallD) (h : callEq a b = true) (ho : okCall a) : okCall b := by
  unfold callEq at h
  rw [Bool.and_eq_true, beq_iff_eq] at h
  obtain ⟨h1, h2⟩ := h
  obtain ⟨g1, g2⟩ := all2_ok arg_okEq h2
  unfold okCall at ho ⊢
  rw [← h1, ← g1]
  exact ⟨ho.1, g2 ho.2.1, ho.2.2⟩
theorem pipe_okEq {a b : List CallD} (h : pipeEq a b = true) (ho : okPipe a) : okPipe b := by
  obtain ⟨g1, g2⟩ := all2_ok call_okEq h
  unfold okPipe at ho ⊢
  rw [← g1]
  exact ⟨ho.1, g2 ho.2⟩
theorem wdsM_len : ∀ (m : Nat) (t : List UInt8) (p : Nat), (wdsM m t p).1.length ≤ m
  | 0, _, _ => Nat.le_refl _
  | m + 1, t, p => by
    rw [wdsM]
    cases t == []
    · simp only [cond_false]
      cases blk (t.getD 0 0)
      · simp only [cond_false]
        cases (oneM t).e == 0
        · simp only [cond_false, List.length_nil]; omega
        · simp only [cond_true, List.length_cons]
          have := wdsM_len m (t.drop (oneM t).len) (p + (oneM t).len)
          omega
      · simp only [cond_true]
        have := wdsM_len m (t.drop 1) (p + 1)
        omega
    · simp only [cond_true, List.length_nil]; omega
theorem wordsOf_len (s : List UInt8) : (wordsOf s).length ≤ s.length := wdsM_len _ _ _
theorem back_call (f : Bool) (p : List CallD) (hp : okPipe p) (hw : okPW p) (hl : (printP p).length ≤ 1073741824) (hi : ∀ c ∈ p, ∀ a ∈ c.args, inR a) (hn : (printP p).length ≤ 67108864) (k : Out → Ans) :
    iFun Tryd.prog (layBk.hd Tryd.prog) layBk.fhs 0 7 [encPipe f p] [] k = k (.ret (.bool true) []) := by
  refine (back_fun f p k).trans ?_
  have d : decL decCall (AVal.list f p.length fun (i : Nat) => encCall (p.getD i callD0)) = p := decL_encL decCall_enc p
  have e1 : printR (AVal.list f p.length fun (i : Nat) => encCall (p.getD i callD0)) = printP p := by unfold printR; rw [d]
  have e2 : okPR (AVal.list f p.length fun (i : Nat) => encCall (p.getD i callD0)) := by unfold okPR; rw [d]; exact hw
  have e3 : encPsR (AVal.list f p.length fun (i : Nat) => encCall (p.getD i callD0)) = AVal.list f p.length fun (i : Nat) => encCall (p.getD i callD0) := by unfold encPsR; rw [d]; rfl
  have t0 : tst (okPR (AVal.list f p.length fun (i : Nat) => encCall (p.getD i callD0)) ∧ SubL [AVal.list f p.length fun (i : Nat) => encCall (p.getD i callD0)] [AVal.list f p.length fun (i : Nat) => encCall (p.getD i callD0)] ∧ True) = true := tst_true ⟨e2, .refl _, trivial⟩
  have t1 : tst ((AVal.list f p.length fun (i : Nat) => encCall (p.getD i callD0)) = encPipe (fullOf (AVal.list f p.length fun (i : Nat) => encCall (p.getD i callD0))) p ∧ okPipe p) = true := tst_true ⟨rfl, hp⟩
  simp only [e1, e3, d, t0, t1, cond_true]
  rw [dT (show (printP p).length ≤ 1073741824 ∧ (0 : Int) ≤ 0 ∧ (0 : Int) ≤ 1099511627776 by omega), cond_true]
  cases hb : pipeB p with
  | false =>
    simp only [Bool.not_false, cond_true, cond_false]
    cases (wordsE (printP p)).isSome <;> rfl
  | true =>
    obtain ⟨r1, r2, q, r3, r4⟩ := pipe_round p hb hi
    have hoq := pipe_okEq r4 hp
    have dW := wds_dec (wordsOf (printP p))
    have g1 : parV (AVal.list false (wordsOf (printP p)).length fun (i : Nat) => encWd 0 ((wordsOf (printP p)).getD i wd0)) 0 = q := by unfold parV parRR; rw [dW, r3]
    have g2 : parE (AVal.list false (wordsOf (printP p)).length fun (i : Nat) => encWd 0 ((wordsOf (printP p)).getD i wd0)) 0 = 0 := by unfold parE parRR; rw [dW, r3]
    have g3 : parOkR (AVal.list false (wordsOf (printP p)).length fun (i : Nat) => encWd 0 ((wordsOf (printP p)).getD i wd0)) := ⟨by rw [dW]; exact Nat.le_trans (wordsOf_len _) hn, by rw [dW]; exact r2⟩
    have dq : decL decCall (AVal.list false q.length fun (i : Nat) => encCall (q.getD i callD0)) = q := decL_encL decCall_enc q
    simp only [r1, Option.isSome_none, cond_false, Bool.not_true, g1, g2, dq]
    rw [tst_true ⟨g3, wds_sub _ _, by first | trivial | rfl⟩, cond_true, tst_true ⟨by first | trivial | rfl, by first | trivial | rfl, hp, hoq⟩, cond_true, r4]
    rfl
theorem back_ok (f : Bool) (p : List CallD) (hp : okPipe p) (hs : pW p ≤ 1048576) (hi : ∀ c ∈ p, ∀ a ∈ c.args, inR a) : CallOK Tryd.prog 7 [encPipe f p] [] (.ret (.bool true) []) := by
  have hl := printP_len p
  exact layBk_ok.call (back_call f p hp (okPW_of hs hi) (by omega) hi (by omega))
end Go.Mu
set_option linter.unusedVariables false
namespace Go.Mu
open Go
variable {H : Type}
theorem bulk_pos (d : DataW H) : 1 ≤ Go.Proofs.YtfepcpcnfibbnaaDoor.Rows.uptoBulk d := by
  cases d with
  | lit x => cases x <;> simp [Go.Proofs.YtfepcpcnfibbnaaDoor.Rows.uptoBulk]
  | _ => simp [Go.Proofs.YtfepcpcnfibbnaaDoor.Rows.uptoBulk]
mutual
theorem size_bulk : ∀ d : DataW H, (tOf d).size ≤ Go.Proofs.YtfepcpcnfibbnaaDoor.Rows.uptoBulk d
  | .lit (.bool _) => by simp [tOf, T.size, Go.Proofs.YtfepcpcnfibbnaaDoor.Rows.uptoBulk]
  | .lit (.int _ _) => by simp [tOf, T.size, Go.Proofs.YtfepcpcnfibbnaaDoor.Rows.uptoBulk]
  | .lit (.string _) => by simp [tOf, T.size, Go.Proofs.YtfepcpcnfibbnaaDoor.Rows.uptoBulk]
  | .lit (.float _ _) => by simp [tOf, T.size, T.sizes, Go.Proofs.YtfepcpcnfibbnaaDoor.Rows.uptoBulk]
  | .lit .nil => by simp [tOf, T.size, T.sizes, Go.Proofs.YtfepcpcnfibbnaaDoor.Rows.uptoBulk]
  | .nil => by simp [tOf, T.size, T.sizes, Go.Proofs.YtfepcpcnfibbnaaDoor.Rows.uptoBulk]
  | .ptr d => by simp [tOf, T.size, T.sizes, Go.Proofs.YtfepcpcnfibbnaaDoor.Rows.uptoBulk]
  | .slice es sp => by
    have := size_bulks es
    simp only [tOf, T.size, Go.Proofs.YtfepcpcnfibbnaaDoor.Rows.uptoBulk]
    omega
  | .agg ps => by
    have := size_bulks ps
    simp only [tOf, T.size, Go.Proofs.YtfepcpcnfibbnaaDoor.Rows.uptoBulk]
    omega
  | .iface _ d => by simp [tOf, T.size, T.sizes, Go.Proofs.YtfepcpcnfibbnaaDoor.Rows.uptoBulk]
  | .map _ => by simp [tOf, T.size, T.sizes, Go.Proofs.YtfepcpcnfibbnaaDoor.Rows.uptoBulk]
  | .held _ => by simp [tOf, T.size, T.sizes, Go.Proofs.YtfepcpcnfibbnaaDoor.Rows.uptoBulk]
theorem size_bulks : ∀ ds : List (DataW H), T.sizes (tOfs ds) ≤ Go.Proofs.YtfepcpcnfibbnaaDoor.Rows.uptoBulkAll ds
  | [] => by simp [tOfs, T.sizes, Go.Proofs.YtfepcpcnfibbnaaDoor.Rows.uptoBulkAll]
  | d :: ds => by
    have := size_bulk d
    have := size_bulks ds
    simp only [tOfs, T.sizes, Go.Proofs.YtfepcpcnfibbnaaDoor.Rows.uptoBulkAll]
    omega
end
theorem small_size {ds : List (DataW H)} (h : Go.Proofs.YtfepcpcnfibbnaaDoor.Rows.uptoSmall H ds = true) : T.sizes (tOfs ds) ≤ 1048576 := by
  unfold Go.Proofs.YtfepcpcnfibbnaaDoor.Rows.uptoSmall at h
  have := size_bulks ds
  have := of_decide_eq_true h
  omega
end Go.Mu
