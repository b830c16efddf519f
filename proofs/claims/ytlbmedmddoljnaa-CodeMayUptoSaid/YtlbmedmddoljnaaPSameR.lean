/-
  What muslinref19.SamePipe tells: what pipes.Same does.
-/
import Derived.Test.YtlbmedmddoljnaaPSame
set_option linter.unusedVariables false
set_option linter.unusedSimpArgs false
set_option maxRecDepth 100000
namespace Go.Mu
open Go Go.Proofs
noncomputable def sp15 : LSp := fun vs bs H k => match vs, bs with
  | [x, y, .int .i64 i, .int .i64 j, .ptr (.tmp 7) 0, .ptr (.tmp 8) 0, .int .i64 z], [c, d] => cond (tst (c = encArg (decArg c) ∧ d = encArg (decArg d) ∧ z = 0 ∧ (decArg c).path.length = (decArg d).path.length ∧ (decArg c).path.length ≤ 1099511627776))
      (cond (!all2 eqS (decArg c).path (decArg d).path) (k .ret [x, y, .bool false, .int .i64 i, .int .i64 j] [] H) (k (.exit 4) [x, y, .undef, .int .i64 i, .int .i64 j] [] H)) none
  | _, _ => none
noncomputable def sp9 : LSp := fun vs bs H k => match vs with
  | [x, y, .int .i64 i, .int .i64 z] => cond (tst (x = encPipe (fullOf x) (decL decCall x) ∧ y = encPipe (fullOf y) (decL decCall y) ∧ okPipe (decL decCall x) ∧ okPipe (decL decCall y) ∧ 0 ≤ i ∧ i < (decL decCall x).length ∧ i < (decL decCall y).length ∧ z = 0 ∧ ((decL decCall x).getD i.toNat callD0).args.length = ((decL decCall y).getD i.toNat callD0).args.length ∧ bs = []))
      (cond (!all2 argEq ((decL decCall x).getD i.toNat callD0).args ((decL decCall y).getD i.toNat callD0).args) (k .ret [x, y, .bool false, .int .i64 i] [] H) (k (.exit 2) [x, y, .undef, .int .i64 i] [] H)) none
  | _ => none
noncomputable def sp4 : LSp := fun vs bs H k => match vs with
  | [x, y, .int .i64 z] => cond (tst (x = encPipe (fullOf x) (decL decCall x) ∧ y = encPipe (fullOf y) (decL decCall y) ∧ okPipe (decL decCall x) ∧ okPipe (decL decCall y) ∧ z = 0 ∧ (decL decCall x).length = (decL decCall y).length ∧ bs = []))
      (cond (!all2 callEq (decL decCall x) (decL decCall y)) (k .ret [.bool false] [] H) (k (.exit 0) [.undef] [] H)) none
  | _ => none
noncomputable def spFH : FH := .of [(4, loopSpec 126 [0,1,5] [] [4] [] sp4), (9, loopSpec 126 [0,1,5,6] [] [0,1,4,5] [] sp9), (15, loopSpec 126 [0,1,5,6,7,8,9] [7,8] [0,1,4,5,6] [] sp15)]
noncomputable abbrev sp15Turn := lturn Try.prog layS spFH 50 15 [0,1,5,6,7,8,9] [7,8] [0,1,4,5,6] []
noncomputable abbrev sp9Turn := lturn Try.prog layS spFH 50 9 [0,1,5,6] [] [0,1,4,5] []
noncomputable abbrev sp4Turn := lturn Try.prog layS spFH 50 4 [0,1,5] [] [4] []
abbrev sp15St (x y : AVal) (i j : Int) (a b : ArgD) (m : Int) (H : Heap) (D : List (FuncId × List AVal)) : St := stL 126 [0,1,5,6,7,8,9] [x, y, .int .i64 i, .int .i64 j, .ptr (.tmp 7) 0, .ptr (.tmp 8) 0, .int .i64 m] [7,8] [encArg a, encArg b] H D
theorem sp15_step0 (x y : AVal) (i j : Int) (a b : ArgD) (m : Nat) (H : Heap) (D : List (FuncId × List AVal)) (k : Kont) : sp15Turn (sp15St x y i j a b m H D) k =
    cond (decide ((m : Int) < a.path.length)) (cond (decide ((m : Int) < a.path.length)) (cond (decide ((m : Int) < b.path.length)) (cond (!(a.path.getD (m : Int).toNat [] == b.path.getD (m : Int).toNat []))
      (k .ret (stL 126 [0,1,4,5,6] [x, y, .bool false, .int .i64 i, .int .i64 j] [] [] H D)) (k .normal (sp15St x y i j a b (IntKind.i64.wrap ((m : Int) + 1)) H D))) none) none)
      (k (.exit 4) (stL 126 [0,1,4,5,6] [x, y, .undef, .int .i64 i, .int .i64 j] [] [] H D)) := by kernel_rfl
theorem sp15_ok : SpOK sp15Turn 126 [0,1,5,6,7,8,9] [7,8] [0,1,4,5,6] [] sp15 := by
  intro vs bs H k out ho
  unfold sp15 at ho
  split at ho
  case h_2 => simp at ho
  rename_i x y i j z c d
  rw [Bool.cond_eq_ite] at ho
  split at ho
  case isFalse => simp at ho
  rename_i hc
  obtain ⟨hx, hy, rfl, hab, hn⟩ := of_tst hc
  generalize decArg c = a at hx hab hn ho
  generalize decArg d = b at hy hab ho
  subst hx hy
  have hrun := fun D k => search_any (turn := sp15Turn) (S := fun m => sp15St x y i j a b (m : Nat) H D) (hit := fun m => !eqS (a.path.getD m []) (b.path.getD m [])) (n := a.path.length) (e0 := .exit 4) (e1 := .ret) (R0 := stL 126 [0,1,4,5,6] [x, y, .undef, .int .i64 i, .int .i64 j] [] [] H D) (R1 := stL 126 [0,1,4,5,6] [x, y, .bool false, .int .i64 i, .int .i64 j] [] [] H D)
    (fun m k hi => by rw [sp15_step0, decide_eq_true (show (m : Int) < a.path.length by omega), decide_eq_true (show (m : Int) < b.path.length by omega), wrap_add1 (by omega), Int.toNat_natCast]; rfl)
    (fun k => by rw [sp15_step0, decide_eq_false (by omega)]; rfl) (by simp) (by simp) k
  rw [all2_any [] a.path b.path hab] at hrun
  cases ha : !all2 eqS a.path b.path with
  | true =>
    rw [ha] at ho
    exact ⟨_, _, _, _, _, _, .refl _, ⟨_, fun D k => (hrun D k).trans (by rw [ha]; rfl)⟩, .refl _, ho⟩
  | false =>
    rw [ha] at ho
    exact ⟨_, _, _, _, _, _, .refl _, ⟨_, fun D k => (hrun D k).trans (by rw [ha]; rfl)⟩, .refl _, ho⟩

abbrev sp9Re (fa fb : Bool) (a b : List CallD) (i : Int) (H : Heap) (D : List (FuncId × List AVal)) : St := stL 126 [0,1,4,5] [encPipe fa a, encPipe fb b, .bool false, .int .i64 i] [] [] H D
abbrev sp9St (fa fb : Bool) (a b : List CallD) (i j : Int) (H : Heap) (D : List (FuncId × List AVal)) : St := stL 126 [0,1,5,6] [encPipe fa a, encPipe fb b, .int .i64 i, .int .i64 j] [] [] H D
theorem sp9_step0 (fa fb : Bool) (a b : List CallD) (i j : Nat) (H : Heap) (D : List (FuncId × List AVal)) (k : Kont) : sp9Turn (sp9St fa fb a b i j H D) k =
    cond (decide ((i : Int) < a.length)) (cond (decide ((j : Int) < (a.getD (i : Int).toNat callD0).args.length)) (cond (decide ((i : Int) < a.length)) (cond (decide ((j : Int) < (a.getD (i : Int).toNat callD0).args.length)) (cond (decide ((i : Int) < b.length)) (cond (decide ((j : Int) < (b.getD (i : Int).toNat callD0).args.length))
      (cond (cond (cond (cond (cond (((a.getD (i : Int).toNat callD0).args.getD (j : Int).toNat argD0).kind != ((b.getD (i : Int).toNat callD0).args.getD (j : Int).toNat argD0).kind) true (!(((a.getD (i : Int).toNat callD0).args.getD (j : Int).toNat argD0).name == ((b.getD (i : Int).toNat callD0).args.getD (j : Int).toNat argD0).name))) true (((a.getD (i : Int).toNat callD0).args.getD (j : Int).toNat argD0).int != ((b.getD (i : Int).toNat callD0).args.getD (j : Int).toNat argD0).int)) true (!(((a.getD (i : Int).toNat callD0).args.getD (j : Int).toNat argD0).text == ((b.getD (i : Int).toNat callD0).args.getD (j : Int).toNat argD0).text))) true ((((a.getD (i : Int).toNat callD0).args.getD (j : Int).toNat argD0).path.length : Int) != ((b.getD (i : Int).toNat callD0).args.getD (j : Int).toNat argD0).path.length)) (k .ret (sp9Re fa fb a b i H D))
        (cond (tst (encArg ((a.getD (i : Int).toNat callD0).args.getD (j : Int).toNat argD0) = encArg (decArg (encArg ((a.getD (i : Int).toNat callD0).args.getD (j : Int).toNat argD0))) ∧ encArg ((b.getD (i : Int).toNat callD0).args.getD (j : Int).toNat argD0) = encArg (decArg (encArg ((b.getD (i : Int).toNat callD0).args.getD (j : Int).toNat argD0))) ∧ (0 : Int) = 0 ∧ (decArg (encArg ((a.getD (i : Int).toNat callD0).args.getD (j : Int).toNat argD0))).path.length = (decArg (encArg ((b.getD (i : Int).toNat callD0).args.getD (j : Int).toNat argD0))).path.length ∧ (decArg (encArg ((a.getD (i : Int).toNat callD0).args.getD (j : Int).toNat argD0))).path.length ≤ 1099511627776))
          (cond (!all2 eqS (decArg (encArg ((a.getD (i : Int).toNat callD0).args.getD (j : Int).toNat argD0))).path (decArg (encArg ((b.getD (i : Int).toNat callD0).args.getD (j : Int).toNat argD0))).path) (k .ret (sp9Re fa fb a b i H D)) (k .normal (sp9St fa fb a b i (IntKind.i64.wrap ((j : Int) + 1)) H D))) none)) none) none) none) none)
      (k (.exit 2) (stL 126 [0,1,4,5] [encPipe fa a, encPipe fb b, .undef, .int .i64 i] [] [] H D))) none := by kernel_rfl
theorem sp9_step (fa fb : Bool) (a b : List CallD) (i j : Nat) (H : Heap) (D : List (FuncId × List AVal)) (k : Kont) (ha : okPipe a) (hb : okPipe b) (hi : i < a.length) (hib : i < b.length) (hab : (a.getD i callD0).args.length = (b.getD i callD0).args.length) (hj : j < (a.getD i callD0).args.length) :
    sp9Turn (sp9St fa fb a b i j H D) k = cond (!argEq ((a.getD i callD0).args.getD j argD0) ((b.getD i callD0).args.getD j argD0)) (k .ret (sp9Re fa fb a b i H D)) (k .normal (sp9St fa fb a b i ((j + 1 : Nat) : Int) H D)) := by
  have oc : okCall (a.getD i callD0) := getD_ok ha.2 hi
  have oa : okArg ((a.getD i callD0).args.getD j argD0) := getD_ok oc.2.1 hj
  have hal := oc.1
  rw [sp9_step0, decide_eq_true (show (i : Int) < a.length by omega), Int.toNat_natCast, Int.toNat_natCast, decide_eq_true (show (j : Int) < ((a.getD i callD0).args.length : Int) by omega), decide_eq_true (show (i : Int) < b.length by omega), decide_eq_true (show (j : Int) < ((b.getD i callD0).args.length : Int) by omega), wrap_add1 (by omega), decArg_enc, decArg_enc, len_ne]
  generalize (a.getD i callD0).args.getD j argD0 = x at oa ⊢
  generalize (b.getD i callD0).args.getD j argD0 = y
  unfold argEq
  rw [show (x.kind != y.kind) = (!(x.kind == y.kind)) from rfl, show (x.int != y.int) = (!(x.int == y.int)) from rfl]
  by_cases hp : x.path.length = y.path.length
  · rw [decide_eq_true hp, tst_true ⟨rfl, rfl, rfl, hp, oa.1⟩]
    simp only [cond_true]
    generalize (x.kind == y.kind) = b1
    generalize (x.name == y.name) = b2
    generalize (x.int == y.int) = b3
    generalize (x.text == y.text) = b4
    generalize all2 eqS x.path y.path = b5
    cases b1 <;> cases b2 <;> cases b3 <;> cases b4 <;> cases b5 <;> rfl
  · rw [decide_eq_false hp, all2_len _ _ hp]
    simp only [cond_true]
    generalize (x.kind == y.kind) = b1
    generalize (x.name == y.name) = b2
    generalize (x.int == y.int) = b3
    generalize (x.text == y.text) = b4
    cases b1 <;> cases b2 <;> cases b3 <;> cases b4 <;> rfl
theorem sp9_ok : SpOK sp9Turn 126 [0,1,5,6] [] [0,1,4,5] [] sp9 := by
  intro vs bs H k out ho
  unfold sp9 at ho
  split at ho
  case h_2 => simp at ho
  rename_i x y i z
  rw [Bool.cond_eq_ite] at ho
  split at ho
  case isFalse => simp at ho
  rename_i hc
  obtain ⟨hx, hy, oka, okb, hi0, hi1, hi2, rfl, hab, rfl⟩ := of_tst hc
  generalize fullOf x = fa at hx
  generalize fullOf y = fb at hy
  generalize decL decCall x = a at hx oka hi1 hab ho
  generalize decL decCall y = b at hy okb hi2 hab ho
  subst hx hy
  obtain ⟨i, rfl⟩ : ∃ n : Nat, i = n := ⟨i.toNat, by omega⟩
  rw [Int.toNat_natCast] at hab ho
  have hrun := fun D k => search_any (turn := sp9Turn) (S := fun j => sp9St fa fb a b i (j : Nat) H D) (hit := fun j => !argEq ((a.getD i callD0).args.getD j argD0) ((b.getD i callD0).args.getD j argD0)) (n := (a.getD i callD0).args.length) (e0 := .exit 2) (e1 := .ret)
    (R0 := stL 126 [0,1,4,5] [encPipe fa a, encPipe fb b, .undef, .int .i64 i] [] [] H D) (R1 := sp9Re fa fb a b i H D)
    (fun j k hj => sp9_step fa fb a b i j H D k oka okb (by omega) (by omega) hab hj)
    (fun k => by rw [sp9_step0, decide_eq_true hi1, Int.toNat_natCast, decide_eq_false (by omega)]; rfl) (by simp) (by simp) k
  rw [all2_any argD0 _ _ hab] at hrun
  cases ha : !all2 argEq (a.getD i callD0).args (b.getD i callD0).args with
  | true =>
    rw [ha] at ho
    exact ⟨_, _, _, _, _, _, .refl _, ⟨_, fun D k => (hrun D k).trans (by rw [ha]; rfl)⟩, .refl _, ho⟩
  | false =>
    rw [ha] at ho
    exact ⟨_, _, _, _, _, _, .refl _, ⟨_, fun D k => (hrun D k).trans (by rw [ha]; rfl)⟩, .refl _, ho⟩

abbrev sp4St (fa fb : Bool) (a b : List CallD) (i : Int) (H : Heap) (D : List (FuncId × List AVal)) : St := stL 126 [0,1,5] [encPipe fa a, encPipe fb b, .int .i64 i] [] [] H D
theorem sp4_step0 (fa fb : Bool) (a b : List CallD) (i : Nat) (H : Heap) (D : List (FuncId × List AVal)) (k : Kont) : sp4Turn (sp4St fa fb a b i H D) k =
    cond (decide ((i : Int) < a.length)) (cond (decide ((i : Int) < a.length)) (cond (decide ((i : Int) < b.length))
      (cond (decide ((i : Int) < a.length) || !!!((a.getD (i : Int).toNat callD0).name == (b.getD (i : Int).toNat callD0).name)) (cond (decide ((i : Int) < b.length) || !!!((a.getD (i : Int).toNat callD0).name == (b.getD (i : Int).toNat callD0).name))
        (cond (cond (!((a.getD (i : Int).toNat callD0).name == (b.getD (i : Int).toNat callD0).name)) true (((a.getD (i : Int).toNat callD0).args.length : Int) != (b.getD (i : Int).toNat callD0).args.length)) (k .ret (stL 126 [4] [.bool false] [] [] H D))
          (cond (tst (encPipe fa a = encPipe (fullOf (encPipe fa a)) (decL decCall (encPipe fa a)) ∧ encPipe fb b = encPipe (fullOf (encPipe fb b)) (decL decCall (encPipe fb b)) ∧ okPipe (decL decCall (encPipe fa a)) ∧ okPipe (decL decCall (encPipe fb b)) ∧ 0 ≤ (i : Int) ∧ (i : Int) < (decL decCall (encPipe fa a)).length ∧ (i : Int) < (decL decCall (encPipe fb b)).length ∧ (0 : Int) = 0 ∧ ((decL decCall (encPipe fa a)).getD (i : Int).toNat callD0).args.length = ((decL decCall (encPipe fb b)).getD (i : Int).toNat callD0).args.length ∧ ([] : List (List AVal)) = []))
            (cond (!all2 argEq ((decL decCall (encPipe fa a)).getD (i : Int).toNat callD0).args ((decL decCall (encPipe fb b)).getD (i : Int).toNat callD0).args) (k .ret (stL 126 [4] [.bool false] [] [] H D))
              (k .normal (sp4St fa fb a b (IntKind.i64.wrap ((i : Int) + 1)) H D))) none)) none) none) none) none)
      (k (.exit 0) (stL 126 [4] [.undef] [] [] H D)) := by kernel_rfl
theorem sp4_step (fa fb : Bool) (a b : List CallD) (i : Nat) (H : Heap) (D : List (FuncId × List AVal)) (k : Kont) (ha : okPipe a) (hb : okPipe b) (hi : i < a.length) (hib : i < b.length) :
    sp4Turn (sp4St fa fb a b i H D) k = cond (!callEq (a.getD i callD0) (b.getD i callD0)) (k .ret (stL 126 [4] [.bool false] [] [] H D)) (k .normal (sp4St fa fb a b ((i + 1 : Nat) : Int) H D)) := by
  have hal := ha.1
  rw [sp4_step0, decide_eq_true (show (i : Int) < a.length by omega), decide_eq_true (show (i : Int) < b.length by omega), wrap_add1 (by omega), len_ne, decPipe_enc, decPipe_enc, Int.toNat_natCast]
  unfold callEq
  by_cases hp : (a.getD i callD0).args.length = (b.getD i callD0).args.length
  · rw [decide_eq_true hp, tst_true ⟨rfl, rfl, ha, hb, by omega, by omega, by omega, rfl, hp, rfl⟩]
    generalize ((a.getD i callD0).name == (b.getD i callD0).name) = b1
    generalize all2 argEq (a.getD i callD0).args (b.getD i callD0).args = b2
    cases b1 <;> cases b2 <;> rfl
  · rw [decide_eq_false hp, all2_len _ _ hp]
    generalize ((a.getD i callD0).name == (b.getD i callD0).name) = b1
    cases b1 <;> rfl
theorem sp4_ok : SpOK sp4Turn 126 [0,1,5] [] [4] [] sp4 := by
  intro vs bs H k out ho
  unfold sp4 at ho
  split at ho
  case h_2 => simp at ho
  rename_i x y z
  rw [Bool.cond_eq_ite] at ho
  split at ho
  case isFalse => simp at ho
  rename_i hc
  obtain ⟨hx, hy, oka, okb, rfl, hab, rfl⟩ := of_tst hc
  generalize fullOf x = fa at hx
  generalize fullOf y = fb at hy
  generalize decL decCall x = a at hx oka hab ho
  generalize decL decCall y = b at hy okb hab ho
  subst hx hy
  have hrun := fun D k => search_any (turn := sp4Turn) (S := fun i => sp4St fa fb a b (i : Nat) H D) (hit := fun i => !callEq (a.getD i callD0) (b.getD i callD0)) (n := a.length) (e0 := .exit 0) (e1 := .ret)
    (R0 := stL 126 [4] [.undef] [] [] H D) (R1 := stL 126 [4] [.bool false] [] [] H D)
    (fun i k hi => sp4_step fa fb a b i H D k oka okb hi (by omega))
    (fun k => by rw [sp4_step0, decide_eq_false (by omega)]; rfl) (by simp) (by simp) k
  rw [all2_any callD0 _ _ hab] at hrun
  cases ha : !all2 callEq a b with
  | true =>
    rw [ha] at ho
    exact ⟨_, _, _, _, _, _, .refl _, ⟨_, fun D k => (hrun D k).trans (by rw [ha]; rfl)⟩, .refl _, ho⟩
  | false =>
    rw [ha] at ho
    exact ⟨_, _, _, _, _, _, .refl _, ⟨_, fun D k => (hrun D k).trans (by rw [ha]; rfl)⟩, .refl _, ho⟩
abbrev spF : Nat := 50
theorem sp_loops : LOk Try.prog spFH (codeOf Try.prog spF) := by
  have f15 : spFH.loops (firstRegion (loopAt 15 (codeOf Try.prog spF))) = some (loopSpec 126 [0,1,5,6,7,8,9] [7,8] [0,1,4,5,6] [] sp15) := by kernel_rfl
  have f9 : spFH.loops (firstRegion (loopAt 9 (codeOf Try.prog spF))) = some (loopSpec 126 [0,1,5,6] [] [0,1,4,5] [] sp9) := by kernel_rfl
  have f4 : spFH.loops (firstRegion (loopAt 4 (codeOf Try.prog spF))) = some (loopSpec 126 [0,1,5] [] [4] [] sp4) := by kernel_rfl
  have e15 : loopsIn (loopAt 15 (codeOf Try.prog spF)) = [] := by kernel_rfl
  have e9 : loopsIn (loopAt 9 (codeOf Try.prog spF)) = [loopAt 15 (codeOf Try.prog spF)] := by kernel_rfl
  have e4 : loopsIn (loopAt 4 (codeOf Try.prog spF)) = [loopAt 9 (codeOf Try.prog spF), loopAt 15 (codeOf Try.prog spF)] := by kernel_rfl
  have e : loopsIn (codeOf Try.prog spF) = [loopAt 4 (codeOf Try.prog spF), loopAt 9 (codeOf Try.prog spF), loopAt 15 (codeOf Try.prog spF)] := by kernel_rfl
  have t15 : LoopTold Try.prog (loopAt 15 (codeOf Try.prog spF)) (loopSpec 126 [0,1,5,6,7,8,9] [7,8] [0,1,4,5,6] [] sp15) := layS_ok.told (LOk.of _ (fun d hd => by rw [e15] at hd; cases hd)) sp15_ok
  have t9 : LoopTold Try.prog (loopAt 9 (codeOf Try.prog spF)) (loopSpec 126 [0,1,5,6] [] [0,1,4,5] [] sp9) := layS_ok.told (LOk.of _ (fun d hd sp hsp => by
    rw [e9, List.mem_singleton] at hd
    subst hd
    rw [f15, Option.some.injEq] at hsp
    subst hsp; exact t15)) sp9_ok
  have t4 : LoopTold Try.prog (loopAt 4 (codeOf Try.prog spF)) (loopSpec 126 [0,1,5] [] [4] [] sp4) := layS_ok.told (LOk.of _ (fun d hd sp hsp => by
    rw [e4, List.mem_cons, List.mem_singleton] at hd
    rcases hd with rfl | rfl
    · rw [f9, Option.some.injEq] at hsp
      subst hsp; exact t9
    · rw [f15, Option.some.injEq] at hsp
      subst hsp; exact t15)) sp4_ok
  refine LOk.of _ (fun d hd sp hsp => ?_)
  rw [e, List.mem_cons, List.mem_cons, List.mem_singleton] at hd
  rcases hd with rfl | rfl | rfl
  · rw [f4, Option.some.injEq] at hsp
    subst hsp; exact t4
  · rw [f9, Option.some.injEq] at hsp
    subst hsp; exact t9
  · rw [f15, Option.some.injEq] at hsp
    subst hsp; exact t15
noncomputable def layT : Lay := layS.addL spF spFH
theorem layT_ok : layT.OK Try.prog := layS_ok.addL sp_loops
theorem sp_fun (fa fb : Bool) (a b : List CallD) (k : Out → Ans) : iFun Try.prog (layT.hd Try.prog) layT.fhs 0 50 [encPipe fa a, encPipe fb b] [] k =
    cond ((a.length : Int) != b.length) (k (.ret (.bool false) []))
      (cond (tst (encPipe fa a = encPipe (fullOf (encPipe fa a)) (decL decCall (encPipe fa a)) ∧ encPipe fb b = encPipe (fullOf (encPipe fb b)) (decL decCall (encPipe fb b)) ∧ okPipe (decL decCall (encPipe fa a)) ∧ okPipe (decL decCall (encPipe fb b)) ∧ (0 : Int) = 0 ∧ (decL decCall (encPipe fa a)).length = (decL decCall (encPipe fb b)).length ∧ ([] : List (List AVal)) = []))
        (cond (!all2 callEq (decL decCall (encPipe fa a)) (decL decCall (encPipe fb b))) (k (.ret (.bool false) [])) (k (.ret (.bool true) []))) none) := by kernel_rfl
theorem sp_call {a b : List CallD} (ha : okPipe a) (hb : okPipe b) (fa fb : Bool) (k : Out → Ans) : iFun Try.prog (layT.hd Try.prog) layT.fhs 0 50 [encPipe fa a, encPipe fb b] [] k = k (.ret (.bool (pipeEq a b)) []) := by
  rw [sp_fun, len_ne, decPipe_enc, decPipe_enc]
  unfold pipeEq
  by_cases h : a.length = b.length
  · rw [decide_eq_true h, tst_true ⟨rfl, rfl, ha, hb, rfl, h, rfl⟩]
    cases all2 callEq a b <;> rfl
  · rw [decide_eq_false h, all2_len a b h]; rfl
theorem spTold_ok (xs : List AVal) (H : Heap) (k : Out → Ans) (out : Out) (ho : sameTold xs H k = some out) : ∃ o, CallOK Try.prog 50 xs H o ∧ k o = some out := by
  unfold sameTold at ho
  split at ho
  · rename_i x y
    rw [Bool.cond_eq_ite] at ho
    split at ho
    · rename_i hc
      obtain ⟨hx, hy, hn, hm⟩ := of_tst hc
      generalize fullOf x = fa at hx
      generalize fullOf y = fb at hy
      generalize decL decCall x = a at hx hn ho
      generalize decL decCall y = b at hy hm ho
      subst hx hy
      exact ⟨_, layT_ok.call (sp_call hn hm fa fb), ho⟩
    · simp at ho
  · simp at ho
noncomputable def layU : Lay := layT.addF 50 sameTold
theorem layU_ok : layU.OK Try.prog := layT_ok.addF spTold_ok
end Go.Mu
