/-
  Lemmas on the given program (part 4).
-/
import Derived.Test.YtjaekcceagbefaaGreatDoorPW3
import Derived.Test.YtjaekcceagbefaaGreatDoorProg
import Derived.KernelRfl
import Derived.Shelf.LaysM
import Derived.Shelf.Strings.Shaped
import Derived.WalkKit
import Derived.ProofKit
import Derived.Lib.UnsafeStr
import Derived.Shelf.RegionOpenPlain
import Derived.Shelf.GgClosure.StringsIndexFunc
import Derived.Lib.TrimUEq
import Derived.Shelf.Strings.OnBuilder
import Derived.Shelf.Strings.Split
import Derived.Shelf.Strings.Cut
set_option linter.unusedVariables false
set_option linter.unusedSimpArgs false
set_option maxRecDepth 100000
namespace Go.Mu
open Go Go.Proofs
def blk (c : UInt8) : Bool := c == 32 || c == 9 || c == 10 || c == 12 || c == 13
def blSet : Vs := (List.range 256).map fun i => .bool (blk (UInt8.ofNat i))
def trimL (s : Oc) : Oc := s.dropWhile blk
def trimR (s : Oc) : Oc := (s.reverse.dropWhile blk).reverse
abbrev blCs : Oc := [32, 9, 10, 12, 13]
abbrev atB (cs : Vs) (c : UInt8) : AVal := cs.getD (0 + (c.toNat : Int).toNat * 1 + 0) .undef
theorem atB_eq (c : UInt8) : atB blSet c = .bool (blk c) := by
 unfold atB blSet
 have hc := c.toNat_lt
 simp [gQ, List.getElem?_map, List.getElem?_range hc]
theorem tl_step (s : Oc) (cs : Vs) (D : Dfs) (k : Kont) : lturn Tryz.prog Lay.nil {} 53 1 [0,1] [] [0] [] (stL 16 [0,1] [.str s, .ptr (.hp 0) 0] [] [] [.var cs] D) k =
 cond (decide ((s.length : Int) > 0)) (cond (decide (0 < (s.length : Int))) (cond (decide (((s.getD 0 0).toNat : Int) < 256)) (cond (decide (0 + ((s.getD 0 0).toNat : Int).toNat * 1 + 1 ≤ cs.length) && isBool (atB cs (s.getD 0 0)))
  (cond (!boolOf (atB cs (s.getD 0 0))) (k (.exit 0) (stL 16 [0] [.str s] [] [] [.var cs] D))
   (cond (decide (1 ≤ (s.length : Int)) && decide ((s.length : Int) ≤ (s.length : Int))) (k .normal (stL 16 [0,1] [.str ((s.take (s.length : Int).toNat).drop 1), .ptr (.hp 0) 0] [] [] [.var cs] D)) none)) none) none) none)
  (k (.exit 0) (stL 16 [0] [.str s] [] [] [.var cs] D)) := by kernel_rfl
abbrev lst (s : Oc) : UInt8 := s.getD (IntKind.i64.wrap ((s.length : Int) - 1)).toNat 0
theorem tr_step (s : Oc) (cs : Vs) (D : Dfs) (k : Kont) : lturn Tryz.prog Lay.nil {} 77 1 [0,1] [] [0] [] (stL 22 [0,1] [.str s, .ptr (.hp 0) 0] [] [] [.var cs] D) k =
 cond (decide ((s.length : Int) > 0)) (cond (decide (0 ≤ IntKind.i64.wrap ((s.length : Int) - 1)) && decide (IntKind.i64.wrap ((s.length : Int) - 1) < (s.length : Int))) (cond (decide (((lst s).toNat : Int) < 256)) (cond (decide (0 + ((lst s).toNat : Int).toNat * 1 + 1 ≤ cs.length) && isBool (atB cs (lst s)))
  (cond (!boolOf (atB cs (lst s))) (k (.exit 0) (stL 22 [0] [.str s] [] [] [.var cs] D))
   (cond (decide (0 ≤ IntKind.i64.wrap ((s.length : Int) - 1)) && decide (IntKind.i64.wrap ((s.length : Int) - 1) ≤ (s.length : Int))) (k .normal (stL 22 [0,1] [.str (s.take (IntKind.i64.wrap ((s.length : Int) - 1)).toNat), .ptr (.hp 0) 0] [] [] [.var cs] D)) none)) none) none) none)
  (k (.exit 0) (stL 22 [0] [.str s] [] [] [.var cs] D)) := by kernel_rfl
noncomputable def trimSp (f : Oc → Oc) : LSp := mkL (fun vs _ _ => aS vs 0) (fun s => s.length ≤ 1099511627776) (fun s => [.str s, .ptr (.hp 0) 0]) (fun _ => []) (fun _ => [.var blSet]) (fun s k => k (.exit 0) [.str (f s)] [] [.var blSet])
theorem blSet_len : blSet.length = 256 := by simp [blSet]
theorem tl_ok : SpOK (lturn Tryz.prog Lay.nil {} 53 1 [0,1] [] [0] []) 16 [0,1] [] [0] [] (trimSp trimL) := by
 refine mkL_ok (fun s hs => ⟨_, _, _, _, fun k => rfl, ?_⟩)
 induction s with
 | nil => exact .stop (by simp) (fun D k => by rw [tl_step]; rfl)
 | cons c t ih =>
  have hc := c.toNat_lt
  simp only [List.length_cons] at hs
  have key := fun D k => tl_step (c :: t) blSet D k
  simp only [List.getD_cons_zero, atB_eq, blSet_len, List.length_cons] at key
  simp (disch := omega) only [dT, cond_true, isBool, boolOf, Bool.and_self, Bool.and_true, Int.toNat_natCast] at key
  cases hb : blk c with
  | true =>
   have e : trimL (c :: t) = trimL t := by simp [trimL, hb]
   have e2 : (c :: t).take (t.length + 1) = c :: t := List.take_length (l := c :: t)
   rw [e]
   exact .step (fun D k => by rw [key, hb, e2]; rfl) (ih (by omega))
  | false =>
   have e : trimL (c :: t) = c :: t := by simp [trimL, hb]
   rw [e]
   exact .stop (by simp) (fun D k => by rw [key, hb]; rfl)
theorem trimR_snoc (s : Oc) (c : UInt8) : trimR (s ++ [c]) = cond (blk c) (trimR s) (s ++ [c]) := by
 unfold trimR
 rw [List.reverse_append]
 simp only [List.reverse_cons, List.reverse_nil, List.nil_append, List.singleton_append, List.dropWhile_cons]
 cases blk c <;> simp
theorem tr_ok : SpOK (lturn Tryz.prog Lay.nil {} 77 1 [0,1] [] [0] []) 22 [0,1] [] [0] [] (trimSp trimR) := by
 refine mkL_ok (fun s hs => ⟨_, _, _, _, fun k => rfl, ?_⟩)
 generalize hn : s.length = n at hs
 induction n generalizing s with
 | zero =>
  have : s = [] := List.eq_nil_of_length_eq_zero hn
  subst this
  exact .stop (by simp) (fun D k => by rw [tr_step]; rfl)
 | succ n ih =>
  obtain ⟨t, c, rfl⟩ : ∃ t c, s = t ++ [c] := ⟨s.dropLast, s.getLast (by intro e; subst e; simp at hn), (List.dropLast_concat_getLast _).symm⟩
  have ht : t.length = n := by simpa using hn
  have hc := c.toNat_lt
  have ew : IntKind.i64.wrap (((n + 1 : Nat) : Int) - 1) = (n : Int) := by rw [wrap_of (by omega) (by omega)]; omega
  have el : (t ++ [c]).getD n 0 = c := by simp [gQ, ← ht]
  have e2 : (t ++ [c]).take n = t := by rw [← ht]; simp
  rw [trimR_snoc]
  have key := fun D k => tr_step (t ++ [c]) blSet D k
  simp only [lst, hn, ew, Int.toNat_natCast, el, atB_eq, blSet_len, e2] at key
  simp (disch := omega) only [dT, cond_true, isBool, boolOf, Bool.and_self, Bool.and_true] at key
  cases hb : blk c with
  | true => exact .step (fun D k => by rw [key, hb]; rfl) (ih t (by omega) (by omega))
  | false => exact .stop (by simp) (fun D k => by rw [key, hb]; rfl)
noncomputable def layT1 : Lay := (Lay.nil.addL 53 (.of [(1, loopSpec 16 [0,1] [] [0] [] (trimSp trimL))])).addL 77 (.of [(1, loopSpec 22 [0,1] [] [0] [] (trimSp trimR))])
theorem layT1_ok : layT1.OK Tryz.prog := by
 have h1 := Lay.nil_ok (P := Tryz.prog)
 have a : (Lay.nil.addL 53 (.of [(1, loopSpec 16 [0,1] [] [0] [] (trimSp trimL))])).OK Tryz.prog := h1.loop1 (id := 1) (by kernel_rfl) (by kernel_rfl) (by kernel_rfl) tl_ok
 refine Lay.OK.addL a (LOk.of _ (fun d hd sp' hsp => ?_))
 have e1 : loopsIn (codeOf Tryz.prog 77) = [loopAt 1 (codeOf Tryz.prog 77)] := by kernel_rfl
 have e3 : (FH.of [(1, loopSpec 22 [0,1] [] [0] [] (trimSp trimR))]).loops (firstRegion (loopAt 1 (codeOf Tryz.prog 77))) = some (loopSpec 22 [0,1] [] [0] [] (trimSp trimR)) := by kernel_rfl
 rw [e1, List.mem_singleton] at hd
 subst hd
 rw [e3, sJ] at hsp
 subst hsp
 exact h1.told (LOk.of _ (fun d hd => by have e2 : loopsIn (loopAt 1 (codeOf Tryz.prog 77)) = [] := by kernel_rfl
                                         rw [e2] at hd; cases hd)) tr_ok
theorem set_eval (k : Out → Ans) : iAll Tryz.prog (hd (fun _ => none)) (fun _ => false) (fun f => match f with | 52 => { live := [(2, [0, 2, 4])] } | _ => {}) 60 20 52 [.str blCs] [] k = k (.ret (.tuple [.agg blSet, .bool true]) []) := by kernel_rfl
theorem noneTab_ok : HOK Tryz.prog (hd (fun _ => none)) := hd_ok (fun g s h => by simp at h)
theorem callOK_ev {spec : Hd} {known : FuncId → Bool} {fhs : FuncId → FH} {F n : Nat} {f : FuncId} {xs : Vs} {H : Heap} {o : Out} (hs : HOK Tryz.prog spec) (hl : LoopsOK Tryz.prog fhs) (h : ∀ k, iAll Tryz.prog spec known fhs F n f xs H k = k o) : CallOK Tryz.prog f xs H o := by
 obtain ⟨o', h1, h2⟩ := mu_sound (known := known) hs hl F n f xs H some o (h some)
 cases h2
 exact h1
theorem set_ok : CallOK Tryz.prog 52 [.str blCs] [] (.ret (.tuple [.agg blSet, .bool true]) []) :=
 callOK_ev noneTab_ok (.none (fun g i => by split <;> rfl)) set_eval
noncomputable def setTold : FSp := mkF (fun _ _ => ()) (fun _ => True) (fun _ => [.str blCs]) (fun _ => []) (fun _ k => k (.ret (.tuple [.agg blSet, .bool true]) []))
noncomputable def layT2 : Lay := ((layT1.addF 52 setTold).addL 60 { heap := [5] }).addL 28 { heap := [5] } |>.addL 59 { heap := [5] }
theorem heap_ok {L : Lay} (h : L.OK Tryz.prog) {f : FuncId} {l : List Nat} (h0 : loopsIn (codeOf Tryz.prog f) = []) : (L.addL f { heap := l }).OK Tryz.prog := h.addL (LOk.of _ (fun d hd => by rw [h0] at hd; cases hd))
theorem layT2_ok : layT2.OK Tryz.prog :=
 heap_ok (heap_ok (heap_ok (layT1_ok.addF (mkF_ok fun _ _ => ⟨_, fun _ => rfl, set_ok⟩)) (by kernel_rfl)) (by kernel_rfl)) (by kernel_rfl)
noncomputable abbrev tS1 : Bool := tst (True ∧ SubL [.str blCs] [.str blCs] ∧ ([] : Heap) = [])
noncomputable abbrev tS2 (s : Oc) : Bool := tst (s.length ≤ 1099511627776 ∧ SubTL [.str s, .ptr (.hp 0) 0] [.str s, .ptr (.hp 0) 0] ∧ ([] : List Vs) = [] ∧ [Obj.var blSet] = [Obj.var blSet])
theorem trimL_fun (s : Oc) (k : Out → Ans) : iFun Tryz.prog (layT2.hd Tryz.prog) layT2.fhs 0 28 [.str s, .str blCs] [] k =
 cond (cond (s == []) true false) (k (.ret (.str s) [])) (cond tS1 (cond (tS2 s) (k (.ret (.str (trimL s)) [.var blSet])) none) none) := by kernel_rfl
theorem trimR_fun (s : Oc) (k : Out → Ans) : iFun Tryz.prog (layT2.hd Tryz.prog) layT2.fhs 0 59 [.str s, .str blCs] [] k =
 cond (cond (s == []) true false) (k (.ret (.str s) [])) (cond tS1 (cond (tS2 s) (k (.ret (.str (trimR s)) [.var blSet])) none) none) := by kernel_rfl
theorem trim_fun (s : Oc) (k : Out → Ans) : iFun Tryz.prog (layT2.hd Tryz.prog) layT2.fhs 0 60 [.str s, .str blCs] [] k =
 cond (cond (s == []) true false) (k (.ret (.str s) [])) (cond tS1 (cond (tS2 s) (cond (tS2 (trimR s)) (k (.ret (.str (trimL (trimR s))) [.var blSet])) none) none) none) := by kernel_rfl
theorem tS2_true {s : Oc} (h : s.length ≤ 1099511627776) : tS2 s = true := tstL h
theorem tS1_true : tS1 = true := tst_true ⟨trivial, .refl _, rfl⟩
theorem trimR_len (s : Oc) : (trimR s).length ≤ s.length := by
 unfold trimR
 rw [List.length_reverse]
 have := (List.dropWhile_suffix (p := blk) (l := s.reverse)).length_le
 rwa [List.length_reverse] at this
theorem trimL_len (s : Oc) : (trimL s).length ≤ s.length := (List.dropWhile_suffix (p := blk) (l := s)).length_le
def trimLTold : FSp := mkFS [.s, .c blCs] (fun xs => decide ((aS xs 0).length ≤ 1099511627776)) (fun xs k => k (.ret (.str (trimL (aS xs 0))) []))
def trimRTold : FSp := mkFS [.s, .c blCs] (fun xs => decide ((aS xs 0).length ≤ 1099511627776)) (fun xs k => k (.ret (.str (trimR (aS xs 0))) []))
def trimTold : FSp := mkFS [.s, .c blCs] (fun xs => decide ((aS xs 0).length ≤ 1099511627776)) (fun xs k => k (.ret (.str (trimL (trimR (aS xs 0)))) []))
theorem trimLTold_ok : ∀ xs H k out, trimLTold xs H k = some out → ∃ o, CallOK Tryz.prog 28 xs H o ∧ k o = some out := mkFS_ok fun ys xs e h => by
 obtain ⟨s, rfl⟩ : ∃ s, xs = [.str s, .str blCs] := ⟨_, e⟩
 replace h : s.length ≤ 1099511627776 := of_decide_eq_true h
 refine ⟨_, fun k => rfl, ?_⟩
 cases s with
 | nil => exact layT2_ok.callF rfl (fun k => by rw [trimL_fun]; rfl)
 | cons c t => exact layT2_ok.callF rfl (fun k => by rw [trimL_fun, tS1_true, tS2_true h]; rfl)
theorem trimRTold_ok : ∀ xs H k out, trimRTold xs H k = some out → ∃ o, CallOK Tryz.prog 59 xs H o ∧ k o = some out := mkFS_ok fun ys xs e h => by
 obtain ⟨s, rfl⟩ : ∃ s, xs = [.str s, .str blCs] := ⟨_, e⟩
 replace h : s.length ≤ 1099511627776 := of_decide_eq_true h
 refine ⟨_, fun k => rfl, ?_⟩
 cases s with
 | nil => exact layT2_ok.callF rfl (fun k => by rw [trimR_fun]; rfl)
 | cons c t => exact layT2_ok.callF rfl (fun k => by rw [trimR_fun, tS1_true, tS2_true h]; rfl)
theorem trimTold_ok : ∀ xs H k out, trimTold xs H k = some out → ∃ o, CallOK Tryz.prog 60 xs H o ∧ k o = some out := mkFS_ok fun ys xs e h => by
 obtain ⟨s, rfl⟩ : ∃ s, xs = [.str s, .str blCs] := ⟨_, e⟩
 replace h : s.length ≤ 1099511627776 := of_decide_eq_true h
 refine ⟨_, fun k => rfl, ?_⟩
 cases s with
 | nil => exact layT2_ok.callF rfl (fun k => by rw [trim_fun]; rfl)
 | cons c t => exact layT2_ok.callF rfl (fun k => by rw [trim_fun, tS1_true, tS2_true h, tS2_true (Nat.le_trans (trimR_len _) h)]; rfl)
end Go.Mu
namespace Go.Proofs
open Go.Shelf
def Tryz.idxRen : Ren := {
 f := fun x => match x with
  | 219 => 27
  | 217 => 47
  | 225 => 48
  | 224 => 49
  | 267 => 50
  | 266 => 68
  | 314 => 69
  | n => n,
 t := fun x => match x with
  | 9 => 9
  | 3 => 3
  | 4 => 4
  | 5 => 5
  | 46 => 101
  | 146 => 123
  | 51 => 122
  | n => n,
 g := fun x => match x with
  | 1 => 0
  | n => n }
theorem Tryz.idxLays : Lays.n219 Tryz.prog Tryz.idxRen := {
 mixed := by kernel_rfl
 f217 := Tryz.func47.trans (congrArg some (by kernel_rfl))
 f219 := Tryz.func27.trans (congrArg some (by kernel_rfl))
 f224 := Tryz.func49.trans (congrArg some (by kernel_rfl))
 f225 := Tryz.func48.trans (congrArg some (by kernel_rfl))
 f266 := Tryz.func68.trans (congrArg some (by kernel_rfl))
 f267 := Tryz.func50.trans (congrArg some (by kernel_rfl))
 f314 := Tryz.func69.trans (congrArg some (by kernel_rfl))
 t3 := Tryz.underlying3
 a3 := Tryz.isAgg3
 z3 := Tryz.sizeOf3
 v3 := Tryz.zeroValue3
 t4 := Tryz.underlying4
 a4 := Tryz.isAgg4
 z4 := Tryz.sizeOf4
 v4 := Tryz.zeroValue4
 t5 := Tryz.underlying5
 a5 := Tryz.isAgg5
 z5 := Tryz.sizeOf5
 v5 := Tryz.zeroValue5
 t9 := Tryz.underlying9
 a9 := Tryz.isAgg9
 z9 := Tryz.sizeOf9
 v9 := Tryz.zeroValue9
 t46 := Tryz.underlying101
 a46 := Tryz.isAgg101
 z46 := Tryz.sizeOf101
 v46 := Tryz.zeroValue101
 t51 := Tryz.underlying122
 a51 := Tryz.isAgg122
 z51 := Tryz.sizeOf122
 v51 := Tryz.zeroValue122
 t146 := Tryz.underlying123
 a146 := Tryz.isAgg123
 z146 := Tryz.sizeOf123
 v146 := Tryz.zeroValue123
 g1 := by kernel_rfl }
end Go.Proofs
namespace Go.Mu
open Go Go.Proofs
variable {P : Program}
theorem CallOK.same {f : FuncId} {xs : Vs} {H : Heap} {v : AVal} (h : ∀ w E (cs : List Value), Sim w E H → cs.length = xs.length → (∀ j, j < xs.length → Rep w E H (xs.getD j .undef) (cs.getD j undef)) → ∃ c, Calls P f cs.toArray w (fun e w' => e = .returned c ∧ w' = w) ∧ Rep w E H v c) : CallOK P f xs H (.ret v H) := by
 intro w E cs sim hl hr
 obtain ⟨c, h1, h2⟩ := h w E cs sim hl hr
 refine Calls.mono h1 (fun e w' hp => ?_)
 obtain ⟨rfl, rfl⟩ := hp
 exact ⟨E, .refl, sim, h2⟩
theorem idx_ok (a b : Oc) (ha : a.length < 4294967281) : CallOK Tryz.prog 27 [.str a, .str b] [] (.ret (.int .i64 (Lib.index a b)) []) := by
 refine CallOK.same (fun w E cs sim hl hr => ?_)
 obtain ⟨x, y, rfl⟩ : ∃ x y, cs = [x, y] := by
  match cs, hl with
  | [x, y], _ => exact ⟨x, y, rfl⟩
 obtain ⟨s, e1, rfl⟩ := rep_str (hr 0 (by simp))
 obtain ⟨t, e2, rfl⟩ := rep_str (hr 1 (by simp))
 replace e1 : x = .string s := e1
 replace e2 : y = .string t := e2
 subst e1 e2
 obtain ⟨_, m, hm⟩ := sim.glob.1 0 .i64 (by rfl)
 exact ⟨_, Any.stringslite_Index Tryz.idxLays s t m w (by simpa using ha) hm, .pure _ _ (.int _ _)⟩
noncomputable def idxTold : FSp := fun xs H k => match xs, H with
 | [.str a, .str b], [] => cond (decide (a.length < 4294967281)) (k (.ret (.int .i64 (Lib.index a b)) [])) none
 | _, _ => none
theorem idxTold_ok (xs : Vs) (H : Heap) (k : Out → Ans) (out : Out) (ho : idxTold xs H k = some out) : ∃ o, CallOK Tryz.prog 27 xs H o ∧ k o = some out := by
 unfold idxTold at ho
 split at ho
 · rw [Bool.cond_eq_ite] at ho
   split at ho
   · rename_i hc
     exact ⟨_, idx_ok _ _ (of_decide_eq_true hc), ho⟩
   · simp at ho
 · simp at ho
end Go.Mu
namespace Go.Mu
open Go Go.Proofs
def blkI (n : Int) : Bool := n == 32 || (decide (n ≥ 9) && decide (n ≤ 13) && n != 11)
theorem blkI_eq (c : UInt8) : blkI (c.toNat : Int) = blk c := by
 have h : ∀ n : Fin 256, blkI ((UInt8.ofNat n).toNat : Int) = blk (UInt8.ofNat n) := by decide +kernel
 have := h ⟨c.toNat, c.toNat_lt⟩
 simpa using this
theorem blank_fun (n : Int) (k : Out → Ans) : iFun Tryz.prog (Lay.nil.hd Tryz.prog) Lay.nil.fhs 0 58 [.int .u8 n] [] k = k (.ret (.bool (bif n == 32 then true else bif bif decide (n ≥ 9) then decide (n ≤ 13) else false then n != 11 else false)) []) := by kernel_rfl
theorem pre_fun (s t : Oc) (k : Out → Ans) : iFun Tryz.prog (Lay.nil.hd Tryz.prog) Lay.nil.fhs 0 57 [.str s, .str t] [] k =
 cond (decide ((t.length : Int) ≥ 0) && decide ((t.length : Int) ≤ s.length) || !decide ((s.length : Int) ≥ t.length)) (k (.ret (.bool (cond (decide ((s.length : Int) ≥ t.length)) ((s.take (t.length : Int).toNat).drop (0 : Int).toNat == t) false)) [])) none := by kernel_rfl
def blankTold : FSp := mkFS [.i .u8] (fun _ => true) (fun xs k => k (.ret (.bool (blkI (aI xs 0))) []))
theorem blankTold_ok : ∀ xs H k out, blankTold xs H k = some out → ∃ o, CallOK Tryz.prog 58 xs H o ∧ k o = some out := mkFS_ok fun ys xs e h => by
 obtain ⟨n, rfl⟩ : ∃ n, xs = [.int .u8 n] := ⟨_, e⟩
 refine ⟨_, fun k => rfl, Lay.nil_ok.callF (G := []) rfl (fun k => ?_)⟩
 rw [blank_fun]
 simp only [blkI, bif_or, bif_and]
 rfl
theorem pre2_fun (s t : Oc) (k : Out → Ans) : iFun Tryz.prog (Lay.nil.hd Tryz.prog) Lay.nil.fhs 0 75 [.str s, .str t] [] k =
 cond (decide ((t.length : Int) ≥ 0) && decide ((t.length : Int) ≤ s.length) || !decide ((s.length : Int) ≥ t.length)) (k (.ret (.bool (cond (decide ((s.length : Int) ≥ t.length)) ((s.take (t.length : Int).toNat).drop (0 : Int).toNat == t) false)) [])) none := by kernel_rfl
def preTold : FSp := mkFS [.s, .s] (fun _ => true) (fun xs k => k (.ret (.bool ((aS xs 1).isPrefixOf (aS xs 0))) []))
theorem pre_take (s t : Oc) : t.isPrefixOf s = (decide (t.length ≤ s.length) && (s.take t.length == t)) := by
 rw [Bool.eq_iff_iff]
 simp only [List.isPrefixOf_iff_prefix, Bool.and_eq_true, decide_eq_true_eq, beq_iff_eq]
 rw [List.prefix_iff_eq_take]
 constructor
 · intro h
   refine ⟨?_, h.symm⟩
   have := congrArg List.length h
   simp at this; omega
 · intro h; exact h.2.symm
theorem preTold_ok : ∀ xs H k out, preTold xs H k = some out → ∃ o, CallOK Tryz.prog 57 xs H o ∧ k o = some out := mkFS_ok fun ys xs e h => by
 obtain ⟨s, t, rfl⟩ : ∃ s t, xs = [.str s, .str t] := ⟨_, _, e⟩
 refine ⟨_, fun k => rfl, Lay.nil_ok.callF (G := []) rfl (fun k => ?_)⟩
 rw [pre_fun]
 show _ = k (.ret (.bool (t.isPrefixOf s)) [])
 rw [pre_take]
 simp (disch := omega) only [g2, cond_true, Int.toNat_natCast, Int.toNat_zero, List.drop_zero, bif_and]
 have : decide ((s.length : Int) ≥ t.length) = decide (t.length ≤ s.length) := by
  rw [Bool.eq_iff_iff]; simp
 rw [this]
theorem pre2Told_ok : ∀ xs H k out, preTold xs H k = some out → ∃ o, CallOK Tryz.prog 75 xs H o ∧ k o = some out := mkFS_ok fun ys xs e h => by
 obtain ⟨s, t, rfl⟩ : ∃ s t, xs = [.str s, .str t] := ⟨_, _, e⟩
 refine ⟨_, fun k => rfl, Lay.nil_ok.callF (G := []) rfl (fun k => ?_)⟩
 rw [pre2_fun]
 show _ = k (.ret (.bool (t.isPrefixOf s)) [])
 rw [pre_take]
 simp (disch := omega) only [g2, cond_true, Int.toNat_natCast, Int.toNat_zero, List.drop_zero, bif_and]
 have : decide ((s.length : Int) ≥ t.length) = decide (t.length ≤ s.length) := by
  rw [Bool.eq_iff_iff]; simp
 rw [this]
noncomputable def layX1 : Lay := ((((((Lay.nil.addF 27 idxTold).addF 28 trimLTold).addF 59 trimRTold).addF 60 trimTold).addF 58 blankTold).addF 57 preTold).addF 75 preTold
theorem layX1_ok : layX1.OK Tryz.prog := ((((((Lay.nil_ok.addF idxTold_ok).addF trimLTold_ok).addF trimRTold_ok).addF trimTold_ok).addF blankTold_ok).addF preTold_ok).addF pre2Told_ok
def win : Oc → Bool → Bool → Nat → Int
 | [], _, _, _ => -1
 | c :: t, q, e, i => bif e then win t q false (i + 1) else bif q && c == 92 then win t q true (i + 1) else bif c == 34 then win t (!q) false (i + 1) else bif !q && [125, 125].isPrefixOf (c :: t) then i else win t q false (i + 1)
def winSp : LSp := mkLS [.s, .b, .i .i64] (fun vs => decide (0 ≤ aI vs 2 ∧ aI vs 2 ≤ 1099511627776 ∧ (aS vs 0).length ≤ 1099511627776))
 (fun vs k => cond (decide (win ((aS vs 0).drop (aI vs 2).toNat) (aB vs 1) false (aI vs 2).toNat ≥ 0)) (k .ret [.int .i64 (win ((aS vs 0).drop (aI vs 2).toNat) (aB vs 1) false (aI vs 2).toNat)]) (k (.exit 0) [.undef]))
def winFH : FH := .of [(3, loopSpec 41 [0,5,6] [] [4] [] winSp)]
theorem within_step (s : Oc) (q : Bool) (i : Int) (H : Heap) (D : Dfs) (k : Kont) : lturn Tryz.prog layX1 winFH 32 3 [0,5,6] [] [4] [] (stL 41 [0,5,6] [.str s, .bool q, .int .i64 i] [] [] H D) k = (
 let n0 : Int := (↑s.length : Int);
 let c1 : Bool := decide (i < n0);
 let c2 : Bool := decide (0 ≤ i);
 let c3 : Bool := c2 && c1;
 let n4 : Int := (↑(s.getD i.toNat 0).toNat : Int);
 let n5 : Int := IntKind.i64.wrap (i + 1);
  bif c1 then bif c3 || !q then bif bif q then n4 == 92 else false then k AExit.normal (stL 41 [0, 5, 6] [AVal.str s, AVal.bool q, AVal.int .i64 (IntKind.i64.wrap (n5 + 1))] [] [] H D) else bif c3 then bif n4 == 34 then k AExit.normal (stL 41 [0, 5, 6] [AVal.str s, AVal.bool !q, AVal.int .i64 n5] [] [] H D) else bif c2 && decide (i ≤ n0) && decide (n0 ≤ n0) || !!q then bif bif !q then [125, 125].isPrefixOf (List.drop i.toNat (List.take n0.toNat s)) else false then k AExit.ret (stL 41 [4] [AVal.int .i64 i] [] [] H D) else k AExit.normal (stL 41 [0, 5, 6] [AVal.str s, AVal.bool q, AVal.int .i64 n5] [] [] H D) else none else none else none else k (AExit.exit 0) (stL 41 [4] [AVal.undef] [] [] H D)) := by kernel_rfl
theorem win_runs (s : Oc) (hs : s.length ≤ 1099511627776) : ∀ (m : Nat) (q : Bool) (i : Nat) (H : Heap), s.length + 1 - i ≤ m → i ≤ s.length + 1 →
 (win (s.drop i) q false i ≥ 0 → LoopRuns (lturn Tryz.prog layX1 winFH 32 3 [0,5,6] [] [4] []) 41 [0,5,6] [] [4] [] [.str s, .bool q, .int .i64 i] [] H .ret [.int .i64 (win (s.drop i) q false i)] [] H) ∧
 (¬ win (s.drop i) q false i ≥ 0 → LoopRuns (lturn Tryz.prog layX1 winFH 32 3 [0,5,6] [] [4] []) 41 [0,5,6] [] [4] [] [.str s, .bool q, .int .i64 i] [] H (.exit 0) [.undef] [] H) := by
 intro m
 induction m with
 | zero => 
  intro q i H h1 h2
  have e : s.drop i = [] := List.drop_eq_nil_of_le (by omega)
  rw [e]
  refine ⟨fun h => by simp [win] at h, fun _ => .stop (by simp) (fun D k => ?_)⟩
  rw [within_step]
  simp (disch := omega) only [dF, cond_false]
 | succ m ih =>
  intro q i H h1 h2
  by_cases hi : i < s.length
  case neg =>
   have e : s.drop i = [] := List.drop_eq_nil_of_le (by omega)
   rw [e]
   refine ⟨fun h => by simp [win] at h, fun _ => .stop (by simp) (fun D k => ?_)⟩
   rw [within_step]
   simp (disch := omega) only [dF, cond_false]
  have key := fun D k => within_step s q i H D k
  simp (disch := first | omega | decide) only [dT, cond_true, Bool.true_or, Bool.and_true, Bool.and_self, eqc, Int.toNat_natCast, List.take_length, wrap_of, bif_and] at key
  have ed := drop_cons_of s i 0 hi
  generalize s.getD i 0 = c at key ed
  have e1 : (i : Int) + 1 = ((i + 1 : Nat) : Int) := by omega
  have e2 : (i : Int) + 1 + 1 = ((i + 2 : Nat) : Int) := by omega
  cases h92 : q && c == 92 with
  | true =>
   have ew : win (s.drop i) q false i = win (s.drop (i + 2)) q false (i + 2) := by
    rw [ed, win]
    simp only [cond_false, h92, cond_true]
    by_cases h3 : i + 1 < s.length
    · rw [drop_cons_of s (i + 1) 0 h3, win]; rfl
    · rw [List.drop_eq_nil_of_le (by omega), List.drop_eq_nil_of_le (by omega)]; rfl
   have hk := fun D k => (key D k)
   simp only [h92, cond_true, e2] at hk
   rw [ew]
   by_cases h4 : i + 2 ≤ s.length + 1
   · exact ⟨fun h => .step hk ((ih q (i + 2) H (by omega) h4).1 h), fun h => .step hk ((ih q (i + 2) H (by omega) h4).2 h)⟩
   · omega
  | false =>
   simp only [h92, cond_false] at key
   cases h34 : c == 34 with
   | true =>
    have ew : win (s.drop i) q false i = win (s.drop (i + 1)) (!q) false (i + 1) := by
     rw [ed, win]; simp only [cond_false, h92, h34, cond_true]
    simp only [h34, cond_true, e1] at key
    rw [ew]
    exact ⟨fun h => .step key ((ih (!q) (i + 1) H (by omega) (by omega)).1 h), fun h => .step key ((ih (!q) (i + 1) H (by omega) (by omega)).2 h)⟩
   | false =>
    simp only [h34, cond_false] at key
    cases hp : !q && [125, 125].isPrefixOf (s.drop i) with
    | true =>
     have ew : win (s.drop i) q false i = i := by
      rw [ed] at hp ⊢
      rw [win]; simp only [cond_false, h92, h34, hp, cond_true]
     simp only [hp, cond_true] at key
     rw [ew]
     exact ⟨fun h => .stop (by simp) key, fun h => absurd (by omega) h⟩
    | false =>
     have ew : win (s.drop i) q false i = win (s.drop (i + 1)) q false (i + 1) := by
      rw [ed] at hp ⊢
      rw [win]; simp only [cond_false, h92, h34, hp]
     simp only [hp, cond_false, e1] at key
     rw [ew]
     exact ⟨fun h => .step key ((ih q (i + 1) H (by omega) (by omega)).1 h), fun h => .step key ((ih q (i + 1) H (by omega) (by omega)).2 h)⟩
theorem trims_fun (s : Oc) (k : Out → Ans) : iFun Tryz.prog (layX1.hd Tryz.prog) layX1.fhs 0 34 [.str s] [] k = (
 let n0 : Int := (↑s.length : Int);
 let c1 : Bool := decide (n0 > 1);
 let c2 : Bool := !c1;
 let c3 : Bool := bif c1 then (↑(s.getD 0 0).toNat : Int) == 45 else false;
 let c4 : Bool := bif c3 then blkI (↑(s.getD 1 0).toNat : Int) else false;
 let l5 : Oc := List.drop (Int.toNat 1) (List.take n0.toNat s);
 let n6 : Int := (↑l5.length : Int);
 let n7 : Int := IntKind.i64.wrap (n6 - 1);
 let c8 : Bool := decide (0 ≤ n7);
 let c9 : Bool := decide (n6 > 1);
 let n10 : Int := IntKind.i64.wrap (n6 - 2);
 let m11 : Nat := n7.toNat;
 let c12 : Bool := bif c9 then (↑(l5.getD m11 0).toNat : Int) == 45 else false;
 let c13 : Bool := bif c12 then blkI (↑(l5.getD n10.toNat 0).toNat : Int) else false;
 let n14 : Int := IntKind.i64.wrap (n0 - 1);
 let c15 : Bool := decide (0 ≤ n14);
 let n16 : Int := IntKind.i64.wrap (n0 - 2);
 let m17 : Nat := n14.toNat;
 let c18 : Bool := bif c1 then (↑(s.getD m17 0).toNat : Int) == 45 else false;
 let c19 : Bool := bif c18 then blkI (↑(s.getD n16.toNat 0).toNat : Int) else false;
  bif decide (0 < n0) || c2 then bif decide (1 < n0) || !c3 then bif c4 then bif decide (1 ≤ n0) && decide (n0 ≤ n0) then bif c8 && decide (n7 < n6) || !c9 then bif decide (0 ≤ n10) && decide (n10 < n6) || !c12 then bif c13 then bif c8 && decide (n7 ≤ n6) then k (Out.ret (AVal.tuple [AVal.str (List.drop (Int.toNat 0) (List.take m11 l5)), AVal.bool c4, AVal.bool c13]) []) else none else k (Out.ret (AVal.tuple [AVal.str l5, AVal.bool c4, AVal.bool c13]) []) else none else none else none else bif c15 && decide (n14 < n0) || c2 then bif decide (0 ≤ n16) && decide (n16 < n0) || !c18 then bif c19 then bif c15 && decide (n14 ≤ n0) then k (Out.ret (AVal.tuple [AVal.str (List.drop (Int.toNat 0) (List.take m17 s)), AVal.bool c4, AVal.bool c19]) []) else none else k (Out.ret (AVal.tuple [AVal.str s, AVal.bool c4, AVal.bool c19]) []) else none else none else none else none) := by kernel_rfl
theorem remark_fun (s : Oc) (at_ : Int) (k : Out → Ans) : iFun Tryz.prog (layX1.hd Tryz.prog) layX1.fhs 0 31 [.str s, .int .i64 at_] [] k = (
 let n0 : Int := IntKind.i64.wrap (at_ + 2);
 let n1 : Int := (↑s.length : Int);
 let c2 : Bool := decide (n1 ≤ n1);
 let l3 : Oc := List.take n1.toNat s;
 let l4 : Oc := List.drop n0.toNat l3;
 let m5 : Nat := l4.length;
 let l6 : Oc := trimL l4;
 let n7 : Int := IntKind.i64.wrap (IntKind.i64.wrap (n1 - (↑l6.length : Int)) + 2);
 let l8 : Oc := List.drop n7.toNat l3;
 let n9 : Int := Lib.index l8 [42, 47];
 let n10 : Int := (↑m5 : Int);
 let l11 : Oc := List.drop (Int.toNat 1) (List.take n10.toNat l4);
 let l12 : Oc := trimL l11;
 let n13 : Int := IntKind.i64.wrap (IntKind.i64.wrap (n1 - (↑l12.length : Int)) + 2);
 let l14 : Oc := List.drop n13.toNat l3;
 let n15 : Int := Lib.index l14 [42, 47];
 let z0 := Out.panic (AVal.iface 53 (AVal.agg [AVal.int .i64 at_, AVal.int .i64 8])) [];
  bif decide (0 ≤ n0) && decide (n0 ≤ n1) && c2 then bif ![45].isPrefixOf l4 then bif decide (m5 ≤ 1099511627776) then bif ![47, 42].isPrefixOf l6 then k (Out.ret (AVal.int .i64 (-1)) []) else bif decide (0 ≤ n7) && decide (n7 ≤ n1) && c2 then bif decide (l8.length < 4294967281) then bif !decide (n9 ≥ 0) then k z0 else k (Out.ret (AVal.int .i64 (IntKind.i64.wrap (IntKind.i64.wrap (n7 + n9) + 2))) []) else none else none else none else bif decide (1 ≤ n10) && decide (n10 ≤ n10) then bif decide (l11.length ≤ 1099511627776) then bif ![47, 42].isPrefixOf l12 then k (Out.ret (AVal.int .i64 (-1)) []) else bif decide (0 ≤ n13) && decide (n13 ≤ n1) && c2 then bif decide (l14.length < 4294967281) then bif !decide (n15 ≥ 0) then k z0 else k (Out.ret (AVal.int .i64 (IntKind.i64.wrap (IntKind.i64.wrap (n13 + n15) + 2))) []) else none else none else none else none else none) := by kernel_rfl
theorem winSp_ok : SpOK (lturn Tryz.prog layX1 winFH 32 3 [0,5,6] [] [4] []) 41 [0,5,6] [] [4] [] winSp := mkLS_ok fun ys vs H e h => by
 obtain ⟨s, q, n, rfl⟩ : ∃ s q n, vs = [.str s, .bool q, .int .i64 n] := ⟨_, _, _, e⟩
 replace h : 0 ≤ n ∧ n ≤ 1099511627776 ∧ s.length ≤ 1099511627776 := of_decide_eq_true h
 obtain ⟨h0, h1, h2⟩ := h
 obtain ⟨i, rfl⟩ : ∃ i : Nat, n = i := ⟨n.toNat, by omega⟩
 by_cases hi : i ≤ s.length + 1
 · have key := win_runs s h2 _ q i H (Nat.le_refl _) hi
   by_cases hw : win (s.drop i) q false i ≥ 0
   · exact ⟨.ret, [.int .i64 (win (s.drop i) q false i)], fun k => by show cond (decide (win (s.drop i) q false i ≥ 0)) _ _ = _; rw [dT hw]; rfl, key.1 hw⟩
   · exact ⟨.exit 0, [.undef], fun k => by show cond (decide (win (s.drop i) q false i ≥ 0)) _ _ = _; rw [dF hw]; rfl, key.2 hw⟩
 · have e2 : s.drop i = [] := List.drop_eq_nil_of_le (by omega)
   refine ⟨.exit 0, [.undef], fun k => by show cond (decide (win (s.drop i) q false i ≥ 0)) _ _ = _; rw [e2]; rfl, .stop (by simp) (fun D k => ?_)⟩
   rw [within_step]
   simp (disch := omega) only [dF, cond_false]
noncomputable def layX2 : Lay := layX1.addL 32 winFH
theorem layX2_ok : layX2.OK Tryz.prog := layX1_ok.loop1 (id := 3) (by kernel_rfl) (by kernel_rfl) (by kernel_rfl) winSp_ok
theorem within_fun (s : Oc) (i : Int) (k : Out → Ans) : iFun Tryz.prog (layX2.hd Tryz.prog) layX2.fhs 0 32 [.str s, .int .i64 i] [] k = (
 let n0 : Int := win (List.drop i.toNat s) false false i.toNat;
  bif decide (0 ≤ i ∧ i ≤ 1099511627776 ∧ s.length ≤ 1099511627776) then
  bif decide (n0 ≥ 0) then k (Out.ret (AVal.int .i64 n0) []) else k (Out.ret (AVal.int .i64 (-1)) [])
  else none) := by kernel_rfl
def trimsA (s : Oc) : Bool := decide (1 < s.length) && s.getD 0 0 == 45 && blk (s.getD 1 0)
def trimsZ (s : Oc) : Bool := decide (1 < s.length) && s.getD (s.length - 1) 0 == 45 && blk (s.getD (s.length - 2) 0)
def trimsT (s : Oc) : Oc := bif trimsA s then s.drop 1 else s
def trimsU (t : Oc) : Oc := bif trimsZ t then t.take (t.length - 1) else t
theorem hZ (u : Oc) : (decide ((u.length : Int) > 1) && u.getD ((u.length : Int) - 1).toNat 0 == 45 && blk (u.getD ((u.length : Int) - 2).toNat 0)) = trimsZ u := by
 unfold trimsZ
 rw [show ((u.length : Int) - 1).toNat = u.length - 1 by omega, show ((u.length : Int) - 2).toNat = u.length - 2 by omega, show decide ((u.length : Int) > 1) = decide (1 < u.length) from decide_eq_decide.2 (by omega)]
theorem hA (u : Oc) : (decide ((u.length : Int) > 1) && u.getD 0 0 == 45 && blk (u.getD 1 0)) = trimsA u := by
 unfold trimsA
 rw [show decide ((u.length : Int) > 1) = decide (1 < u.length) from decide_eq_decide.2 (by omega)]
theorem trims_call (s : Oc) (hs : s.length ≤ 1099511627776) (k : Out → Ans) : iFun Tryz.prog (layX1.hd Tryz.prog) layX1.fhs 0 34 [.str s] [] k = k (.ret (.tuple [.str (trimsU (trimsT s)), .bool (trimsA s), .bool (trimsZ (trimsT s))]) []) := by
 rw [trims_fun]
 have hu : (s.drop 1).length ≤ s.length := by simp
 have ha : trimsA s = true → 1 < s.length := fun h => by
  unfold trimsA at h
  simp only [Bool.and_eq_true, decide_eq_true_eq] at h
  exact h.1.1
 have hz : ∀ u, trimsZ u = true → 1 < u.length := fun u h => by
  unfold trimsZ at h
  simp only [Bool.and_eq_true, decide_eq_true_eq] at h
  exact h.1.1
 simp only [Int.toNat_natCast, List.take_length, Int.toNat_one, Int.toNat_zero, List.drop_zero]
 unfold trimsU trimsT
 generalize s.drop 1 = u at hu ⊢
 simp (disch := first | omega | decide) only [g1, g2, g3, g4, cond_true, eqc, wrap_of, bif_and, blkI_eq, hA, hZ]
 cases h1 : trimsA s with
 | true =>
  have := ha h1
  cases h2 : trimsZ u with
  | true =>
   have := hz u h2
   simp (disch := omega) only [dT, cond_true, Bool.and_true, h2, toNat_sub1]
  | false => simp (disch := omega) only [dT, cond_true, Bool.and_true, h2, cond_false]
 | false =>
  cases h2 : trimsZ s with
  | true =>
   have := hz s h2
   simp (disch := omega) only [dT, cond_true, cond_false, Bool.and_true, h2, toNat_sub1]
  | false => simp (disch := omega) only [dT, cond_true, cond_false, Bool.and_true, h2]
theorem win_ge : ∀ (t : Oc) (q e : Bool) (i : Nat), win t q e i = -1 ∨ (i : Int) ≤ win t q e i ∧ win t q e i < i + t.length
 | [], _, _, _ => .inl rfl
 | c :: t, q, e, i => by
  have ih := fun q e => win_ge t q e (i + 1)
  rw [win]
  simp only [List.length_cons]
  cases e with
  | true => simp only [cond_true]; have := ih q false; omega
  | false =>
   simp only [cond_false]
   cases q && c == 92 with
   | true => simp only [cond_true]; have := ih q true; omega
   | false =>
    simp only [cond_false]
    cases c == 34 with
    | true => simp only [cond_true]; have := ih (!q) false; omega
    | false =>
     simp only [cond_false]
     cases !q && [125, 125].isPrefixOf (c :: t) with
     | true => simp only [cond_true]; omega
     | false => simp only [cond_false]; have := ih q false; omega
theorem within_call (s : Oc) (i : Nat) (hs : s.length ≤ 1099511627776) (hi : i ≤ 1099511627776) (k : Out → Ans) : iFun Tryz.prog (layX2.hd Tryz.prog) layX2.fhs 0 32 [.str s, .int .i64 i] [] k = k (.ret (.int .i64 (win (s.drop i) false false i)) []) := by
 rw [within_fun]
 simp only [Int.toNat_natCast]
 rw [dT (show 0 ≤ (i : Int) ∧ (i : Int) ≤ 1099511627776 ∧ s.length ≤ 1099511627776 by omega)]
 have h := win_ge (s.drop i) false false i
 by_cases hr : win (s.drop i) false false i ≥ 0
 · rw [dT hr]; rfl
 · rw [dF hr, show win (s.drop i) false false i = -1 by omega]; rfl
def rmT (s : Oc) (at_ : Nat) : Oc := trimL (bif [45].isPrefixOf (s.drop (at_ + 2)) then (s.drop (at_ + 2)).drop 1 else s.drop (at_ + 2))
def rmF (s : Oc) (at_ : Nat) : Nat := s.length - (rmT s at_).length + 2
def rmN (s : Oc) (at_ : Nat) : Int := Lib.index (s.drop (rmF s at_)) [42, 47]
def rmIs (s : Oc) (at_ : Nat) : Bool := [47, 42].isPrefixOf (rmT s at_)
theorem rmT_len (s : Oc) (at_ : Nat) : (rmT s at_).length ≤ s.length - (at_ + 2) := by
 unfold rmT
 refine Nat.le_trans (trimL_len _) ?_
 cases [45].isPrefixOf (s.drop (at_ + 2)) <;> simp <;> omega
theorem pre_len {p s : Oc} (h : p.isPrefixOf s = true) : p.length ≤ s.length := (List.isPrefixOf_iff_prefix.1 h).length_le
theorem index_le (s p : Oc) : Lib.index s p ≤ s.length := by
 induction s with
 | nil => unfold Lib.index; split <;> simp
 | cons c t ih =>
  unfold Lib.index
  split
  · simp; omega
  · split
    · simp; omega
    · simp; omega
theorem remark_call (s : Oc) (at_ : Nat) (h1 : at_ + 2 ≤ s.length) (hs : s.length ≤ 1073741824) (k : Out → Ans) : iFun Tryz.prog (layX1.hd Tryz.prog) layX1.fhs 0 31 [.str s, .int .i64 at_] [] k =
 cond (rmIs s at_) (cond (decide (rmN s at_ ≥ 0)) (k (.ret (.int .i64 ((rmF s at_ : Int) + rmN s at_ + 2)) [])) (k (.panic (.iface 53 (.agg [.int .i64 at_, .int .i64 8])) []))) (k (.ret (.int .i64 (-1)) [])) := by
 rw [remark_fun]
 have hl := rmT_len s at_
 have e2 : ((at_ : Int) + 2).toNat = at_ + 2 := by omega
 have hd : (s.drop (at_ + 2)).length = s.length - (at_ + 2) := by simp
 simp (disch := omega) only [Int.toNat_natCast, List.take_length, Int.toNat_one, Int.toNat_zero, List.drop_zero, wrap_of, e2, dT, cond_true, Bool.and_true]
 unfold rmIs rmN
 have tail : ∀ u : Oc, rmT s at_ = u →
  (bif !([47, 42].isPrefixOf u) then k (.ret (.int .i64 (-1)) []) else bif decide (0 ≤ IntKind.i64.wrap (IntKind.i64.wrap ((s.length : Int) - u.length) + 2)) && decide (IntKind.i64.wrap (IntKind.i64.wrap ((s.length : Int) - u.length) + 2) ≤ (s.length : Int)) then
   bif decide ((s.drop (IntKind.i64.wrap (IntKind.i64.wrap ((s.length : Int) - u.length) + 2)).toNat).length < 4294967281) then bif !decide (Lib.index (s.drop (IntKind.i64.wrap (IntKind.i64.wrap ((s.length : Int) - u.length) + 2)).toNat) [42, 47] ≥ 0) then k (.panic (.iface 53 (.agg [.int .i64 at_, .int .i64 8])) [])
    else k (.ret (.int .i64 (IntKind.i64.wrap (IntKind.i64.wrap (IntKind.i64.wrap (IntKind.i64.wrap ((s.length : Int) - u.length) + 2) + Lib.index (s.drop (IntKind.i64.wrap (IntKind.i64.wrap ((s.length : Int) - u.length) + 2)).toNat) [42, 47]) + 2))) []) else none else none) =
  cond ([47, 42].isPrefixOf (rmT s at_)) (cond (decide (Lib.index (s.drop (rmF s at_)) [42, 47] ≥ 0)) (k (.ret (.int .i64 ((rmF s at_ : Int) + Lib.index (s.drop (rmF s at_)) [42, 47] + 2)) [])) (k (.panic (.iface 53 (.agg [.int .i64 at_, .int .i64 8])) []))) (k (.ret (.int .i64 (-1)) [])) := by
  intro u hu
  have eF : rmF s at_ = s.length - u.length + 2 := by unfold rmF; rw [hu]
  rw [hu, eF]
  rw [hu] at hl
  cases hq : [47, 42].isPrefixOf u with
  | false => rfl
  | true =>
   have h6 := pre_len hq
   simp only [List.length_cons, List.length_nil] at h6
   have e7 : IntKind.i64.wrap (IntKind.i64.wrap ((s.length : Int) - u.length) + 2) = ((s.length - u.length + 2 : Nat) : Int) := by
    rw [wrap_of (n := (s.length : Int) - u.length) (by omega) (by omega), wrap_of (by omega) (by omega)]; omega
   rw [e7]
   have h8 := index_le (s.drop (s.length - u.length + 2)) [42, 47]
   have h9 : (s.drop (s.length - u.length + 2)).length ≤ s.length := by simp
   rw [Int.toNat_natCast]
   have h10 := Lib.index_ge (s.drop (s.length - u.length + 2)) [42, 47]
   generalize Lib.index (s.drop (s.length - u.length + 2)) [42, 47] = r at *
   simp (disch := omega) only [dT, wrap_of, Bool.and_true, cond_true, Bool.not_true, cond_false]
   cases decide (r ≥ 0) <;> rfl
 cases hp : [45].isPrefixOf (s.drop (at_ + 2)) with
 | true =>
  have h4 := pre_len hp
  simp only [List.length_cons, List.length_nil] at h4
  have hd2 : ((s.drop (at_ + 2)).drop 1).length = s.length - (at_ + 2) - 1 := by simp; omega
  rw [← tail (trimL ((s.drop (at_ + 2)).drop 1)) (by unfold rmT; rw [hp]; rfl)]
  simp (disch := omega) only [Bool.not_true, cond_false, dT, cond_true, Bool.and_true]
 | false =>
  rw [← tail (trimL (s.drop (at_ + 2))) (by unfold rmT; rw [hp]; rfl)]
  simp (disch := omega) only [Bool.not_false, cond_true, dT, Bool.and_true]
def withinTold : FSp := mkFS [.s, .i .i64] (fun xs => decide (0 ≤ aI xs 1 ∧ aI xs 1 ≤ 1099511627776 ∧ (aS xs 0).length ≤ 1099511627776)) (fun xs k => k (.ret (.int .i64 (win ((aS xs 0).drop (aI xs 1).toNat) false false (aI xs 1).toNat)) []))
theorem withinTold_ok : ∀ xs H k out, withinTold xs H k = some out → ∃ o, CallOK Tryz.prog 32 xs H o ∧ k o = some out := mkFS_ok fun ys xs e h => by
 obtain ⟨s, n, rfl⟩ : ∃ s n, xs = [.str s, .int .i64 n] := ⟨_, _, e⟩
 replace h : 0 ≤ n ∧ n ≤ 1099511627776 ∧ s.length ≤ 1099511627776 := of_decide_eq_true h
 obtain ⟨i, rfl⟩ : ∃ i : Nat, n = i := ⟨n.toNat, by omega⟩
 exact ⟨_, fun k => rfl, layX2_ok.callF (G := []) rfl (fun k => within_call s i h.2.2 (by omega) k)⟩
def trimsTold : FSp := mkFS [.s] (fun xs => decide ((aS xs 0).length ≤ 1099511627776)) (fun xs k => k (.ret (.tuple [.str (trimsU (trimsT (aS xs 0))), .bool (trimsA (aS xs 0)), .bool (trimsZ (trimsT (aS xs 0)))]) []))
theorem trimsTold_ok : ∀ xs H k out, trimsTold xs H k = some out → ∃ o, CallOK Tryz.prog 34 xs H o ∧ k o = some out := mkFS_ok fun ys xs e h => by
 obtain ⟨s, rfl⟩ : ∃ s, xs = [.str s] := ⟨_, e⟩
 exact ⟨_, fun k => rfl, layX1_ok.callF (G := []) rfl (fun k => trims_call s (of_decide_eq_true h) k)⟩
def remarkTold : FSp := mkFS [.s, .i .i64] (fun xs => decide (0 ≤ aI xs 1 ∧ aI xs 1 + 2 ≤ (aS xs 0).length ∧ (aS xs 0).length ≤ 1073741824))
 (fun xs k => cond (rmIs (aS xs 0) (aI xs 1).toNat) (cond (decide (rmN (aS xs 0) (aI xs 1).toNat ≥ 0)) (k (.ret (.int .i64 ((rmF (aS xs 0) (aI xs 1).toNat : Int) + rmN (aS xs 0) (aI xs 1).toNat + 2)) [])) (k (.panic (.iface 53 (.agg [.int .i64 (aI xs 1), .int .i64 8])) []))) (k (.ret (.int .i64 (-1)) [])))
theorem remarkTold_ok : ∀ xs H k out, remarkTold xs H k = some out → ∃ o, CallOK Tryz.prog 31 xs H o ∧ k o = some out := mkFS_ok fun ys xs e h => by
 obtain ⟨s, n, rfl⟩ : ∃ s n, xs = [.str s, .int .i64 n] := ⟨_, _, e⟩
 replace h : 0 ≤ n ∧ n + 2 ≤ s.length ∧ s.length ≤ 1073741824 := of_decide_eq_true h
 obtain ⟨i, rfl⟩ : ∃ i : Nat, n = i := ⟨n.toNat, by omega⟩
 have key := fun k => remark_call s i (by omega) h.2.2 k
 show ∃ o, (∀ k : Out → Ans, cond (rmIs s i) (cond (decide (rmN s i ≥ 0)) (k (.ret (.int .i64 ((rmF s i : Int) + rmN s i + 2)) [])) (k (.panic (.iface 53 (.agg [.int .i64 i, .int .i64 8])) []))) (k (.ret (.int .i64 (-1)) [])) = k o) ∧ _
 cases h1 : rmIs s i with
 | false =>
  simp only [h1] at key
  exact ⟨_, fun k => rfl, layX1_ok.callF (G := []) rfl key⟩
 | true =>
  simp only [h1, cond_true] at key
  cases h2 : decide (rmN s i ≥ 0) with
  | false =>
   simp only [h2] at key
   exact ⟨_, fun k => rfl, layX1_ok.call key⟩
  | true =>
   simp only [h2] at key
   exact ⟨_, fun k => rfl, layX1_ok.callF (G := []) rfl key⟩
noncomputable def layX3 : Lay := ((layX1.addF 32 withinTold).addF 34 trimsTold).addF 31 remarkTold
theorem layX3_ok : layX3.OK Tryz.prog := ((layX1_ok.addF withinTold_ok).addF trimsTold_ok).addF remarkTold_ok
end Go.Mu
namespace Go.Mu
open Go Go.Proofs
section
variable {P : Program} {w w' : World} {E E' : Env} {H H' : Heap}
theorem Post.pre {E1 : Env} {H1 : Heap} {o : Out} (ev : Evo No w E H w E1 H1) {e : Ending} {w' : World} (h : Post w E1 H1 o e w') : Post w E H o e w' := by
 cases o with
 | ret v H' =>
  cases e with
  | returned c => obtain ⟨E', g1, g2, g3⟩ := h; exact ⟨E', ev.trans g1 (fun x hx => hx.elim), g2, g3⟩
  | panicked _ => exact h.elim
  | outgrown => exact h.elim
 | panic p H' =>
  cases e with
  | returned _ => exact h.elim
  | panicked ch => obtain ⟨E', c, g0, g1, g2, g3⟩ := h; exact ⟨E', c, g0, ev.trans g1 (fun x hx => hx.elim), g2, g3⟩
  | outgrown => exact h.elim
theorem kill (hs : Sim w E H) {j sz u : Nat} {rows : List Vs} (hj : H[j]? = some (.arr sz rows u)) (hsz : w'.heap.size = w.heap.size) (hb : ∀ b, b ≠ E.φ j ∨ E.cap j = 0 → w'.heap[b]? = w.heap[b]?) (h1 : w'.tape = w.tape) (h2 : w'.os = w.os) (h3 : w'.output = w.output) :
 Evo No w E H w' { E with cap := upd E.cap j 0 } (H.set j (.arr sz [] (u + 1))) ∧ Sim w' { E with cap := upd E.cap j 0 } (H.set j (.arr sz [] (u + 1))) := by
 have hlt := get_lt hj
 have hi := fun l => isVar_setArr (new := []) (u' := u + 1) hj l
 have ha := fun l => arrInfo_setArr (new := []) (u' := u + 1) hj l
 have ce : ∀ l, l ≠ j → upd E.cap j 0 l = E.cap l := fun l hl => upd_other _ _ hl
 have hnv : isVar H j = false := by simp [isVar, hj]
 have hlive : ∀ l, live { E with cap := upd E.cap j 0 } (H.set j (.arr sz [] (u + 1))) l → live E H l ∧ l ≠ j := fun l hl => by
  by_cases e : l = j
  · subst e
    rcases hl with hl | ⟨_, hl⟩
    · rw [hi, hnv] at hl; cases hl
    · simp at hl
  · refine ⟨?_, e⟩
    simp only [live, hi, ha, if_neg e, ce l e] at hl
    exact hl
 have same : ∀ l, live E H l → l ≠ j → w'.heap[E.φ l]? = w.heap[E.φ l]? := fun l hl hne => by
  by_cases hc : E.cap j = 0
  · exact hb _ (.inr hc)
  · exact hb _ (.inl (fun e => hne (hs.inj l j hl (.inr ⟨⟨sz, u, arr_of_get hj⟩, hc⟩) e)))
 have imm : ∀ b, E.imm b → w'.heap[b]? = w.heap[b]? := fun b hbi => by
  by_cases hc : E.cap j = 0
  · exact hb _ (.inr hc)
  · exact hb _ (.inl (fun e => (hs.apart j (.inr ⟨⟨sz, u, arr_of_get hj⟩, hc⟩)).1 (e ▸ hbi)))
 have ev : Evo No w E H w' { E with cap := upd E.cap j 0 } (H.set j (.arr sz [] (u + 1))) := by
  refine ⟨by omega, fun b _ _ hk => ?_, fun b hbi => ⟨hbi, imm b hbi⟩, fun b hbi => .inl hbi, fun l hl => ⟨by rw [hi]; exact hl, rfl⟩, fun l sz' u' hl => ?_, fun l hl => .inr ⟨(hlive l hl).1, rfl⟩, by simp, h1, h2, h3⟩
  · by_cases hc : E.cap j = 0
    · exact hb _ (.inr hc)
    · exact hb _ (.inl (fun e => hk j (.inr ⟨⟨sz, u, arr_of_get hj⟩, hc⟩) e.symm))
  · by_cases e : l = j
    · subst e
      rw [arr_of_get hj] at hl
      simp only [sJ, Prod.mk.injEq] at hl
      obtain ⟨rfl, rfl⟩ := hl
      exact ⟨u + 1, by rw [ha, if_pos rfl], by omega, fun h => by omega⟩
    · exact ⟨u', by rw [ha, if_neg e]; exact hl, Nat.le_refl _, fun _ => ⟨ce l e, fun _ => rfl⟩⟩
 have hse := ev.sees
 refine ⟨ev, fun b hbi => by rw [hsz]; exact hs.immLt b hbi, fun l cs hc => ?_, fun l sz' rw' u' hc => ?_, fun l hl => ⟨(hs.apart l (hlive l hl).1).1, by rw [hsz]; exact (hs.apart l (hlive l hl).1).2⟩, fun x y hx hy he => hs.inj x y (hlive x hx).1 (hlive y hy).1 he, fun m t n hm hl => ?_, hs.glob.mono hse.imm, fun l kk es h => by
  by_cases e : l = j
  · subst e; rw [List.getElem?_set_self hlt] at h; simp at h
  · rw [List.getElem?_set_ne (Ne.symm e)] at h
    exact (hs.map l kk es h).same (same l (.inl (map_isVar h)) e)⟩
 · by_cases e : l = j
   · subst e; rw [List.getElem?_set_self hlt] at hc; simp at hc
   · rw [List.getElem?_set_ne (Ne.symm e)] at hc
     exact (hs.var l cs hc).mono hse (same l (.inl (var_of_get hc)) e)
 · by_cases e : l = j
   · subst e
     rw [List.getElem?_set_self hlt] at hc
     simp only [sJ, Obj.arr.injEq] at hc
     obtain ⟨rfl, rfl, rfl⟩ := hc
     exact ⟨(hs.arr l sz rows u hj).1, Nat.zero_le _, fun r hr => by simp at hr, fun hcap => by simp at hcap⟩
   · rw [List.getElem?_set_ne (Ne.symm e)] at hc
     obtain ⟨g1, g2, g3, g4⟩ := hs.arr l sz' rw' u' hc
     refine ⟨g1, by simp only [ce l e]; exact g2, g3, fun hcap => ?_⟩
     simp only [ce l e] at hcap ⊢
     exact (g4 hcap).mono hse (same l (.inr ⟨⟨sz', u', arr_of_get hc⟩, hcap⟩) e)
 · obtain ⟨g1, g2⟩ := hlive _ hl
   exact (hs.note m t n (get_set_note (fun t n e => by cases e) hm) g1).same (same _ g1 g2)
def isNilL : AVal → Bool
 | .nilX => true
 | .list true 0 _ => true
 | _ => false
theorem isNilL_rep {v : AVal} {c : Value} (h : isNilL v = true) (r : Rep w E H v c) : ∃ a, c = .slice a 0 0 := by
 unfold isNilL at h
 split at h
 · exact ⟨none, rep_nilX r⟩
 · obtain ⟨ad, cap, rfl, hle, hfull, _⟩ := rep_list r
   have := hfull rfl
   subst this
   exact ⟨ad, rfl⟩
 · cases h
theorem relink (hs : Sim w E H) {i c j sz u : Nat} {cs : Vs} {nx : AVal} {rows : List Vs} (hi : H[i]? = some (.var cs)) (hc : cs[c]? = some nx) (hnx : isNilL nx = true) (hj : H[j]? = some (.arr sz rows u)) :
 Evo No w E H w { E with cap := upd E.cap j 0 } ((H.set j (.arr sz [] (u + 1))).set i (.var (cs.set c (.own j 0 0 (u + 1) false)))) ∧ Sim w { E with cap := upd E.cap j 0 } ((H.set j (.arr sz [] (u + 1))).set i (.var (cs.set c (.own j 0 0 (u + 1) false)))) := by
 obtain ⟨ev, sim⟩ := kill (w' := w) hs hj rfl (fun _ _ => rfl) rfl rfl rfl
 have hij : i ≠ j := fun e => by subst e; rw [hi] at hj; cases hj
 have hi1 : (H.set j (.arr sz [] (u + 1)))[i]? = some (.var cs) := by rw [List.getElem?_set_ne (Ne.symm hij)]; exact hi
 obtain ⟨k1, k2⟩ := set_same_var (new := cs.set c (.own j 0 0 (u + 1) false)) hi1
 have hinfo : arrInfo ((H.set j (.arr sz [] (u + 1))).set i (.var (cs.set c (.own j 0 0 (u + 1) false)))) j = some (sz, u + 1) := by
  rw [k2, arrInfo_setArr hj, if_pos rfl]
 have hse : Sees w { E with cap := upd E.cap j 0 } (H.set j (.arr sz [] (u + 1))) w { E with cap := upd E.cap j 0 } ((H.set j (.arr sz [] (u + 1))).set i (.var (cs.set c (.own j 0 0 (u + 1) false)))) :=
  ⟨fun b hb => ⟨hb, rfl⟩, fun k hk => ⟨by rw [k1]; exact hk, rfl⟩, fun k sz' u' hk => ⟨u', by rw [k2]; exact hk, Nat.le_refl _, fun _ => ⟨rfl, fun _ => rfl⟩⟩⟩
 have sim2 := sim.set (w' := w) (k := i) (obj := .var (cs.set c (.own j 0 0 (u + 1) false))) k1 k2 hse (Nat.le_refl _) (fun _ _ _ => rfl) (fun cs' e => by
  cases e
  obtain ⟨ds, ty, fr, b1, b2, b3, b4⟩ := sim.var i cs hi1
  refine ⟨ds, ty, fr, b1, by simpa using b2, by simpa using b3, fun m v hm => ?_⟩
  replace hm : (cs.set c (.own j 0 0 (u + 1) false))[m]? = some v := hm
  rw [List.getElem?_set] at hm
  by_cases e : c = m
  · subst e
    have hlt : c < cs.length := (List.getElem?_eq_some_iff.1 hc).1
    simp only [if_true, if_pos hlt, sJ] at hm
    subst hm
    obtain ⟨x, x1, x2, x3⟩ := b4 c _ hc
    obtain ⟨ad, rfl⟩ := isNilL_rep hnx x3
    exact ⟨_, x1, x2, .own j 0 0 (u + 1) false ad 0 sz (u + 1) hinfo (Nat.le_refl _) (fun _ => ⟨Nat.le_refl _, fun _ => rfl, fun _ _ => by simp, by simp, fun h => by simp at h⟩)⟩
  · rw [if_neg e] at hm
    obtain ⟨x, x1, x2, x3⟩ := b4 m v hm
    exact ⟨x, x1, x2, x3.mono hse⟩) (fun _ _ _ e => by cases e) (fun _ _ e => by cases e) (fun _ _ h => h)
 refine ⟨ev.trans (Y := No) ⟨Nat.le_refl _, fun _ _ _ _ => rfl, fun b hb => ⟨hb, rfl⟩, fun b hb => .inl hb, fun k hk => ⟨by rw [k1]; exact hk, rfl⟩, fun k sz' u' hk => ⟨u', by rw [k2]; exact hk, Nat.le_refl _, fun _ => ⟨rfl, fun _ => rfl⟩⟩, fun k hk => .inr ⟨(live_congr k1 k2 k).1 hk, rfl⟩, by simp, rfl, rfl, rfl⟩ (fun x hx => hx.elim), sim2⟩
def relAt (i c j : Nat) (H : Heap) : Heap := match H[i]?, H[j]? with
 | some (.var cs), some (.arr sz rows u) => match cs[c]? with
  | some x => cond (isNilL x) ((H.set j (.arr sz [] (u + 1))).set i (.var (cs.set c (.own j 0 0 (u + 1) false)))) H
  | _ => H
 | _, _ => H
theorem CallOK.relink {f : FuncId} {xs : Vs} {o : Out} {i c j sz u : Nat} {cs : Vs} {nx : AVal} {rows : List Vs} (hi : H[i]? = some (.var cs)) (hc : cs[c]? = some nx) (hnx : isNilL nx = true) (hj : H[j]? = some (.arr sz rows u))
 (h : CallOK P f xs ((H.set j (.arr sz [] (u + 1))).set i (.var (cs.set c (.own j 0 0 (u + 1) false)))) o) : CallOK P f xs H o := by
 intro w E ys sim hlen hr
 obtain ⟨ev, sim2⟩ := Mu.relink sim hi hc hnx hj
 exact Calls.mono (h w _ ys sim2 hlen (fun m hm => (hr m hm).mono ev.sees)) (fun e w' hp => hp.pre ev)
end
theorem relAt_ok {P : Program} {f : FuncId} {xs : Vs} {H : Heap} {o : Out} {i c j : Nat} (h : CallOK P f xs (relAt i c j H) o) : CallOK P f xs H o := by
 unfold relAt at h
 split at h
 · rename_i h1 h2
   split at h
   · rename_i x h3
     rw [Bool.cond_eq_ite] at h
     split at h
     · rename_i h4
       exact CallOK.relink h1 h3 h4 h2 h
     · exact h
   · exact h
 · exact h
theorem freeze_other {w : World} {g n b : Nat} (h : b ≠ g) : (w.freeze ⟨g, 0, none⟩ n).heap[b]? = w.heap[b]? := by
 unfold World.freeze
 split
 · rfl
 · simp [Array.getElem?_modify, Ne.symm h]
theorem freeze_size {w : World} {g n : Nat} : (w.freeze ⟨g, 0, none⟩ n).heap.size = w.heap.size := by
 unfold World.freeze
 split
 · rfl
 · simp
theorem freeze_rest {w : World} {g n : Nat} : (w.freeze ⟨g, 0, none⟩ n).tape = w.tape ∧ (w.freeze ⟨g, 0, none⟩ n).os = w.os ∧ (w.freeze ⟨g, 0, none⟩ n).output = w.output := by
 unfold World.freeze
 split <;> exact ⟨rfl, rfl, rfl⟩
theorem str_walk {w w1 : World} {b off n cap : Nat} {ad : Option Addr} {pv : Option Addr} {s : ByteArray} (hc : w.cell? ⟨b, off + 1, none⟩ = some (.slice ad n cap))
 (hSD : (Builtin.unsafeSliceData_ #[57] 113 #[.slice ad n cap]).run Tryz.prog w.drew = .ok (.pointer pv) w.drew)
 (hUS : (Builtin.unsafeString_ #[113, 3] 9 #[.pointer pv, .int .i64 n]).run Tryz.prog w.drew = .ok (.string s) w1) :
 Calls Tryz.prog 37 #[.pointer (some ⟨b, off, none⟩)] w fun e w' => e = .returned (.string s) ∧ w' = w1 := by
 have c1 : w.drew.cell? ⟨b, off + 1, none⟩ = some (.slice ad n cap) := hc
 have mixed : Tryz.prog.follows Departure.mixedOrders = true := by kernel_rfl
 go_enter Tryz.func37, Tryz.ntmps37
 go_wp2
 go_region_o
 all_goals (go_wp2; go_ret; exact ⟨rfl, rfl⟩)
end Go.Mu
namespace Go.Mu
open Go Go.Proofs
abbrev bT : Nat := 5
theorem str_ok {H : Heap} {i off j u : Nat} {cs : Vs} {l : Oc} (hi : H[i]? = some (.var cs)) (hc : cs[off + 1]? = some (.own j 0 l.length u false)) (hj : H[j]? = some (.arr 1 (l.map byteRow) u)) (hn : H[j + 1]? = some (.note bT 0)) (h0 : l ≠ []) (hb : l.length ≤ 1099511627776) :
 CallOK Tryz.prog 37 [.ptr (.hp i) off] H (.ret (.str l) (H.set j (.arr 1 [] (u + 1)))) := by
 intro w E ys sim hlen hr
 obtain ⟨y, rfl⟩ : ∃ y, ys = [y] := by
  match ys, hlen with
  | [y], _ => exact ⟨y, rfl⟩
 obtain ⟨e0, hv⟩ := rep_ptrH (hr 0 (by simp))
 replace e0 : y = .pointer (some ⟨E.φ i, off, none⟩) := e0
 subst e0
 obtain ⟨ds, ty, fr, b1, b2, b3, b4⟩ := sim.var i cs hi
 obtain ⟨c, c1, c2, c3⟩ := b4 (off + 1) _ hc
 obtain ⟨ad, cap, sz', u', rfl, ha, hle, hsh⟩ := rep_own c3
 rw [arr_of_get hj] at ha
 simp only [sJ, Prod.mk.injEq] at ha
 obtain ⟨rfl, rfl⟩ := ha
 obtain ⟨s1, s2, s3, s4, s5⟩ := hsh rfl
 have hl0 : l.length ≠ 0 := by simpa using h0
 have hcap : E.cap j ≠ 0 := by omega
 have had := s5 hcap (.inl hl0)
 simp only [Nat.zero_mul] at had
 subst had
 obtain ⟨a1, a2, a3, a4⟩ := sim.arr j 1 _ u hj
 obtain ⟨es, ety, efr, g1, g2, g3, g4⟩ := a4 hcap
 have hlv : live E H j := .inr ⟨⟨1, u, arr_of_get hj⟩, hcap⟩
 obtain ⟨ns, nfr, n1, n2⟩ := sim.note (j + 1) bT 0 hn hlv
 simp only [Nat.add_sub_cancel] at n1
 rw [g1] at n1
 simp only [sJ, Obj.cells.injEq] at n1
 obtain ⟨rfl, rfl, rfl⟩ := n1
 have hcell : w.cell? ⟨E.φ i, off + 1, none⟩ = some (.slice (some ⟨E.φ j, 0, none⟩) l.length cap) := by
  simp only [World.cell?, b1]; exact c1
 have hbytes : ∀ (k : Nat) (x : UInt8), l[k]? = some x → w.drew.cell? ((⟨E.φ j, 0, none⟩ : Addr).add k) = some (.int .u8 x.toNat) := fun k x hx => by
  obtain ⟨d, d1, d2, d3⟩ := g4 k (.int .u8 x.toNat) (by
   unfold cellAt
   simp only [Nat.div_one, Nat.mod_one, List.getElem?_map, hx, Option.map_some, Option.bind_some]
   rfl)
  have hd : d = .int .u8 x.toNat := by
   cases d3 with
   | pure _ _ h => cases h; rfl
  subst hd
  have : w.drew.heap[E.φ j]? = some (.cells es bT efr) := g1
  simp only [World.cell?, addr_add, Nat.zero_add, this]
  exact d1
 have hkl : l.length ≤ es.size := by simp at a2; omega
 have walk := str_walk (w := w) (b := E.φ i) (off := off) (pv := some ⟨E.φ j, 0, none⟩) (s := ⟨l.toArray⟩) (w1 := w.drew.freeze ⟨E.φ j, 0, none⟩ l.length) hcell
  (Lib.run_unsafeSliceData_row _ _ _ _ _ _ (show cap ≠ 0 by omega))
  (Lib.run_unsafeString_row (w := w.drew) 113 3 9 bT (by kernel_rfl) (by kernel_rfl) (E.φ j) es.size (by
   have : w.drew.heap[E.φ j]? = some (.cells es bT efr) := g1
   simp [World.shape?, this]) l h0 hkl (by omega) hbytes)
 refine Calls.mono walk (fun e w' hp => ?_)
 obtain ⟨rfl, rfl⟩ := hp
 obtain ⟨f1, f2, f3⟩ := freeze_rest (w := w.drew) (g := E.φ j) (n := l.length)
 obtain ⟨ev, sim'⟩ := kill (w' := w.drew.freeze ⟨E.φ j, 0, none⟩ l.length) sim hj freeze_size (fun b hb => by
  rcases hb with hb | hb
  · exact freeze_other (w := w.drew) hb
  · exact absurd hb hcap) f1 f2 f3
 exact ⟨_, ev, sim', .pure _ _ (by have := RepP.str (w := w.drew.freeze ⟨E.φ j, 0, none⟩ l.length) (imm := E.imm) ⟨l.toArray⟩; simpa using this)⟩
def bytesOf (rows : List Vs) : Oc := rows.map byteOf
theorem byteOf_row (c : UInt8) : byteOf (byteRow c) = c := by
 simp [byteOf, byteRow, intOf]
theorem bytesOf_map (l : Oc) : bytesOf (l.map byteRow) = l := by
 unfold bytesOf
 rw [List.map_map]
 conv => rhs; rw [← List.map_id l]
 exact List.map_congr_left (fun a _ => byteOf_row a)
theorem str_ok0 {H : Heap} {i off : Nat} {cs : Vs} (hi : H[i]? = some (.var cs)) (hc : cs[off + 1]? = some .nilX) :
 CallOK Tryz.prog 37 [.ptr (.hp i) off] H (.ret (.str []) H) := by
 intro w E ys sim hlen hr
 obtain ⟨y, rfl⟩ : ∃ y, ys = [y] := by
  match ys, hlen with
  | [y], _ => exact ⟨y, rfl⟩
 obtain ⟨e0, hv⟩ := rep_ptrH (hr 0 (by simp))
 replace e0 : y = .pointer (some ⟨E.φ i, off, none⟩) := e0
 subst e0
 obtain ⟨ds, ty, fr, b1, b2, b3, b4⟩ := sim.var i cs hi
 obtain ⟨c, c1, c2, c3⟩ := b4 (off + 1) _ hc
 obtain rfl := rep_nilX c3
 have hcell : w.cell? ⟨E.φ i, off + 1, none⟩ = some (.slice none 0 0) := by
  simp only [World.cell?, b1]; exact c1
 have walk := str_walk (w := w) (b := E.φ i) (off := off) (pv := none) (s := .empty) (w1 := w.drew) hcell
  (Lib.run_unsafeSliceData_nil _ _ _ _ _) (Lib.run_unsafeString_none _ _ _ _ _)
 refine Calls.mono walk (fun e w' hp => ?_)
 obtain ⟨rfl, rfl⟩ := hp
 have ev : Evo No w E H w.drew E H := ⟨Nat.le_refl _, fun _ _ _ _ => rfl, fun b hb => ⟨hb, rfl⟩, fun b hb => .inl hb, fun k hk => ⟨hk, rfl⟩, fun k sz u hk => ⟨u, hk, Nat.le_refl _, fun _ => ⟨rfl, fun _ => rfl⟩⟩, fun k hk => .inr ⟨hk, rfl⟩, Nat.le_refl _, rfl, rfl, rfl⟩
 exact ⟨E, ev, sim.keep ev.sees (fun _ _ => rfl) (Nat.le_refl _), .pure _ _ (by have := RepP.str (w := w.drew) (imm := E.imm) .empty; simpa using this)⟩
end Go.Mu
set_option maxHeartbeats 2000000
namespace Go.Mu
open Go Go.Proofs
abbrev itT : Nat := 66
abbrev spT : Nat := 61
structure ItemD where
 kind : Int
 text : Oc
 at_ : Int
def encItem (x : ItemD) : Vs := [.int .i64 x.kind, .str x.text, .int .i64 x.at_]
def bfB (j : Nat) (text : Oc) (v : Nat) : AVal := match text with
 | [] => .nilX
 | c :: t => .own j 0 (c :: t).length v false
abbrev HsP (U0 U1 U2 : Obj) (s : Oc) (o ad b : AVal) (a : Int) (tr : Bool) (O B : Obj) : Heap := [U0, U1, U2, .var [.str s, o, ad, b, .int .i64 a, .bool tr], .note spT 6, O, .note itT 0, B, .note bT 0]
noncomputable def layW0 : Lay := Lay.nil.addL 30 { nils := [14] }
theorem ws_fun0 (U0 U1 U2 O : Obj) (s : Oc) (o : AVal) (a : Int) (tr : Bool) (B : Obj) (k : Out → Ans) : iFun Tryz.prog (layW0.hd Tryz.prog) layW0.fhs 0 30 [.ptr (.hp 3) 2, .str []] (HsP U0 U1 U2 s o .nilptr .nilX a tr O B) k = (
 k
 (Out.ret (AVal.tuple [AVal.int .i64 0, AVal.nilIface])
 [U0, U1, U2, Obj.var [AVal.str s, o, AVal.ptr (Oid.hp 3) 2, AVal.nilX, AVal.int .i64 a, AVal.bool tr],
  Obj.note 61 6, O, Obj.note 66 0, B, Obj.note 5 0])) := by kernel_rfl
theorem ws_fun1 (U0 U1 U2 O : Obj) (s : Oc) (o : AVal) (a : Int) (tr : Bool) (B : Obj) (k : Out → Ans) : iFun Tryz.prog (layW0.hd Tryz.prog) layW0.fhs 0 30 [.ptr (.hp 3) 2, .str []] (HsP U0 U1 U2 s o (.ptr (.hp 3) 2) .nilX a tr O B) k = (
 k
 (Out.ret (AVal.tuple [AVal.int .i64 0, AVal.nilIface])
 [U0, U1, U2, Obj.var [AVal.str s, o, AVal.ptr (Oid.hp 3) 2, AVal.nilX, AVal.int .i64 a, AVal.bool tr],
  Obj.note 61 6, O, Obj.note 66 0, B, Obj.note 5 0])) := by kernel_rfl
theorem ws_fun2 (U0 U1 U2 O : Obj) (s l : Oc) (o : AVal) (a : Int) (tr : Bool) (n v : Nat) (rows : List Vs) (k : Out → Ans) : iFun Tryz.prog (Lay.nil.hd Tryz.prog) Lay.nil.fhs 0 30 [.ptr (.hp 3) 2, .str l] (HsP U0 U1 U2 s o .nilptr (.own 7 0 n v false) a tr O (.arr 1 rows v)) k = (
 let m0 : Nat := n + (List.map (fun (c : UInt8) => [AVal.int .u8 (↑c.toNat : Int)]) l).length;
 let m1 : Nat := v + 1;
  bif v == v && n == rows.length && decide ((2 * m0 + 1000) * 1 ≤ 281474976710656) && true then
  k
  (Out.ret (AVal.tuple [AVal.int .i64 (↑l.length : Int), AVal.nilIface])
  [U0, U1, U2,
  Obj.var [AVal.str s, o, AVal.ptr (Oid.hp 3) 2, AVal.own 7 0 m0 m1 false, AVal.int .i64 a, AVal.bool tr],
  Obj.note 61 6, O, Obj.note 66 0,
  Obj.arr 1 (rows.append (List.map (fun (c : UInt8) => [AVal.int .u8 (↑c.toNat : Int)]) l)) m1,
  Obj.note 5 0])
  else none) := by kernel_rfl
theorem ws_fun3 (U0 U1 U2 O : Obj) (s l : Oc) (o : AVal) (a : Int) (tr : Bool) (n v : Nat) (rows : List Vs) (k : Out → Ans) : iFun Tryz.prog (Lay.nil.hd Tryz.prog) Lay.nil.fhs 0 30 [.ptr (.hp 3) 2, .str l] (HsP U0 U1 U2 s o (.ptr (.hp 3) 2) (.own 7 0 n v false) a tr O (.arr 1 rows v)) k = (
 let m0 : Nat := n + (List.map (fun (c : UInt8) => [AVal.int .u8 (↑c.toNat : Int)]) l).length;
 let m1 : Nat := v + 1;
  bif v == v && n == rows.length && decide ((2 * m0 + 1000) * 1 ≤ 281474976710656) && true then
  k
  (Out.ret (AVal.tuple [AVal.int .i64 (↑l.length : Int), AVal.nilIface])
  [U0, U1, U2,
  Obj.var [AVal.str s, o, AVal.ptr (Oid.hp 3) 2, AVal.own 7 0 m0 m1 false, AVal.int .i64 a, AVal.bool tr],
  Obj.note 61 6, O, Obj.note 66 0,
  Obj.arr 1 (rows.append (List.map (fun (c : UInt8) => [AVal.int .u8 (↑c.toNat : Int)]) l)) m1,
  Obj.note 5 0])
  else none) := by kernel_rfl
structure SpH where
 U0 : Obj
 U1 : Obj
 U2 : Obj
 s : Oc
 o : AVal
 ad : AVal
 b : AVal
 a : Int
 tr : Bool
 O : Obj
 rows : List Vs
 v : Nat
abbrev SpH.heap (x : SpH) : Heap := HsP x.U0 x.U1 x.U2 x.s x.o x.ad x.b x.a x.tr x.O (.arr 1 x.rows x.v)
abbrev cs3 (H : Heap) : Vs := cellsO (H.getD 3 (.var []))
def SpH.dec (H : Heap) : SpH := ⟨H.getD 0 (.var []), H.getD 1 (.var []), H.getD 2 (.var []), strOf ((cs3 H).getD 0 .undef), (cs3 H).getD 1 .undef, (cs3 H).getD 2 .undef, (cs3 H).getD 3 .undef, intOf ((cs3 H).getD 4 .undef), boolOf ((cs3 H).getD 5 .undef), H.getD 5 (.var []), rowsO (H.getD 7 (.var [])), verO (H.getD 7 (.var []))⟩
def CanB (ad b : AVal) (rows : List Vs) (v : Nat) : Prop := (ad = .nilptr ∨ ad = .ptr (.hp 3) 2) ∧ rows = (bytesOf rows).map byteRow ∧ b = bfB 7 (bytesOf rows) v
abbrev Can (x : SpH) : Prop := CanB x.ad x.b x.rows x.v
def wsV (text l : Oc) (v : Nat) : Nat := bif text == [] then (bif l == [] then v else v + 2) else v + 1
def wsM (x : SpH) (l : Oc) : SpH := { x with ad := .ptr (.hp 3) 2, b := bfB 7 ((bytesOf x.rows) ++ l) (wsV (bytesOf x.rows) l x.v), rows := x.rows ++ l.map byteRow, v := wsV (bytesOf x.rows) l x.v }
theorem wsM_t (x : SpH) (l : Oc) : bytesOf (wsM x l).rows = (bytesOf x.rows) ++ l := by
 show bytesOf (x.rows ++ l.map byteRow) = _
 have := bytesOf_map l
 unfold bytesOf at this
 show (x.rows ++ l.map byteRow).map byteOf = x.rows.map byteOf ++ l
 rw [List.map_append, this]
theorem wsM_can {x : SpH} (h : Can x) (l : Oc) : Can (wsM x l) := by
 refine ⟨.inr rfl, ?_, ?_⟩
 · rw [wsM_t, List.map_append, ← h.2.1]; rfl
 · rw [wsM_t]; rfl
theorem layW0_ok : layW0.OK Tryz.prog := Lay.nil_ok.addN (by kernel_rfl)
theorem e_map (l : Oc) : List.map (fun c : UInt8 => [AVal.int .u8 (c.toNat : Int)]) l = l.map byteRow := rfl
theorem ws_ok (x : SpH) (l : Oc) (hx : Can x) (h : (bytesOf x.rows).length + l.length ≤ 1099511627776) : CallOK Tryz.prog 30 [.ptr (.hp 3) 2, .str l] x.heap (.ret (.tuple [.int .i64 l.length, .nilIface]) (wsM x l).heap) := by
 obtain ⟨U0, U1, U2, s, o, ad, b, a, tr, O, rows, v⟩ := x
 obtain ⟨h1, h2, h3⟩ := hx
 unfold wsM
 simp only at h h1 h2 h3 ⊢
 generalize bytesOf rows = text at *
 subst h2 h3
 cases text with
 | nil =>
  cases l with
  | nil =>
   refine layW0_ok.call (fun k => ?_)
   rcases h1 with rfl | rfl
   · exact ws_fun0 U0 U1 U2 O s o a tr (.arr 1 [] v) k
   · exact ws_fun1 U0 U1 U2 O s o a tr (.arr 1 [] v) k
  | cons c t =>
   refine relAt_ok (i := 3) (c := 3) (j := 7) ?_
   simp only [List.length_nil] at h
   refine Lay.nil_ok.call (fun k => ?_)
   have e3 : wsV [] (c :: t) v = v + 1 + 1 := rfl
   rw [e3]
   generalize hl : c :: t = l at *
   have e4 : bfB 7 ([] ++ l) (v + 1 + 1) = .own 7 0 l.length (v + 1 + 1) false := by rw [← hl]; rfl
   rw [e4]
   rcases h1 with rfl | rfl
   · rw [show relAt 3 3 7 (SpH.mk U0 U1 U2 s o .nilptr (bfB 7 [] v) a tr O (([] : Oc).map byteRow) v).heap = HsP U0 U1 U2 s o .nilptr (.own 7 0 0 (v + 1) false) a tr O (.arr 1 [] (v + 1)) from rfl, ws_fun2]
     simp (disch := omega) only [e_map, List.length_map, dT, beq_self_eq_true, Bool.and_true, cond_true, List.append_eq, List.nil_append, Nat.zero_add, List.length_nil, Nat.mul_one, List.map_nil]
   · rw [show relAt 3 3 7 (SpH.mk U0 U1 U2 s o (.ptr (.hp 3) 2) (bfB 7 [] v) a tr O (([] : Oc).map byteRow) v).heap = HsP U0 U1 U2 s o (.ptr (.hp 3) 2) (.own 7 0 0 (v + 1) false) a tr O (.arr 1 [] (v + 1)) from rfl, ws_fun3]
     simp (disch := omega) only [e_map, List.length_map, dT, beq_self_eq_true, Bool.and_true, cond_true, List.append_eq, List.nil_append, Nat.zero_add, List.length_nil, Nat.mul_one, List.map_nil]
 | cons c t =>
  refine Lay.nil_ok.call (fun k => ?_)
  have e3 : wsV (c :: t) l v = v + 1 := rfl
  have e4 : bfB 7 ((c :: t) ++ l) (v + 1) = .own 7 0 ((c :: t) ++ l).length (v + 1) false := rfl
  have e5 : bfB 7 (c :: t) v = .own 7 0 (c :: t).length v false := rfl
  rw [e3, e4, e5]
  generalize c :: t = m at *
  rcases h1 with rfl | rfl
  · rw [ws_fun2]
    simp (disch := omega) only [e_map, List.length_map, dT, beq_self_eq_true, Bool.and_true, cond_true, List.append_eq, List.length_append, Nat.mul_one]
  · rw [ws_fun3]
    simp (disch := omega) only [e_map, List.length_map, dT, beq_self_eq_true, Bool.and_true, cond_true, List.append_eq, List.length_append, Nat.mul_one]
noncomputable def wsTold : FSp := mkF (fun xs H => (SpH.dec H, aS xs 1)) (fun x => Can x.1 ∧ (bytesOf x.1.rows).length + x.2.length ≤ 1099511627776) (fun x => [.ptr (.hp 3) 2, .str x.2]) (fun x => x.1.heap)
 (fun x k => k (.ret (.tuple [.int .i64 x.2.length, .nilIface]) (wsM x.1 x.2).heap))
theorem wsTold_ok : ∀ xs H k out, wsTold xs H k = some out → ∃ o, CallOK Tryz.prog 30 xs H o ∧ k o = some out :=
 mkF_ok fun x h => ⟨_, fun k => rfl, ws_ok x.1 x.2 h.1 h.2⟩
theorem len_fun0 (U0 U1 U2 O : Obj) (s : Oc) (o ad : AVal) (a : Int) (tr : Bool) (B : Obj) (k : Out → Ans) : iFun Tryz.prog (Lay.nil.hd Tryz.prog) Lay.nil.fhs 0 29 [.ptr (.hp 3) 2] (HsP U0 U1 U2 s o ad .nilX a tr O B) k = (
 k (Out.ret (AVal.int .i64 0) (HsP U0 U1 U2 s o ad AVal.nilX a tr O B))) := by kernel_rfl
theorem len_fun1 (U0 U1 U2 O : Obj) (s : Oc) (o ad : AVal) (a : Int) (tr : Bool) (n v : Nat) (B : Obj) (k : Out → Ans) : iFun Tryz.prog (Lay.nil.hd Tryz.prog) Lay.nil.fhs 0 29 [.ptr (.hp 3) 2] (HsP U0 U1 U2 s o ad (.own 7 0 n v false) a tr O B) k = (
 k (Out.ret (AVal.int .i64 (↑n : Int)) (HsP U0 U1 U2 s o ad (AVal.own 7 0 n v false) a tr O B))) := by kernel_rfl
theorem len_ok (x : SpH) (hx : Can x) : CallOK Tryz.prog 29 [.ptr (.hp 3) 2] x.heap (.ret (.int .i64 (bytesOf x.rows).length) x.heap) := by
 obtain ⟨U0, U1, U2, s, o, ad, b, a, tr, O, rows, v⟩ := x
 obtain ⟨h1, h2, h3⟩ := hx
 simp only at h1 h2 h3 ⊢
 generalize bytesOf rows = text at *
 subst h2 h3
 refine Lay.nil_ok.call (fun k => ?_)
 cases text with
 | nil => exact len_fun0 U0 U1 U2 O s o ad a tr _ k
 | cons c t => exact len_fun1 U0 U1 U2 O s o ad a tr (c :: t).length v _ k
noncomputable def lenTold : FSp := mkF (fun xs H => SpH.dec H) (fun x => Can x) (fun x => [.ptr (.hp 3) 2]) (fun x => x.heap) (fun x k => k (.ret (.int .i64 (bytesOf x.rows).length) x.heap))
theorem lenTold_ok : ∀ xs H k out, lenTold xs H k = some out → ∃ o, CallOK Tryz.prog 29 xs H o ∧ k o = some out :=
 mkF_ok fun x h => ⟨_, fun k => rfl, len_ok x h⟩
abbrev SpH.killed (x : SpH) : SpH := { x with rows := [], v := bif (bytesOf x.rows) == [] then x.v else x.v + 1 }
theorem stg_ok (x : SpH) (hx : Can x) (h : (bytesOf x.rows).length ≤ 1099511627776) : CallOK Tryz.prog 37 [.ptr (.hp 3) 2] x.heap (.ret (.str (bytesOf x.rows)) x.killed.heap) := by
 obtain ⟨U0, U1, U2, s, o, ad, b, a, tr, O, rows, v⟩ := x
 obtain ⟨h1, h2, h3⟩ := hx
 simp only at h h1 h2 h3 ⊢
 generalize bytesOf rows = text at *
 subst h2 h3
 cases text with
 | nil => exact str_ok0 (cs := [.str s, o, ad, .nilX, .int .i64 a, .bool tr]) rfl rfl
 | cons c t => exact str_ok (i := 3) (off := 2) (j := 7) (u := v) (cs := [.str s, o, ad, .own 7 0 (c :: t).length v false, .int .i64 a, .bool tr]) (l := c :: t) rfl rfl rfl rfl (by simp) h
noncomputable def stgTold : FSp := mkF (fun xs H => SpH.dec H) (fun x => Can x ∧ (bytesOf x.rows).length ≤ 1099511627776) (fun x => [.ptr (.hp 3) 2]) (fun x => x.heap) (fun x k => k (.ret (.str (bytesOf x.rows)) x.killed.heap))
theorem stgTold_ok : ∀ xs H k out, stgTold xs H k = some out → ∃ o, CallOK Tryz.prog 37 xs H o ∧ k o = some out :=
 mkF_ok fun x h => ⟨_, fun k => rfl, stg_ok x h.1 h.2⟩
noncomputable def layX4 : Lay := (((layX3.addF 30 wsTold).addF 29 lenTold).addF 37 stgTold).addL 38 { exact := true }
theorem layX4_ok : layX4.OK Tryz.prog := (((layX3_ok.addF wsTold_ok).addF lenTold_ok).addF stgTold_ok).addN (by kernel_rfl)
theorem put_fun (U0 U1 U2 O : Obj) (s : Oc) (o ad b : AVal) (a : Int) (tr : Bool) (rows : List Vs) (v : Nat) (f t : Int) (k : Out → Ans) : iFun Tryz.prog (layX4.hd Tryz.prog) layX4.fhs 0 17 [.ptr (.hp 3) 0, .int .i64 f, .int .i64 t] (HsP U0 U1 U2 s o ad b a tr O (.arr 1 rows v)) k = (
 let l0 : Oc := List.drop f.toNat (List.take t.toNat s);
 let m1 : Nat := l0.length;
 let l2 : Oc := trimL l0;
 let c3 : Bool := l2 == [];
 let c4 : Bool := !c3;
 let c5 : Bool := bif c3 then tr else false;
 let c6 : Bool := (↑(bytesOf rows).length : Int) == 0;
 let m7 : Nat := l2.length;
 let n8 : Int := IntKind.i64.wrap (f + IntKind.i64.wrap ((↑m1 : Int) - (↑m7 : Int)));
 let m9 : Nat := wsV (bytesOf rows) l2 v;
 let c10 : Bool := !l0 == [];
 let m11 : Nat := wsV (bytesOf rows) l0 v;
 let z0 := SpH.mk U0 U1 U2 s o ad b a c5 O rows v;
 let z1 := SpH.mk U0 U1 U2 s o ad b a tr O rows v;
 let z2 := [AVal.ptr (Oid.hp 3) 2, AVal.str l2];
 let z3 := [AVal.ptr (Oid.hp 3) 2, AVal.str l0];
 let z4 := [U0, U1, U2, Obj.var [AVal.str s, o, ad, b, AVal.int .i64 a, AVal.bool c5], Obj.note 61 6, O, Obj.note 66 0, Obj.arr 1 rows v, Obj.note 5 0];
 let z5 := bfB 7 ((bytesOf rows).append l0) m11;
 let z6 := bfB 7 ((bytesOf rows).append l2) m9;
 let z7 := Can z0 ∧ (bytesOf rows).length + m7 ≤ 1099511627776;
 let z8 := Can z1 ∧ (bytesOf rows).length + m1 ≤ 1099511627776;
  bif decide (0 ≤ f) && decide (f ≤ t) && decide (t ≤ (↑s.length : Int)) then bif tr then bif decide (m1 ≤ 1099511627776) then bif c4 then bif tst (Can z0 ∧ SubL [AVal.ptr (Oid.hp 3) 2] [AVal.ptr (Oid.hp 3) 2] ∧ z4 = z0.heap) then bif bif c4 then c6 else false then bif tst ((Can (SpH.mk U0 U1 U2 s o ad b n8 c5 O rows v) ∧ (bytesOf rows).length + m7 ≤ 1099511627776) ∧ SubL z2 z2 ∧ [U0, U1, U2, Obj.var [AVal.str s, o, ad, b, AVal.int .i64 n8, AVal.bool c5], Obj.note 61 6, O, Obj.note 66 0, Obj.arr 1 rows v, Obj.note 5 0] = (SpH.mk U0 U1 U2 s o ad b n8 c5 O rows v).heap) then k (Out.ret (AVal.tuple []) (SpH.mk U0 U1 U2 s o (AVal.ptr (Oid.hp 3) 2) z6 n8 c5 O (rows.append (List.map (fun (c : UInt8) => [AVal.int .u8 (↑c.toNat : Int)]) l2)) m9).heap) else none else bif tst (z7 ∧ SubL z2 z2 ∧ z0.heap = z0.heap) then k (Out.ret (AVal.tuple []) (SpH.mk U0 U1 U2 s o (AVal.ptr (Oid.hp 3) 2) z6 a c5 O (rows.append (List.map (fun (c : UInt8) => [AVal.int .u8 (↑c.toNat : Int)]) l2)) m9).heap) else none else none else bif c4 then none else bif c4 then none else bif tst (z7 ∧ SubL z2 z2 ∧ z4 = z0.heap) then k (Out.ret (AVal.tuple []) (SpH.mk U0 U1 U2 s o (AVal.ptr (Oid.hp 3) 2) z6 a c5 O (rows.append (List.map (fun (c : UInt8) => [AVal.int .u8 (↑c.toNat : Int)]) l2)) m9).heap) else none else none else bif c10 then bif tst (Can z1 ∧ SubL [AVal.ptr (Oid.hp 3) 2] [AVal.ptr (Oid.hp 3) 2] ∧ HsP U0 U1 U2 s o ad b a tr O (Obj.arr 1 rows v) = z1.heap) then bif bif c10 then c6 else false then bif tst ((Can (SpH.mk U0 U1 U2 s o ad b f tr O rows v) ∧ (bytesOf rows).length + m1 ≤ 1099511627776) ∧ SubL z3 z3 ∧ [U0, U1, U2, Obj.var [AVal.str s, o, ad, b, AVal.int .i64 f, AVal.bool tr], Obj.note 61 6, O, Obj.note 66 0, Obj.arr 1 rows v, Obj.note 5 0] = (SpH.mk U0 U1 U2 s o ad b f tr O rows v).heap) then k (Out.ret (AVal.tuple []) (SpH.mk U0 U1 U2 s o (AVal.ptr (Oid.hp 3) 2) z5 f tr O (rows.append (List.map (fun (c : UInt8) => [AVal.int .u8 (↑c.toNat : Int)]) l0)) m11).heap) else none else bif tst (z8 ∧ SubL z3 z3 ∧ z1.heap = z1.heap) then k (Out.ret (AVal.tuple []) (SpH.mk U0 U1 U2 s o (AVal.ptr (Oid.hp 3) 2) z5 a tr O (rows.append (List.map (fun (c : UInt8) => [AVal.int .u8 (↑c.toNat : Int)]) l0)) m11).heap) else none else none else bif c10 then none else bif c10 then none else bif tst (z8 ∧ SubL z3 z3 ∧ HsP U0 U1 U2 s o ad b a tr O (Obj.arr 1 rows v) = z1.heap) then k (Out.ret (AVal.tuple []) (SpH.mk U0 U1 U2 s o (AVal.ptr (Oid.hp 3) 2) z5 a tr O (rows.append (List.map (fun (c : UInt8) => [AVal.int .u8 (↑c.toNat : Int)]) l0)) m11).heap) else none else none) := by kernel_rfl
theorem flush_fun (U0 U1 U2 : Obj) (s : Oc) (ad b : AVal) (a : Int) (tr : Bool) (m u : Nat) (orows rows : List Vs) (v : Nat) (k : Out → Ans) : iFun Tryz.prog (layX4.hd Tryz.prog) layX4.fhs 0 19 [.ptr (.hp 3) 0] (HsP U0 U1 U2 s (.own 5 0 m u false) ad b a tr (.arr 3 orows u) (.arr 1 rows v)) k = (
 let m0 : Nat := m + 1;
 let m1 : Nat := u + 1;
 let z0 := SpH.mk U0 U1 U2 s (AVal.own 5 0 m u false) ad b a tr (Obj.arr 3 orows u) rows v;
  bif tst (Can z0 ∧ SubL [AVal.ptr (Oid.hp 3) 2] [AVal.ptr (Oid.hp 3) 2] ∧ HsP U0 U1 U2 s (AVal.own 5 0 m u false) ad b a tr (Obj.arr 3 orows u) (Obj.arr 1 rows v) = z0.heap) then bif decide ((↑(bytesOf rows).length : Int) > 0) then bif tst ((Can z0 ∧ (bytesOf rows).length ≤ 1099511627776) ∧ SubL [AVal.ptr (Oid.hp 3) 2] [AVal.ptr (Oid.hp 3) 2] ∧ z0.heap = z0.heap) then bif u == u && m == orows.length && decide ((2 * m0 + 1000) * 32 ≤ 281474976710656) && true then bif sameV (AVal.int .i64 a) (AVal.int .i64 a) && true && true && (sameV (AVal.own 5 0 m u false) (AVal.own 5 0 m u false) && true && true && true) then k (Out.ret (AVal.tuple []) [U0, U1, U2, Obj.var [AVal.str s, AVal.own 5 0 m0 m1 false, AVal.nilptr, AVal.nilX, AVal.int .i64 a, AVal.bool tr], Obj.note 61 6, Obj.arr 3 (orows.append [[AVal.int .i64 1, AVal.str (bytesOf rows), AVal.int .i64 a]]) m1, Obj.note 66 0, Obj.arr 1 [] (bif bytesOf rows == [] then v else v + 1), Obj.note 5 0]) else none else none else none else k (Out.ret (AVal.tuple []) [U0, U1, U2, Obj.var [AVal.str s, AVal.own 5 0 m u false, AVal.nilptr, AVal.nilX, AVal.int .i64 a, AVal.bool tr], Obj.note 61 6, Obj.arr 3 orows u, Obj.note 66 0, Obj.arr 1 rows v, Obj.note 5 0]) else none) := by kernel_rfl
theorem cut_fun (U0 U1 U2 O : Obj) (s : Oc) (o ad b : AVal) (a : Int) (tr : Bool) (rows : List Vs) (v : Nat) (k : Out → Ans) : iFun Tryz.prog (layX4.hd Tryz.prog) layX4.fhs 0 35 [.ptr (.hp 3) 0] (HsP U0 U1 U2 s o ad b a tr O (.arr 1 rows v)) k = (
 let m0 : Nat := bif bytesOf rows == [] then v else v + 1;
 let m1 : Nat := wsV (bytesOf []) (trimR (bytesOf rows)) m0;
 let z0 := SpH.mk U0 U1 U2 s o AVal.nilptr AVal.nilX a tr O [] m0;
 let z1 := [AVal.ptr (Oid.hp 3) 2, AVal.str (trimR (bytesOf rows))];
  bif tst ((Can (SpH.mk U0 U1 U2 s o ad b a tr O rows v) ∧ (bytesOf rows).length ≤ 1099511627776) ∧ SubL [AVal.ptr (Oid.hp 3) 2] [AVal.ptr (Oid.hp 3) 2] ∧ HsP U0 U1 U2 s o ad b a tr O (Obj.arr 1 rows v) = (SpH.mk U0 U1 U2 s o ad b a tr O rows v).heap) then bif decide ((bytesOf rows).length ≤ 1099511627776) then bif tst ((Can z0 ∧ 0 + (trimR (bytesOf rows)).length ≤ 1099511627776) ∧ SubL z1 z1 ∧ [U0, U1, U2, Obj.var [AVal.str s, o, AVal.nilptr, AVal.nilX, AVal.int .i64 a, AVal.bool tr], Obj.note 61 6, O, Obj.note 66 0, Obj.arr 1 [] m0, Obj.note 5 0] = z0.heap) then k (Out.ret (AVal.tuple []) (SpH.mk U0 U1 U2 s o (AVal.ptr (Oid.hp 3) 2) (bfB 7 (trimR (bytesOf rows)) m1) a tr O (List.map (fun (c : UInt8) => [AVal.int .u8 (↑c.toNat : Int)]) (trimR (bytesOf rows))) m1).heap) else none else none else none) := by kernel_rfl
def putL (s : Oc) (tr : Bool) (f t : Nat) : Oc := bif tr then trimL ((s.take t).drop f) else (s.take t).drop f
def putM (x : SpH) (f t : Nat) : SpH :=
 wsM { x with a := bif !(putL x.s x.tr f t == []) && bytesOf x.rows == [] then (f : Int) + (((x.s.take t).drop f).length - (putL x.s x.tr f t).length) else x.a, tr := x.tr && putL x.s x.tr f t == [] } (putL x.s x.tr f t)
theorem putL_len (s : Oc) (tr : Bool) (f t : Nat) : (putL s tr f t).length ≤ ((s.take t).drop f).length := by
 unfold putL
 cases tr
 · exact Nat.le_refl _
 · exact trimL_len _
theorem len0 (text : Oc) : ((text.length : Int) == 0) = (text == []) := by
 cases text with
 | nil => rfl
 | cons c t => rw [Bool.eq_iff_iff]; simp; omega
theorem put_call (x : SpH) {f t : Nat} (hx : Can x) (h1 : f ≤ t) (h2 : t ≤ x.s.length) (hs : x.s.length ≤ 1073741824) (hp : (bytesOf x.rows).length ≤ 1073741824) (k : Out → Ans) :
 iFun Tryz.prog (layX4.hd Tryz.prog) layX4.fhs 0 17 [.ptr (.hp 3) 0, .int .i64 f, .int .i64 t] x.heap k = k (.ret (.tuple []) (putM x f t).heap) := by
 obtain ⟨U0, U1, U2, s, o, ad, b, a, tr, O, rows, v⟩ := x
 have key : iFun Tryz.prog (layX4.hd Tryz.prog) layX4.fhs 0 17 [.ptr (.hp 3) 0, .int .i64 f, .int .i64 t] (SpH.mk U0 U1 U2 s o ad b a tr O rows v).heap k = _ := put_fun U0 U1 U2 O s o ad b a tr rows v f t k
 rw [key]
 clear key
 simp only at hx hp hs h2
 have hd : ((s.take t).drop f).length ≤ s.length := by simp; omega
 unfold putM
 have h8 := trimL_len ((s.take t).drop f)
 simp (disch := first | trivial | omega | (apply And.intro <;> first | assumption | omega)) only [Can, e_map, SpH.heap, HsP, Int.toNat_natCast, bif_and, dT, cond_true, Bool.and_true, tstP, wrap_of, len0, List.append_eq]
 cases tr
 · have e : putL s false f t = (s.take t).drop f := rfl
   rw [e]
   simp only [cond_false, Bool.false_and, Int.sub_self, Int.add_zero]
   generalize (s.take t).drop f = l
   cases l == [] <;> cases bytesOf rows == [] <;> rfl
 · have e : putL s true f t = trimL ((s.take t).drop f) := rfl
   rw [e]
   simp only [cond_true, Bool.true_and, Bool.and_true]
   generalize trimL ((s.take t).drop f) = l2
   generalize ((s.take t).drop f).length = n
   cases l2 == [] <;> cases bytesOf rows == [] <;> rfl
def cutM (x : SpH) : SpH := wsM { x with ad := .nilptr, b := .nilX, rows := [], v := bif bytesOf x.rows == [] then x.v else x.v + 1 } (trimR (bytesOf x.rows))
theorem can_nil (v : Nat) : CanB .nilptr .nilX [] v := ⟨.inl rfl, rfl, rfl⟩
theorem cut_call (x : SpH) (hx : Can x) (hp : (bytesOf x.rows).length ≤ 1073741824) (k : Out → Ans) :
 iFun Tryz.prog (layX4.hd Tryz.prog) layX4.fhs 0 35 [.ptr (.hp 3) 0] x.heap k = k (.ret (.tuple []) (cutM x).heap) := by
 obtain ⟨U0, U1, U2, s, o, ad, b, a, tr, O, rows, v⟩ := x
 have key : iFun Tryz.prog (layX4.hd Tryz.prog) layX4.fhs 0 35 [.ptr (.hp 3) 0] (SpH.mk U0 U1 U2 s o ad b a tr O rows v).heap k = _ := cut_fun U0 U1 U2 O s o ad b a tr rows v k
 rw [key]
 clear key
 simp only at hp hx
 have h8 := trimR_len (bytesOf rows)
 have h9 : ∀ v, CanB .nilptr .nilX [] v := can_nil
 have h10 : (bytesOf []).length = 0 := rfl
 simp (disch := first | trivial | omega | (apply And.intro <;> first | assumption | omega) | (apply And.intro <;> first | exact can_nil _ | omega)) only [Can, e_map, SpH.heap, HsP, cond_true, tstP, dT]
 rfl
def flN (x : SpH) : Bool := bytesOf x.rows == []
def flushM (x : SpH) : SpH :=
 { x with o := .own 5 0 (bif flN x then (rowsO x.O).length else (rowsO x.O).length + 1) (bif flN x then verO x.O else verO x.O + 1) false, ad := .nilptr, b := .nilX, rows := [], v := (bif flN x then x.v else x.v + 1), O := .arr 3 (bif flN x then rowsO x.O else rowsO x.O ++ [[.int .i64 1, .str (bytesOf x.rows), .int .i64 x.a]]) (bif flN x then verO x.O else verO x.O + 1) }
def CanO (o : AVal) (O : Obj) : Prop := o = .own 5 0 (rowsO O).length (verO O) false ∧ O = .arr 3 (rowsO O) (verO O)
theorem flush_call (x : SpH) (hx : Can x) (ho : CanO x.o x.O) (hp : (bytesOf x.rows).length ≤ 1073741824) (hn : (rowsO x.O).length ≤ 1073741824) (k : Out → Ans) :
 iFun Tryz.prog (layX4.hd Tryz.prog) layX4.fhs 0 19 [.ptr (.hp 3) 0] x.heap k = k (.ret (.tuple []) (flushM x).heap) := by
 obtain ⟨U0, U1, U2, s, o, ad, b, a, tr, O, rows, v⟩ := x
 obtain ⟨h1, h2⟩ := ho
 simp only at hp hx hn h1 h2
 have hv : CanB ad b rows v := hx
 generalize hro : rowsO O = orows at *
 generalize hve : verO O = u at *
 subst h1 h2
 have key : iFun Tryz.prog (layX4.hd Tryz.prog) layX4.fhs 0 19 [.ptr (.hp 3) 0] (SpH.mk U0 U1 U2 s (.own 5 0 orows.length u false) ad b a tr (.arr 3 orows u) rows v).heap k = _ := flush_fun U0 U1 U2 s ad b a tr orows.length u orows rows v k
 rw [key]
 clear key
 unfold flushM flN
 simp only [rowsO, verO]
 simp (disch := first | trivial | omega | (apply And.intro <;> first | assumption | omega)) only [Can, e_map, SpH.heap, HsP, cond_true, tstP, dT, beq_self_eq_true, Bool.and_true, sameV_refl, List.append_eq]
 obtain ⟨_, h4, _⟩ := hx
 generalize bytesOf rows = text at *
 cases text with
 | nil => subst h4; rfl
 | cons c t =>
  rw [dT (show ((c :: t).length : Int) > 0 by simp only [List.length_cons]; omega)]
  rfl
noncomputable def putTold : FSp := mkF (fun xs H => (SpH.dec H, (aI xs 1).toNat, (aI xs 2).toNat)) (fun x => Can x.1 ∧ x.2.1 ≤ x.2.2 ∧ x.2.2 ≤ x.1.s.length ∧ x.1.s.length ≤ 1073741824 ∧ (bytesOf x.1.rows).length ≤ 1073741824) (fun x => [.ptr (.hp 3) 0, .int .i64 x.2.1, .int .i64 x.2.2]) (fun x => x.1.heap)
 (fun x k => k (.ret (.tuple []) (putM x.1 x.2.1 x.2.2).heap))
theorem putTold_ok : ∀ xs H k out, putTold xs H k = some out → ∃ o, CallOK Tryz.prog 17 xs H o ∧ k o = some out :=
 mkF_ok fun x h => ⟨_, fun k => rfl, layX4_ok.call (put_call x.1 h.1 h.2.1 h.2.2.1 h.2.2.2.1 h.2.2.2.2)⟩
noncomputable def cutTold : FSp := mkF (fun xs H => SpH.dec H) (fun x => Can x ∧ (bytesOf x.rows).length ≤ 1073741824) (fun x => [.ptr (.hp 3) 0]) (fun x => x.heap) (fun x k => k (.ret (.tuple []) (cutM x).heap))
theorem cutTold_ok : ∀ xs H k out, cutTold xs H k = some out → ∃ o, CallOK Tryz.prog 35 xs H o ∧ k o = some out :=
 mkF_ok fun x h => ⟨_, fun k => rfl, layX4_ok.call (cut_call x h.1 h.2)⟩
noncomputable def flushTold : FSp := mkF (fun xs H => SpH.dec H) (fun x => Can x ∧ CanO x.o x.O ∧ (bytesOf x.rows).length ≤ 1073741824 ∧ (rowsO x.O).length ≤ 1073741824) (fun x => [.ptr (.hp 3) 0]) (fun x => x.heap) (fun x k => k (.ret (.tuple []) (flushM x).heap))
theorem flushTold_ok : ∀ xs H k out, flushTold xs H k = some out → ∃ o, CallOK Tryz.prog 19 xs H o ∧ k o = some out :=
 mkF_ok fun x h => ⟨_, fun k => rfl, layX4_ok.call (flush_call x h.1 h.2.1 h.2.2.1 h.2.2.2)⟩
noncomputable def layX5 : Lay := ((layX3.addF 17 putTold).addF 35 cutTold).addF 19 flushTold
theorem layX5_ok : layX5.OK Tryz.prog := ((layX3_ok.addF putTold_ok).addF cutTold_ok).addF flushTold_ok
theorem action_fun (U0 U1 U2 : Obj) (s : Oc) (ad b : AVal) (a : Int) (tr : Bool) (m u : Nat) (orows rows : List Vs) (v : Nat) (at_ : Int) (k : Out → Ans) (n0 : Int) (e_n0 : n0 = (at_ + 2))
 (n1 : Int) (e_n1 : n1 = ((↑s.length : Int)))
 (n2 : Int) (e_n2 : n2 = ((↑(rmF s at_.toNat) : Int) + rmN s at_.toNat + 2))
 (m3 : Nat) (e_m3 : m3 = (n2.toNat))
 (n4 : Int) (e_n4 : n4 = (win (List.drop m3 s) false false m3))
 (n5 : Int) (e_n5 : n5 = (IntKind.i64.wrap n0))
 (c6 : Bool) (e_c6 : c6 = (decide (0 ≤ n5)))
 (m7 : Nat) (e_m7 : m7 = (n5.toNat))
 (l8 : Oc) (e_l8 : l8 = (List.drop m7 (List.take n4.toNat s)))
 (c9 : Bool) (e_c9 : c9 = (tst
  ((Can (SpH.mk U0 U1 U2 s (AVal.own 5 0 m u false) ad b a tr (Obj.arr 3 orows u) rows v) ∧
   (bytesOf rows).length ≤ 1073741824) ∧
    SubL [AVal.ptr (Oid.hp 3) 0] [AVal.ptr (Oid.hp 3) 0] ∧
     HsP U0 U1 U2 s (AVal.own 5 0 m u false) ad b a tr (Obj.arr 3 orows u) (Obj.arr 1 rows v) =
      (SpH.mk U0 U1 U2 s (AVal.own 5 0 m u false) ad b a tr (Obj.arr 3 orows u) rows v).heap)))
 (c10 : Bool) (e_c10 : c10 = (decide (n2 < 0)))
 (m11 : Nat) (e_m11 : m11 = (v + 1))
 (m12 : Nat) (e_m12 : m12 = (wsV (bytesOf []) (trimR (bytesOf rows)) (bif bytesOf rows == [] then v else m11)))
 (l13 : Oc) (e_l13 : l13 = (bytesOf (List.map (fun (c : UInt8) => [AVal.int .u8 (↑c.toNat : Int)]) (trimR (bytesOf rows)))))
 (c14 : Bool) (e_c14 : c14 = (tst
  ((Can
   (SpH.mk U0 U1 U2 s (AVal.own 5 0 m u false) (AVal.ptr (Oid.hp 3) 2) (bfB 7 (trimR (bytesOf rows)) m12) a tr
    (Obj.arr 3 orows u)
    (List.map (fun (c : UInt8) => [AVal.int .u8 (↑c.toNat : Int)]) (trimR (bytesOf rows))) m12) ∧
   CanO (AVal.own 5 0 m u false) (Obj.arr 3 orows u) ∧ l13.length ≤ 1073741824 ∧ orows.length ≤ 1073741824) ∧
    SubL [AVal.ptr (Oid.hp 3) 0] [AVal.ptr (Oid.hp 3) 0] ∧
     (SpH.mk U0 U1 U2 s (AVal.own 5 0 m u false) (AVal.ptr (Oid.hp 3) 2) (bfB 7 (trimR (bytesOf rows)) m12) a tr
      (Obj.arr 3 orows u)
      (List.map (fun (c : UInt8) => [AVal.int .u8 (↑c.toNat : Int)]) (trimR (bytesOf rows))) m12).heap =
      (SpH.mk U0 U1 U2 s (AVal.own 5 0 m u false) (AVal.ptr (Oid.hp 3) 2) (bfB 7 (trimR (bytesOf rows)) m12) a tr
       (Obj.arr 3 orows u)
       (List.map (fun (c : UInt8) => [AVal.int .u8 (↑c.toNat : Int)]) (trimR (bytesOf rows))) m12).heap)))
 (l15 : Oc) (e_l15 : l15 = (trimsT l8))
 (l16 : Oc) (e_l16 : l16 = (trimsU l15))
 (c17 : Bool) (e_c17 : c17 = (decide (l16.length ≤ 1099511627776)))
 (c18 : Bool) (e_c18 : c18 = (flN
  (SpH.mk U0 U1 U2 s (AVal.own 5 0 m u false) (AVal.ptr (Oid.hp 3) 2) (bfB 7 (trimR (bytesOf rows)) m12) a tr
   (Obj.arr 3 orows u) (List.map (fun (c : UInt8) => [AVal.int .u8 (↑c.toNat : Int)]) (trimR (bytesOf rows)))
   m12)))
 (m19 : Nat) (e_m19 : m19 = (u + 1))
 (m20 : Nat) (e_m20 : m20 = (bif c18 then u else m19))
 (m21 : Nat) (e_m21 : m21 = (orows.length + 1))
 (m22 : Nat) (e_m22 : m22 = (bif c18 then orows.length else m21))
 (m23 : Nat) (e_m23 : m23 = (m22 + 1))
 (c24 : Bool) (e_c24 : c24 = (m20 == m20 &&
  m22 ==
   (bif c18 then orows
    else orows.append [[AVal.int .i64 1, AVal.str l13, AVal.int .i64 a]]).length &&
  decide ((2 * m23 + 1000) * 32 ≤ 281474976710656) &&
  true))
 (m25 : Nat) (e_m25 : m25 = (m20 + 1))
 (c26 : Bool) (e_c26 : c26 = (tst
  ((Can (SpH.mk U0 U1 U2 s (AVal.own 5 0 m u false) ad b a tr (Obj.arr 3 orows u) rows v) ∧
   CanO (AVal.own 5 0 m u false) (Obj.arr 3 orows u) ∧
    (bytesOf rows).length ≤ 1073741824 ∧ orows.length ≤ 1073741824) ∧
    SubL [AVal.ptr (Oid.hp 3) 0] [AVal.ptr (Oid.hp 3) 0] ∧
     HsP U0 U1 U2 s (AVal.own 5 0 m u false) ad b a tr (Obj.arr 3 orows u) (Obj.arr 1 rows v) =
      (SpH.mk U0 U1 U2 s (AVal.own 5 0 m u false) ad b a tr (Obj.arr 3 orows u) rows v).heap)))
 (c27 : Bool) (e_c27 : c27 = (flN (SpH.mk U0 U1 U2 s (AVal.own 5 0 m u false) ad b a tr (Obj.arr 3 orows u) rows v)))
 (m28 : Nat) (e_m28 : m28 = (bif c27 then u else m19))
 (m29 : Nat) (e_m29 : m29 = (bif c27 then orows.length else m21))
 (m30 : Nat) (e_m30 : m30 = (m29 + 1))
 (c31 : Bool) (e_c31 : c31 = (m28 == m28 &&
  m29 ==
   (bif c27 then orows
    else orows.append [[AVal.int .i64 1, AVal.str (bytesOf rows), AVal.int .i64 a]]).length &&
  decide ((2 * m30 + 1000) * 32 ≤ 281474976710656) &&
  true))
 (m32 : Nat) (e_m32 : m32 = (m28 + 1))
 (c33 : Bool) (e_c33 : c33 = (decide (0 ≤ n5 ∧ n5 ≤ 1099511627776 ∧ s.length ≤ 1099511627776)))
 (n34 : Int) (e_n34 : n34 = (win (List.drop m7 s) false false m7))
 (c35 : Bool) (e_c35 : c35 = (!decide (n34 ≥ 0)))
 (c36 : Bool) (e_c36 : c36 = (c6 && decide (n5 ≤ n34) && decide (n34 ≤ n1)))
 (l37 : Oc) (e_l37 : l37 = (List.drop m7 (List.take n34.toNat s)))
 (c38 : Bool) (e_c38 : c38 = (decide (l37.length ≤ 1099511627776)))
 (c39 : Bool) (e_c39 : c39 = (trimsA l37))
 (l40 : Oc) (e_l40 : l40 = (trimsT l37))
 (l41 : Oc) (e_l41 : l41 = (trimsU l40))
 (c42 : Bool) (e_c42 : c42 = (decide (l41.length ≤ 1099511627776))) : iFun Tryz.prog (layX5.hd Tryz.prog) layX5.fhs 0 18 [.ptr (.hp 3) 0, .int .i64 at_] (HsP U0 U1 U2 s (.own 5 0 m u false) ad b a tr (.arr 3 orows u) (.arr 1 rows v)) k = (
 let z3 := AVal.int .i64 (IntKind.i64.wrap (n34 + 2));
 let z5 := bif c27 then orows else orows.append [[AVal.int .i64 1, AVal.str (bytesOf rows), AVal.int .i64 a]];
 let z7 := [[AVal.int .i64 2, AVal.str (trimL (trimR l41)), AVal.int .i64 at_]];
 let z0 := bif c26 then bif c42 then bif c31 then k (Out.ret z3 [U0, U1, U2, Obj.var [AVal.str s, AVal.own 5 0 m30 m32 false, AVal.nilptr, AVal.nilX, AVal.int .i64 a, AVal.bool (trimsZ l40)], Obj.note 61 6, Obj.arr 3 (z5.append z7) m32, Obj.note 66 0, Obj.arr 1 [] (bif c27 then v else m11), Obj.note 5 0]) else none else none else none;
 let z6 := bif c18 then orows else orows.append [[AVal.int .i64 1, AVal.str l13, AVal.int .i64 a]];
 let z1 := bif c14 then bif c42 then bif c24 then k (Out.ret z3 [U0, U1, U2, Obj.var [AVal.str s, AVal.own 5 0 m23 m25 false, AVal.nilptr, AVal.nilX, AVal.int .i64 a, AVal.bool (trimsZ l40)], Obj.note 61 6, Obj.arr 3 (z6.append z7) m25, Obj.note 66 0, Obj.arr 1 [] (bif c18 then m12 else m12 + 1), Obj.note 5 0]) else none else none else none;
 let z2 := Out.panic (AVal.iface 53 (AVal.agg [AVal.int .i64 at_, AVal.int .i64 8])) (HsP U0 U1 U2 s (AVal.own 5 0 m u false) ad b a tr (Obj.arr 3 orows u) (Obj.arr 1 rows v));
 let z4 := AVal.int .i64 (IntKind.i64.wrap (n4 + 2));
 let z8 := [[AVal.int .i64 2, AVal.str (trimL (trimR l16)), AVal.int .i64 at_]];
  bif decide (0 ≤ at_ ∧ n0 ≤ n1 ∧ s.length ≤ 1073741824) then bif rmIs s at_.toNat then bif decide (rmN s at_.toNat ≥ 0) then bif decide (n2 ≥ 0) then bif decide (0 ≤ n2 ∧ n2 ≤ 1099511627776 ∧ s.length ≤ 1099511627776) then bif !decide (n4 ≥ 0) then k z2 else bif c6 && decide (n5 ≤ n4) && decide (n4 ≤ n1) then bif decide (l8.length ≤ 1099511627776) then bif trimsA l8 then bif c9 then bif c10 then bif c14 then bif c17 then bif c24 then k (Out.ret z4 [U0, U1, U2, Obj.var [AVal.str s, AVal.own 5 0 m23 m25 false, AVal.nilptr, AVal.nilX, AVal.int .i64 a, AVal.bool (trimsZ l15)], Obj.note 61 6, Obj.arr 3 (z6.append z8) m25, Obj.note 66 0, Obj.arr 1 [] (bif c18 then m12 else m12 + 1), Obj.note 5 0]) else none else none else none else k (Out.ret z4 [U0, U1, U2, Obj.var [AVal.str s, AVal.own 5 0 m u false, AVal.ptr (Oid.hp 3) 2, bfB 7 (trimR (bytesOf rows)) m12, AVal.int .i64 a, AVal.bool (trimsZ l15)], Obj.note 61 6, Obj.arr 3 orows u, Obj.note 66 0, Obj.arr 1 (List.map (fun (c : UInt8) => [AVal.int .u8 (↑c.toNat : Int)]) (trimR (bytesOf rows))) m12, Obj.note 5 0]) else none else bif c10 then bif c26 then bif c17 then bif c31 then k (Out.ret z4 [U0, U1, U2, Obj.var [AVal.str s, AVal.own 5 0 m30 m32 false, AVal.nilptr, AVal.nilX, AVal.int .i64 a, AVal.bool (trimsZ l15)], Obj.note 61 6, Obj.arr 3 (z5.append z8) m32, Obj.note 66 0, Obj.arr 1 [] (bif c27 then v else m11), Obj.note 5 0]) else none else none else none else k (Out.ret z4 [U0, U1, U2, Obj.var [AVal.str s, AVal.own 5 0 m u false, ad, b, AVal.int .i64 a, AVal.bool (trimsZ l15)], Obj.note 61 6, Obj.arr 3 orows u, Obj.note 66 0, Obj.arr 1 rows v, Obj.note 5 0]) else none else none else none else bif c33 then bif c35 then k z2 else bif c36 then bif c38 then bif c39 then bif c9 then bif c10 then z1 else k (Out.ret z3 [U0, U1, U2, Obj.var [AVal.str s, AVal.own 5 0 m u false, AVal.ptr (Oid.hp 3) 2, bfB 7 (trimR (bytesOf rows)) m12, AVal.int .i64 a, AVal.bool (trimsZ l40)], Obj.note 61 6, Obj.arr 3 orows u, Obj.note 66 0, Obj.arr 1 (List.map (fun (c : UInt8) => [AVal.int .u8 (↑c.toNat : Int)]) (trimR (bytesOf rows))) m12, Obj.note 5 0]) else none else bif c10 then z0 else k (Out.ret z3 [U0, U1, U2, Obj.var [AVal.str s, AVal.own 5 0 m u false, ad, b, AVal.int .i64 a, AVal.bool (trimsZ l40)], Obj.note 61 6, Obj.arr 3 orows u, Obj.note 66 0, Obj.arr 1 rows v, Obj.note 5 0]) else none else none else none else k z2 else bif c33 then bif c35 then k z2 else bif c36 then bif c38 then bif c39 then bif c9 then z1 else none else z0 else none else none else none else none) := by
  subst e_n0 e_n1 e_n2 e_m3 e_n4 e_n5 e_c6 e_m7 e_l8 e_c9 e_c10 e_m11 e_m12 e_l13 e_c14 e_l15 e_l16 e_c17 e_c18 e_m19 e_m20 e_m21 e_m22 e_m23 e_c24 e_m25 e_c26 e_c27 e_m28 e_m29 e_m30 e_c31 e_m32 e_c33 e_n34 e_c35 e_c36 e_l37 e_c38 e_c39 e_l40 e_l41 e_c42
  kernel_rfl
def acFrom (s : Oc) (at_ : Nat) : Nat := bif rmIs s at_ then ((rmF s at_ : Int) + rmN s at_ + 2).toNat else at_ + 2
def acTo (s : Oc) (at_ : Nat) : Int := win (s.drop (acFrom s at_)) false false (acFrom s at_)
def acBad (s : Oc) (at_ : Nat) : Bool := (rmIs s at_ && !decide (rmN s at_ ≥ 0)) || !decide (acTo s at_ ≥ 0)
def acIn (s : Oc) (at_ : Nat) : Oc := (s.take (acTo s at_).toNat).drop (at_ + 2)
def ownLen : AVal → Nat
 | .own _ _ l _ _ => l
 | _ => 0
def pushM (x : SpH) (r : Vs) : SpH := { x with o := .own 5 0 (ownLen x.o + 1) (verO x.O + 1) false, O := .arr 3 (rowsO x.O ++ [r]) (verO x.O + 1) }
def acM (x : SpH) (at_ : Nat) : SpH :=
 bif rmIs x.s at_ then (bif trimsA (acIn x.s at_) then cutM x else x) else pushM (flushM (bif trimsA (acIn x.s at_) then cutM x else x)) [.int .i64 2, .str (trimL (trimR (trimsU (trimsT (acIn x.s at_))))), .int .i64 at_]
def actionM (x : SpH) (at_ : Nat) : SpH := ⟨x.U0, x.U1, x.U2, x.s, (acM x at_).o, (acM x at_).ad, (acM x at_).b, x.a, trimsZ (trimsT (acIn x.s at_)), (acM x at_).O, (acM x at_).rows, (acM x at_).v⟩
theorem acFrom_le (s : Oc) (at_ : Nat) (h : acBad s at_ = false) (h1 : at_ + 2 ≤ s.length) : at_ + 2 ≤ acFrom s at_ ∧ 0 ≤ acTo s at_ ∧ (acFrom s at_ : Int) ≤ acTo s at_ ∧ acTo s at_ < s.length := by
 unfold acBad at h
 simp only [Bool.or_eq_false_iff, Bool.not_eq_false', decide_eq_true_eq] at h
 obtain ⟨h2, h3⟩ := h
 have h4 : at_ + 2 ≤ acFrom s at_ := by
  unfold acFrom
  cases hr : rmIs s at_ with
  | false => exact Nat.le_refl _
  | true =>
   simp only [cond_true]
   rw [hr] at h2
   simp only [Bool.true_and, Bool.not_eq_false', decide_eq_true_eq] at h2
   have := rmT_len s at_
   unfold rmF
   omega
 have h5 := win_ge (s.drop (acFrom s at_)) false false (acFrom s at_)
 have h6 : (s.drop (acFrom s at_)).length = s.length - acFrom s at_ := by simp
 unfold acTo at *
 omega
theorem fl_len (x : SpH) : (rowsO (flushM x).O).length ≤ (rowsO x.O).length + 1 := by
 unfold flushM
 simp only [rowsO]
 cases flN x <;> simp
theorem bif_le (c : Bool) (n : Nat) : (bif c then n else n + 1) ≤ n + 1 := by cases c <;> simp
end Go.Mu
namespace Go.Mu
open Go Go.Proofs
theorem can_w' (l : Oc) (w : Nat) : CanB (.ptr (.hp 3) 2) (bfB 7 l w) (l.map byteRow) w := ⟨.inr rfl, by rw [bytesOf_map], by rw [bytesOf_map]⟩
theorem acIn_len (s : Oc) (at_ : Nat) : (acIn s at_).length ≤ s.length := by unfold acIn; simp; omega
theorem trimsU_len (l : Oc) : (trimsU (trimsT l)).length ≤ l.length := by
 have e1 : ∀ l, (trimsT l).length ≤ l.length := fun l => by unfold trimsT; cases trimsA l <;> simp
 have e2 : ∀ l, (trimsU l).length ≤ l.length := fun l => by unfold trimsU; cases trimsZ l <;> simp
 exact Nat.le_trans (e2 _) (e1 _)
section
variable {U0 U1 U2 : Obj} {s : Oc} {ad b : AVal} {a : Int} {tr : Bool} {u : Nat} {orows rows : List Vs} {v : Nat} {at_ : Nat}
theorem act_good1 (hv : CanB ad b rows v) (h1 : at_ + 2 ≤ s.length) (hs : s.length ≤ 1073741824) (hp : (bytesOf rows).length ≤ 1073741824) (hn : orows.length ≤ 1073741824) (hb : acBad s at_ = false) (hR : rmIs s at_ = true) (k : Out → Ans) :
 iFun Tryz.prog (layX5.hd Tryz.prog) layX5.fhs 0 18 [.ptr (.hp 3) 0, .int .i64 at_] (HsP U0 U1 U2 s (.own 5 0 orows.length u false) ad b a tr (.arr 3 orows u) (.arr 1 rows v)) k =
  k (.ret (.int .i64 (acTo s at_ + 2)) (actionM ⟨U0, U1, U2, s, .own 5 0 orows.length u false, ad, b, a, tr, .arr 3 orows u, rows, v⟩ at_).heap) := by
 obtain ⟨f1, f2, f3, f4⟩ := acFrom_le s at_ hb h1
 have h4 : rmN s at_ ≥ 0 := by
  unfold acBad at hb
  rw [hR] at hb
  simp only [Bool.true_and, Bool.or_eq_false_iff, Bool.not_eq_false', decide_eq_true_eq] at hb
  exact hb.1
 have h8 := index_le (s.drop (rmF s at_)) [42, 47]
 have h9 : (s.drop (rmF s at_)).length ≤ s.length := by simp
 have h10 : rmF s at_ ≤ s.length + 2 := by unfold rmF; omega
 have h11 : rmN s at_ ≤ s.length := by unfold rmN; omega
 have htr := trimR_len (bytesOf rows)
 have hi := acIn_len s at_
 have hi2 := trimsU_len (acIn s at_)
 have hco : CanO (.own 5 0 orows.length u false) (.arr 3 orows u) := ⟨rfl, rfl⟩
 have key := action_fun U0 U1 U2 s ad b a tr orows.length u orows rows v at_ k
 simp only [Int.toNat_natCast] at key
 replace key := key _ rfl _ rfl _ rfl _ rfl (acTo s at_) (by unfold acTo acFrom; rw [hR]; rfl)
  ((at_ + 2 : Nat) : Int) (by rw [wrap_of (by omega) (by omega)]; omega) true (by rw [dT (by omega)]) (at_ + 2) (by omega) (acIn s at_) rfl
  true (by rw [tst_true ⟨⟨hv, hp⟩, .refl _, trivial⟩]) false (by rw [dF (by omega)]) _ rfl _ rfl (trimR (bytesOf rows)) (by rw [e_map, bytesOf_map])
  true (by rw [tst_true ⟨⟨can_w' _ _, hco, by omega, hn⟩, .refl _, trivial⟩]) _ rfl _ rfl true (by rw [dT (by omega)])
  (flN (cutM ⟨U0, U1, U2, s, .own 5 0 orows.length u false, ad, b, a, tr, .arr 3 orows u, rows, v⟩)) rfl _ rfl _ rfl _ rfl _ rfl _ rfl
  true (by rw [dT (by have := bif_le (flN (cutM ⟨U0, U1, U2, s, .own 5 0 orows.length u false, ad, b, a, tr, .arr 3 orows u, rows, v⟩)) orows.length; omega)]; cases flN (cutM ⟨U0, U1, U2, s, .own 5 0 orows.length u false, ad, b, a, tr, .arr 3 orows u, rows, v⟩) <;> simp)
 replace key := key _ rfl _ rfl _ rfl _ rfl _ rfl _ rfl _ rfl _ rfl _ rfl _ rfl _ rfl _ rfl _ rfl _ rfl _ rfl _ rfl _ rfl _ rfl
 refine key.trans ?_
 clear key
 rw [dT (show 0 ≤ (at_ : Int) ∧ (at_ : Int) + 2 ≤ (s.length : Int) ∧ s.length ≤ 1073741824 by omega), cond_true, hR, cond_true, dT h4, cond_true, dT (show (rmF s at_ : Int) + rmN s at_ + 2 ≥ 0 by omega), cond_true,
  dT (show 0 ≤ (rmF s at_ : Int) + rmN s at_ + 2 ∧ (rmF s at_ : Int) + rmN s at_ + 2 ≤ 1099511627776 ∧ s.length ≤ 1099511627776 by omega), cond_true, dT (show acTo s at_ ≥ 0 by omega), Bool.not_true, cond_false,
  dT (show ((at_ + 2 : Nat) : Int) ≤ acTo s at_ by omega), dT (show acTo s at_ ≤ (s.length : Int) by omega), Bool.and_self, Bool.and_self, cond_true, dT (show (acIn s at_).length ≤ 1099511627776 by omega), cond_true, wrap_of (n := acTo s at_ + 2) (by omega) (by omega)]
 unfold actionM acM
 simp only [hR, cond_true]
 cases hA : trimsA (acIn s at_) <;> rfl
theorem act_good2 (hv : CanB ad b rows v) (h1 : at_ + 2 ≤ s.length) (hs : s.length ≤ 1073741824) (hp : (bytesOf rows).length ≤ 1073741824) (hn : orows.length ≤ 1073741824) (hb : acBad s at_ = false) (hR : rmIs s at_ = false) (k : Out → Ans) :
 iFun Tryz.prog (layX5.hd Tryz.prog) layX5.fhs 0 18 [.ptr (.hp 3) 0, .int .i64 at_] (HsP U0 U1 U2 s (.own 5 0 orows.length u false) ad b a tr (.arr 3 orows u) (.arr 1 rows v)) k =
  k (.ret (.int .i64 (acTo s at_ + 2)) (actionM ⟨U0, U1, U2, s, .own 5 0 orows.length u false, ad, b, a, tr, .arr 3 orows u, rows, v⟩ at_).heap) := by
 obtain ⟨f1, f2, f3, f4⟩ := acFrom_le s at_ hb h1
 have htr := trimR_len (bytesOf rows)
 have hi := acIn_len s at_
 have hi2 := trimsU_len (acIn s at_)
 have hco : CanO (.own 5 0 orows.length u false) (.arr 3 orows u) := ⟨rfl, rfl⟩
 have key := action_fun U0 U1 U2 s ad b a tr orows.length u orows rows v at_ k
 simp only [Int.toNat_natCast] at key
 have hT : acTo s at_ = win (s.drop (at_ + 2)) false false (at_ + 2) := by unfold acTo acFrom; rw [hR]; rfl
 replace key := key _ rfl _ rfl _ rfl _ rfl _ rfl
  ((at_ + 2 : Nat) : Int) (by rw [wrap_of (by omega) (by omega)]; omega) true (by rw [dT (by omega)]) (at_ + 2) (by omega) _ rfl
  true (by rw [tst_true ⟨⟨hv, hp⟩, .refl _, trivial⟩]) _ rfl _ rfl _ rfl _ rfl
  true (by rw [tst_true ⟨⟨can_w' _ _, hco, by rw [e_map, bytesOf_map]; omega, hn⟩, .refl _, trivial⟩]) _ rfl _ rfl _ rfl
  (flN (cutM ⟨U0, U1, U2, s, .own 5 0 orows.length u false, ad, b, a, tr, .arr 3 orows u, rows, v⟩)) rfl _ rfl _ rfl _ rfl _ rfl _ rfl
  true (by rw [dT (by have := bif_le (flN (cutM ⟨U0, U1, U2, s, .own 5 0 orows.length u false, ad, b, a, tr, .arr 3 orows u, rows, v⟩)) orows.length; omega)]; cases flN (cutM ⟨U0, U1, U2, s, .own 5 0 orows.length u false, ad, b, a, tr, .arr 3 orows u, rows, v⟩) <;> simp)
 replace key := key _ rfl
  true (by rw [tst_true ⟨⟨hv, hco, hp, hn⟩, .refl _, trivial⟩])
  (flN ⟨U0, U1, U2, s, .own 5 0 orows.length u false, ad, b, a, tr, .arr 3 orows u, rows, v⟩) rfl _ rfl _ rfl _ rfl
  true (by rw [dT (by have := bif_le (flN ⟨U0, U1, U2, s, .own 5 0 orows.length u false, ad, b, a, tr, .arr 3 orows u, rows, v⟩) orows.length; omega)]; cases flN ⟨U0, U1, U2, s, .own 5 0 orows.length u false, ad, b, a, tr, .arr 3 orows u, rows, v⟩ <;> simp)
  _ rfl true (by rw [dT (by omega)]) (acTo s at_) hT false (by rw [dT (by omega)]; rfl) true (by rw [dT (by omega), dT (by omega)]; rfl) (acIn s at_) rfl true (by rw [dT (by omega)]) _ rfl _ rfl _ rfl true (by rw [dT (by omega)])
 refine key.trans ?_
 clear key
 rw [dT (show 0 ≤ (at_ : Int) ∧ (at_ : Int) + 2 ≤ (s.length : Int) ∧ s.length ≤ 1073741824 by omega), cond_true, hR, cond_false, wrap_of (n := acTo s at_ + 2) (by omega) (by omega)]
 unfold actionM acM
 simp only [hR, cond_false]
 cases hA : trimsA (acIn s at_) <;> rfl
theorem act_bad (h1 : at_ + 2 ≤ s.length) (hs : s.length ≤ 1073741824) (hb : acBad s at_ = true) (k : Out → Ans) :
 iFun Tryz.prog (layX5.hd Tryz.prog) layX5.fhs 0 18 [.ptr (.hp 3) 0, .int .i64 at_] (HsP U0 U1 U2 s (.own 5 0 orows.length u false) ad b a tr (.arr 3 orows u) (.arr 1 rows v)) k =
  k (.panic (.iface 53 (.agg [.int .i64 at_, .int .i64 8])) (HsP U0 U1 U2 s (.own 5 0 orows.length u false) ad b a tr (.arr 3 orows u) (.arr 1 rows v))) := by
 have key := action_fun U0 U1 U2 s ad b a tr orows.length u orows rows v at_ k
 simp only [Int.toNat_natCast] at key
 have h5 : ((at_ + 2 : Nat) : Int) = IntKind.i64.wrap ((at_ : Int) + 2) := by rw [wrap_of (by omega) (by omega)]; omega
 have h8 := index_le (s.drop (rmF s at_)) [42, 47]
 have h9 : (s.drop (rmF s at_)).length ≤ s.length := by simp
 have h10 : rmF s at_ ≤ s.length + 2 := by unfold rmF; omega
 have h11 : rmN s at_ ≤ s.length := by unfold rmN; omega
 unfold acBad at hb
 cases hR : rmIs s at_ with
 | true =>
  rw [hR] at hb
  replace key := key _ rfl _ rfl _ rfl _ rfl (acTo s at_) (by unfold acTo acFrom; rw [hR]; rfl)
   ((at_ + 2 : Nat) : Int) h5 _ rfl (at_ + 2) (by omega) _ rfl _ rfl _ rfl _ rfl _ rfl _ rfl _ rfl _ rfl _ rfl _ rfl _ rfl _ rfl _ rfl _ rfl _ rfl _ rfl _ rfl
  replace key := key _ rfl _ rfl _ rfl _ rfl _ rfl _ rfl _ rfl _ rfl _ rfl _ rfl _ rfl _ rfl _ rfl _ rfl _ rfl _ rfl _ rfl _ rfl
  refine key.trans ?_
  clear key
  rw [dT (show 0 ≤ (at_ : Int) ∧ (at_ : Int) + 2 ≤ (s.length : Int) ∧ s.length ≤ 1073741824 by omega), cond_true, hR, cond_true]
  by_cases h4 : rmN s at_ ≥ 0
  · have h7 : ¬ acTo s at_ ≥ 0 := by
     rw [dT h4] at hb
     simpa using hb
    rw [dT h4, cond_true, dT (show (rmF s at_ : Int) + rmN s at_ + 2 ≥ 0 by omega), cond_true,
     dT (show 0 ≤ (rmF s at_ : Int) + rmN s at_ + 2 ∧ (rmF s at_ : Int) + rmN s at_ + 2 ≤ 1099511627776 ∧ s.length ≤ 1099511627776 by omega), cond_true, dF h7]
    rfl
  · rw [dF h4]
    rfl
 | false =>
  rw [hR] at hb
  have hT : acTo s at_ = win (s.drop (at_ + 2)) false false (at_ + 2) := by unfold acTo acFrom; rw [hR]; rfl
  have h7 : ¬ acTo s at_ ≥ 0 := by simpa using hb
  replace key := key _ rfl _ rfl _ rfl _ rfl _ rfl
   ((at_ + 2 : Nat) : Int) h5 _ rfl (at_ + 2) (by omega) _ rfl _ rfl _ rfl _ rfl _ rfl _ rfl _ rfl _ rfl _ rfl _ rfl _ rfl _ rfl _ rfl _ rfl _ rfl _ rfl _ rfl
  replace key := key _ rfl _ rfl _ rfl _ rfl _ rfl _ rfl _ rfl _ rfl true (by rw [dT (by omega)]) (acTo s at_) hT true (by rw [dF h7]; rfl) _ rfl _ rfl _ rfl _ rfl _ rfl _ rfl _ rfl
  refine key.trans ?_
  clear key
  rw [dT (show 0 ≤ (at_ : Int) ∧ (at_ : Int) + 2 ≤ (s.length : Int) ∧ s.length ≤ 1073741824 by omega), cond_true, hR, cond_false]
  rfl
end
theorem action_call (x : SpH) (at_ : Nat) (hx : Can x) (ho : CanO x.o x.O) (h1 : at_ + 2 ≤ x.s.length) (hs : x.s.length ≤ 1073741824) (hp : (bytesOf x.rows).length ≤ 1073741824) (hn : (rowsO x.O).length ≤ 1073741824) (k : Out → Ans) :
 iFun Tryz.prog (layX5.hd Tryz.prog) layX5.fhs 0 18 [.ptr (.hp 3) 0, .int .i64 at_] x.heap k =
  cond (acBad x.s at_) (k (.panic (.iface 53 (.agg [.int .i64 at_, .int .i64 8])) x.heap)) (k (.ret (.int .i64 (acTo x.s at_ + 2)) (actionM x at_).heap)) := by
 obtain ⟨U0, U1, U2, s, o, ad, b, a, tr, O, rows, v⟩ := x
 obtain ⟨h2, h3⟩ := ho
 simp only at hp hx hn h1 h2 h3 hs
 have hv : CanB ad b rows v := hx
 generalize hro : rowsO O = orows at *
 generalize hve : verO O = u at *
 subst h2 h3
 simp only
 cases hb : acBad s at_ with
 | true => exact act_bad h1 hs hb k
 | false =>
  cases hR : rmIs s at_ with
  | true => exact act_good1 hv h1 hs hp hn hb hR k
  | false => exact act_good2 hv h1 hs hp hn hb hR k
end Go.Mu
namespace Go.Mu
open Go Go.Proofs
def relX (x : SpH) : SpH := { x with o := cond (isNilL x.o) (.own 5 0 0 (verO x.O + 1) false) x.o, O := cond (isNilL x.o) (.arr 3 [] (verO x.O + 1)) x.O }
theorem relX_heap (x : SpH) (rs : List Vs) (u : Nat) (h : x.O = .arr 3 rs u) : relAt 3 1 5 x.heap = (relX x).heap := by
 obtain ⟨U0, U1, U2, s, o, ad, b, a, tr, O, rows, v⟩ := x
 simp only at h
 subst h
 show cond (isNilL o) _ _ = _
 unfold relX
 simp only [verO]
 cases isNilL o <;> rfl
def CanO' (x : SpH) : Prop := CanO (relX x).o (relX x).O ∧ ∃ rs u, x.O = .arr 3 rs u
noncomputable def putTold2 : FSp := mkF (fun xs H => (SpH.dec H, (aI xs 1).toNat, (aI xs 2).toNat)) (fun x => Can x.1 ∧ CanO' x.1 ∧ x.2.1 ≤ x.2.2 ∧ x.2.2 ≤ x.1.s.length ∧ x.1.s.length ≤ 1073741824 ∧ (bytesOf x.1.rows).length ≤ 1073741824) (fun x => [.ptr (.hp 3) 0, .int .i64 x.2.1, .int .i64 x.2.2]) (fun x => x.1.heap)
 (fun x k => k (.ret (.tuple []) (putM (relX x.1) x.2.1 x.2.2).heap))
theorem putTold2_ok : ∀ xs H k out, putTold2 xs H k = some out → ∃ o, CallOK Tryz.prog 17 xs H o ∧ k o = some out :=
 mkF_ok fun x h => ⟨_, fun k => rfl, by
  obtain ⟨h1, ⟨h2, rs, u, h3⟩, h4, h5, h6, h7⟩ := h
  refine relAt_ok (i := 3) (c := 1) (j := 5) ?_
  rw [relX_heap x.1 rs u h3]
  exact layX4_ok.call (put_call (relX x.1) h1 h4 h5 h6 h7)⟩
noncomputable def actTold : FSp := mkF (fun xs H => (SpH.dec H, (aI xs 1).toNat)) (fun x => Can x.1 ∧ CanO x.1.o x.1.O ∧ x.2 + 2 ≤ x.1.s.length ∧ x.1.s.length ≤ 1073741824 ∧ (bytesOf x.1.rows).length ≤ 1073741824 ∧ (rowsO x.1.O).length ≤ 1073741824) (fun x => [.ptr (.hp 3) 0, .int .i64 x.2]) (fun x => x.1.heap)
 (fun x k => cond (acBad x.1.s x.2) (k (.panic (.iface 53 (.agg [.int .i64 x.2, .int .i64 8])) x.1.heap)) (k (.ret (.int .i64 (acTo x.1.s x.2 + 2)) (actionM x.1 x.2).heap)))
theorem actTold_ok : ∀ xs H k out, actTold xs H k = some out → ∃ o, CallOK Tryz.prog 18 xs H o ∧ k o = some out :=
 mkF_ok fun x h => by
  obtain ⟨h1, h2, h3, h4, h5, h6⟩ := h
  have key := fun k => action_call x.1 x.2 h1 h2 h3 h4 h5 h6 k
  cases hb : acBad x.1.s x.2 with
  | true => simp only [hb, cond_true] at key; exact ⟨_, fun k => rfl, layX5_ok.call key⟩
  | false => simp only [hb, cond_false] at key; exact ⟨_, fun k => rfl, layX5_ok.call key⟩
noncomputable def layI1 : Lay := ((layX3.addF 17 putTold2).addF 18 actTold).addF 19 flushTold
theorem layI1_ok : layI1.OK Tryz.prog := ((layX3_ok.addF putTold2_ok).addF actTold_ok).addF flushTold_ok
abbrev itVs (s : Oc) (f : AVal) : Vs := [.str s, .ptr (.hp 0) 0, .ptr (.hp 1) 0, .ptr (.hp 2) 0, .ptr (.hp 3) 0, f]
abbrev itAt (s : Oc) (f : Nat) : Int := Lib.index (s.drop f) [123, 123]
def itM : Nat → SpH → Nat → SpH × Nat × Option Nat
 | 0, x, f => (x, f, none)
 | m + 1, x, f => bif decide (itAt x.s f < 0) then (x, f, none) else
  bif acBad x.s ((f : Int) + itAt x.s f).toNat then (putM (relX x) f ((f : Int) + itAt x.s f).toNat, f, some ((f : Int) + itAt x.s f).toNat)
  else itM m (actionM (putM (relX x) f ((f : Int) + itAt x.s f).toNat) ((f : Int) + itAt x.s f).toNat) (acTo x.s ((f : Int) + itAt x.s f).toNat + 2).toNat
def Inv (x : SpH) (f : Nat) : Prop := Can x ∧ CanO' x ∧ f ≤ x.s.length ∧ x.s.length ≤ 16384 ∧ (bytesOf x.rows).length ≤ f ∧ (rowsO (relX x).O).length ≤ f
abbrev itH (x y : SpH) : SpH := ⟨x.U0, x.U1, x.U2, x.s, y.o, y.ad, y.b, y.a, y.tr, y.O, y.rows, y.v⟩
theorem itM_keep : ∀ (m : Nat) (x : SpH) (f : Nat), (itM m x f).1 = itH x (itM m x f).1
 | 0, x, f => rfl
 | m + 1, x, f => by
  rw [itM]
  cases decide (itAt x.s f < 0)
  · cases acBad x.s ((f : Int) + itAt x.s f).toNat
    · simp only [cond_false]
      have := itM_keep m (actionM (putM (relX x) f ((f : Int) + itAt x.s f).toNat) ((f : Int) + itAt x.s f).toNat) (acTo x.s ((f : Int) + itAt x.s f).toNat + 2).toNat
      exact this
    · rfl
  · rfl
noncomputable def itSp : LSp := mkL (fun vs _ H => (SpH.dec H, (aI vs 5).toNat)) (fun x => Inv x.1 x.2) (fun x => itVs x.1.s (.int .i64 x.2)) (fun _ => []) (fun x => x.1.heap)
 (fun x k => cond (itM (x.1.s.length + 1) x.1 x.2).2.2.isSome
  (k (.panic (.iface 53 (.agg [.int .i64 ((itM (x.1.s.length + 1) x.1 x.2).2.2.getD 0 : Nat), .int .i64 8]))) (itVs x.1.s .undef) [] (itH x.1 (itM (x.1.s.length + 1) x.1 x.2).1).heap)
  (k (.exit 0) (itVs x.1.s (.int .i64 (itM (x.1.s.length + 1) x.1 x.2).2.1)) [] (itH x.1 (itM (x.1.s.length + 1) x.1 x.2).1).heap))
noncomputable def itFH : FH := { FH.of [(6, loopSpec 45 [0,2,3,4,5,6] [] [0,2,3,4,5,6] [] itSp)] with heap := [2, 3, 4, 14], typed := [(14, [(2, itT), (0, bT)])], exact := true }
theorem it_step (U0 U1 U2 O : Obj) (s : Oc) (o ad b : AVal) (a : Int) (tr : Bool) (rows : List Vs) (v : Nat) (f : Int) (D : Dfs) (k : Kont) :
 lturn Tryz.prog layI1 itFH 11 6 [0,2,3,4,5,6] [] [0,2,3,4,5,6] [] (stL 45 [0,2,3,4,5,6] (itVs s (.int .i64 f)) [] [] (SpH.mk U0 U1 U2 s o ad b a tr O rows v).heap D) k =
 cond (decide (0 ≤ f) && decide (f ≤ (s.length : Int)) && decide ((s.length : Int) ≤ s.length)) (cond (decide (((s.take (s.length : Int).toNat).drop f.toNat).length < 4294967281))
  (cond (decide (Lib.index ((s.take (s.length : Int).toNat).drop f.toNat) [123, 123] < 0)) (k (.exit 0) (stL 45 [0,2,3,4,5,6] (itVs s (.int .i64 f)) [] [] (SpH.mk U0 U1 U2 s o ad b a tr O rows v).heap D))
   (let x : SpH := ⟨U0, U1, U2, s, o, ad, b, a, tr, O, rows, v⟩
    let n3 : Int := IntKind.i64.wrap (f + Lib.index ((s.take (s.length : Int).toNat).drop f.toNat) [123, 123])
    let x1 := putM (relX x) f.toNat n3.toNat
    cond (tst ((Can x ∧ CanO' x ∧ f.toNat ≤ n3.toNat ∧ n3.toNat ≤ s.length ∧ s.length ≤ 1073741824 ∧ (bytesOf rows).length ≤ 1073741824) ∧
     SubL [.ptr (.hp 3) 0, .int .i64 f, .int .i64 n3] [.ptr (.hp 3) 0, .int .i64 (f.toNat : Int), .int .i64 (n3.toNat : Int)] ∧ x.heap = x.heap))
     (cond (tst ((Can x1 ∧ CanO x1.o x1.O ∧ n3.toNat + 2 ≤ s.length ∧ s.length ≤ 1073741824 ∧ (bytesOf x1.rows).length ≤ 1073741824 ∧ (rowsO x1.O).length ≤ 1073741824) ∧
      SubL [.ptr (.hp 3) 0, .int .i64 n3] [.ptr (.hp 3) 0, .int .i64 (n3.toNat : Int)] ∧ x1.heap = x1.heap))
      (cond (acBad s n3.toNat) (k (.panic (.iface 53 (.agg [.int .i64 (n3.toNat : Int), .int .i64 8]))) (stL 45 [0,2,3,4,5,6] (itVs s .undef) [] [] x1.heap D))
       (k .normal (stL 45 [0,2,3,4,5,6] (itVs s (.int .i64 (acTo s n3.toNat + 2))) [] [] (actionM x1 n3.toNat).heap D))) none) none)) none) none := by kernel_rfl
theorem index_room (s p : Oc) (h : Lib.index s p ≥ 0) : Lib.index s p + p.length ≤ s.length := by
 induction s with
 | nil =>
  unfold Lib.index at h ⊢
  split at h
  · rename_i h1
    rw [if_pos h1]
    have : p = [] := by simpa using h1
    subst this; simp
  · simp at h
 | cons c t ih =>
  unfold Lib.index at h ⊢
  split at h
  · rename_i h1
    rw [if_pos h1]
    have := pre_len h1
    omega
  · rename_i h1
    rw [if_neg h1]
    split at h
    · simp at h
    · rename_i h2
      rw [if_neg h2]
      have := Lib.index_ge t p
      have h3 : ¬ Lib.index t p = -1 := by simpa using h2
      have := ih (by omega)
      simp only [List.length_cons]
      omega
theorem win_room : ∀ (t : Oc) (q e : Bool) (i : Nat), win t q e i = -1 ∨ win t q e i + 2 ≤ i + t.length
 | [], _, _, _ => .inl rfl
 | c :: t, q, e, i => by
  have ih := fun q e => win_room t q e (i + 1)
  rw [win]
  simp only [List.length_cons]
  cases e with
  | true => simp only [cond_true]; have := ih q false; omega
  | false =>
   simp only [cond_false]
   cases q && c == 92 with
   | true => simp only [cond_true]; have := ih q true; omega
   | false =>
    simp only [cond_false]
    cases c == 34 with
    | true => simp only [cond_true]; have := ih (!q) false; omega
    | false =>
     simp only [cond_false]
     cases hp : !q && [125, 125].isPrefixOf (c :: t) with
     | true =>
      simp only [cond_true]
      rw [Bool.and_eq_true] at hp
      have := pre_len hp.2
      simp only [List.length_cons, List.length_nil] at this
      omega
     | false => simp only [cond_false]; have := ih q false; omega
theorem putM_can {x : SpH} (h : Can x) (f t : Nat) : Can (putM x f t) := wsM_can (x := { x with a := _, tr := _ }) h _
theorem putM_t (x : SpH) (f t : Nat) : bytesOf (putM x f t).rows = bytesOf x.rows ++ putL x.s x.tr f t := wsM_t _ _
theorem cutM_can (x : SpH) : Can (cutM x) := wsM_can (x := { x with ad := .nilptr, b := .nilX, rows := [], v := _ }) (can_nil _) _
theorem cutM_t (x : SpH) : bytesOf (cutM x).rows = trimR (bytesOf x.rows) := by
 have := wsM_t { x with ad := .nilptr, b := .nilX, rows := [], v := bif bytesOf x.rows == [] then x.v else x.v + 1 } (trimR (bytesOf x.rows))
 exact this
theorem flushM_can (x : SpH) : Can (flushM x) := can_nil _
theorem flushM_o {x : SpH} : CanO (flushM x).o (flushM x).O := by
 unfold flushM CanO
 refine ⟨?_, rfl⟩
 simp only [rowsO, verO]
 cases flN x <;> simp
theorem pushM_o {x : SpH} {r : Vs} (h : CanO x.o x.O) : CanO (pushM x r).o (pushM x r).O := by
 obtain ⟨h1, h2⟩ := h
 refine ⟨?_, rfl⟩
 unfold pushM
 simp only [rowsO, verO, List.length_append, List.length_cons, List.length_nil]
 rw [h1]
 rfl
theorem acM_all {x : SpH} (hc : Can x) (ho : CanO x.o x.O) (at_ : Nat) : Can (acM x at_) ∧ CanO (acM x at_).o (acM x at_).O ∧ (bytesOf (acM x at_).rows).length ≤ (bytesOf x.rows).length ∧ (rowsO (acM x at_).O).length ≤ (rowsO x.O).length + 2 := by
 have base : ∀ y : SpH, (y = cutM x ∨ y = x) → Can y ∧ CanO y.o y.O ∧ (bytesOf y.rows).length ≤ (bytesOf x.rows).length ∧ (rowsO y.O).length = (rowsO x.O).length := by
  rintro y (rfl | rfl)
  · refine ⟨cutM_can x, ho, ?_, rfl⟩
    rw [cutM_t]; exact trimR_len _
  · exact ⟨hc, ho, Nat.le_refl _, rfl⟩
 unfold acM
 have hy := base (bif trimsA (acIn x.s at_) then cutM x else x) (by cases trimsA (acIn x.s at_) <;> simp)
 generalize (bif trimsA (acIn x.s at_) then cutM x else x) = y at hy
 obtain ⟨h1, h2, h3, h4⟩ := hy
 cases rmIs x.s at_
 · simp only [cond_false]
   refine ⟨flushM_can y, pushM_o flushM_o, ?_, ?_⟩
   · show (bytesOf []).length ≤ _
     exact Nat.zero_le _
   · have := fl_len y
     show (rowsO (flushM y).O ++ [_]).length ≤ _
     simp only [List.length_append, List.length_cons, List.length_nil]
     omega
 · exact ⟨h1, h2, h3, by simp only [cond_true]; omega⟩
theorem canO_rel {x : SpH} (h : CanO x.o x.O) : relX x = x := by
 obtain ⟨U0, U1, U2, s, o, ad, b, a, tr, O, rows, v⟩ := x
 obtain ⟨h1, h2⟩ := h
 simp only at h1 h2
 unfold relX
 simp only
 rw [h1]
 rfl
theorem canO_can {x : SpH} (h : CanO x.o x.O) : CanO' x := by
 refine ⟨by rw [canO_rel h]; exact h, _, _, h.2⟩
theorem it_runs : ∀ (m : Nat) (x : SpH) (f : Nat), Inv x f → x.s.length + 1 - f ≤ m →
 ((itM m x f).2.2.isSome = true → LoopRuns (lturn Tryz.prog layI1 itFH 11 6 [0,2,3,4,5,6] [] [0,2,3,4,5,6] []) 45 [0,2,3,4,5,6] [] [0,2,3,4,5,6] [] (itVs x.s (.int .i64 f)) [] x.heap
   (.panic (.iface 53 (.agg [.int .i64 ((itM m x f).2.2.getD 0 : Nat), .int .i64 8]))) (itVs x.s .undef) [] (itM m x f).1.heap) ∧
 ((itM m x f).2.2.isSome = false → LoopRuns (lturn Tryz.prog layI1 itFH 11 6 [0,2,3,4,5,6] [] [0,2,3,4,5,6] []) 45 [0,2,3,4,5,6] [] [0,2,3,4,5,6] [] (itVs x.s (.int .i64 f)) [] x.heap
   (.exit 0) (itVs x.s (.int .i64 (itM m x f).2.1)) [] (itM m x f).1.heap) := by
 intro m
 induction m with
 | zero => 
  intro x f h hm
  obtain ⟨_, _, h3, _⟩ := h
  omega
 | succ m ih =>
  intro x f h hm
  obtain ⟨h1, h2, h3, h4, h5, h6⟩ := h
  have key := fun D k => it_step x.U0 x.U1 x.U2 x.O x.s x.o x.ad x.b x.a x.tr x.rows x.v f D k
  have hl : (x.s.drop f).length ≤ x.s.length := by simp
  have hg := Lib.index_ge (x.s.drop f) [123, 123]
  simp (disch := omega) only [Int.toNat_natCast, List.take_length, dT, cond_true, Bool.and_true] at key
  by_cases hn : itAt x.s f < 0
  · have e : itM (m + 1) x f = (x, f, none) := by rw [itM, dT hn]; rfl
    rw [e]
    refine ⟨fun h => by simp at h, fun _ => .stop (by simp) (fun D k => ?_)⟩
    have := key D k
    rw [dT hn] at this
    exact this
  · have hr := index_room (x.s.drop f) [123, 123] (by have : ¬ Lib.index (x.s.drop f) [123, 123] < 0 := hn; omega)
    have hd : (x.s.drop f).length = x.s.length - f := by simp
    simp only [List.length_cons, List.length_nil] at hr
    obtain ⟨n, hnn⟩ : ∃ n : Nat, itAt x.s f = n := ⟨(itAt x.s f).toNat, by omega⟩
    have hi : Lib.index (x.s.drop f) [123, 123] = n := hnn
    have en : ((f : Int) + itAt x.s f).toNat = f + n := by omega
    have hw : IntKind.i64.wrap ((f : Int) + Lib.index (x.s.drop f) [123, 123]) = ((f + n : Nat) : Int) := by rw [hi, wrap_of (by omega) (by omega)]; omega
    have hrx : bytesOf (relX x).rows = bytesOf x.rows := rfl
    have c1 : Can (putM (relX x) f (f + n)) := putM_can (x := relX x) h1 _ _
    have c2 : CanO (putM (relX x) f (f + n)).o (putM (relX x) f (f + n)).O := h2.1
    have c3 : (bytesOf (putM (relX x) f (f + n)).rows).length ≤ f + n := by
     rw [putM_t, List.length_append, hrx]
     have := putL_len (relX x).s (relX x).tr f (f + n)
     have h7 : (((relX x).s.take (f + n)).drop f).length ≤ n := by simp; omega
     omega
    have c4 : (rowsO (putM (relX x) f (f + n)).O).length ≤ f := h6
    have key2 : ∀ D k, lturn Tryz.prog layI1 itFH 11 6 [0,2,3,4,5,6] [] [0,2,3,4,5,6] [] (stL 45 [0,2,3,4,5,6] (itVs x.s (.int .i64 f)) [] [] x.heap D) k =
     cond (acBad x.s (f + n)) (k (.panic (.iface 53 (.agg [.int .i64 ((f + n : Nat) : Int), .int .i64 8]))) (stL 45 [0,2,3,4,5,6] (itVs x.s .undef) [] [] (putM (relX x) f (f + n)).heap D))
      (k .normal (stL 45 [0,2,3,4,5,6] (itVs x.s (.int .i64 (acTo x.s (f + n) + 2))) [] [] (actionM (putM (relX x) f (f + n)) (f + n)).heap D)) := fun D k => by
     have := key D k
     rw [dF hn, cond_false] at this
     refine this.trans ?_
     clear this
     simp only [hw, Int.toNat_natCast]
     rw [tst_true ⟨⟨h1, h2, by omega, by omega, by omega, by omega⟩, .refl _, trivial⟩, cond_true, tst_true ⟨⟨c1, c2, by omega, by omega, Nat.le_trans c3 (by omega), Nat.le_trans c4 (by omega)⟩, .refl _, trivial⟩, cond_true]
    cases hb : acBad x.s (f + n) with
    | true =>
     have e : itM (m + 1) x f = (putM (relX x) f (f + n), f, some (f + n)) := by rw [itM, dF hn, en, hb]; rfl
     rw [e]
     refine ⟨fun _ => .stop (by simp) (fun D k => ?_), fun h => by simp at h⟩
     rw [key2, hb]
     rfl
    | false =>
     obtain ⟨f1, f2, f3, f4⟩ := acFrom_le x.s (f + n) hb (by omega)
     have e : itM (m + 1) x f = itM m (actionM (putM (relX x) f (f + n)) (f + n)) (acTo x.s (f + n) + 2).toNat := by rw [itM, dF hn, en, hb]; rfl
     rw [e]
     obtain ⟨a1, a2, a3, a4⟩ := acM_all c1 c2 (f + n)
     have b2 : CanO (actionM (putM (relX x) f (f + n)) (f + n)).o (actionM (putM (relX x) f (f + n)) (f + n)).O := a2
     have inv : Inv (actionM (putM (relX x) f (f + n)) (f + n)) (acTo x.s (f + n) + 2).toNat := by
      refine ⟨a1, canO_can b2, ?_, h4, ?_, ?_⟩
      · show _ ≤ x.s.length
        have w1 := win_room (x.s.drop (acFrom x.s (f + n))) false false (acFrom x.s (f + n))
        have w2 : (x.s.drop (acFrom x.s (f + n))).length = x.s.length - acFrom x.s (f + n) := by simp
        have w3 : win (x.s.drop (acFrom x.s (f + n))) false false (acFrom x.s (f + n)) = acTo x.s (f + n) := rfl
        omega
      · have : (bytesOf (actionM (putM (relX x) f (f + n)) (f + n)).rows).length ≤ f + n := Nat.le_trans a3 c3
        omega
      · rw [canO_rel b2]
        have : (rowsO (actionM (putM (relX x) f (f + n)) (f + n)).O).length ≤ f + 2 := Nat.le_trans a4 (by omega)
        omega
     have ih2 := ih (actionM (putM (relX x) f (f + n)) (f + n)) (acTo x.s (f + n) + 2).toNat inv (by show x.s.length + 1 - _ ≤ m; omega)
     have ef : (((acTo x.s (f + n) + 2).toNat : Nat) : Int) = acTo x.s (f + n) + 2 := by omega
     rw [ef] at ih2
     have st : ∀ D k, lturn Tryz.prog layI1 itFH 11 6 [0,2,3,4,5,6] [] [0,2,3,4,5,6] [] (stL 45 [0,2,3,4,5,6] (itVs x.s (.int .i64 f)) [] [] x.heap D) k =
      k .normal (stL 45 [0,2,3,4,5,6] (itVs x.s (.int .i64 (acTo x.s (f + n) + 2))) [] [] (actionM (putM (relX x) f (f + n)) (f + n)).heap D) := fun D k => by rw [key2, hb]; rfl
     exact ⟨fun h => .step st (ih2.1 h), fun h => .step st (ih2.2 h)⟩
theorem itSp_ok : SpOK (lturn Tryz.prog layI1 itFH 11 6 [0,2,3,4,5,6] [] [0,2,3,4,5,6] []) 45 [0,2,3,4,5,6] [] [0,2,3,4,5,6] [] itSp := mkL_ok fun a h => by
 have key := it_runs (a.1.s.length + 1) a.1 a.2 h (by omega)
 rw [itM_keep] at key
 show ∃ e vs bs H, (∀ k : AExit → Vs → List Vs → Heap → Ans, cond (itM (a.1.s.length + 1) a.1 a.2).2.2.isSome _ _ = k e vs bs H) ∧ _
 cases hs : (itM (a.1.s.length + 1) a.1 a.2).2.2.isSome with
 | true => exact ⟨_, _, _, _, fun k => rfl, key.1 hs⟩
 | false => exact ⟨_, _, _, _, fun k => rfl, key.2 hs⟩
noncomputable def layI2 : Lay := layI1.addL 11 itFH
theorem layI2_ok : layI2.OK Tryz.prog := layI1_ok.loop1 (id := 6) (by kernel_rfl) (by kernel_rfl) (by kernel_rfl) itSp_ok
abbrev itX0 (s : Oc) : SpH := ⟨.var [.nilX], .var [.int .i64 0], .var [.int .i64 0], s, .nilX, .nilptr, .nilX, 0, false, .arr 3 [] 0, [], 0⟩
abbrev itR (s : Oc) : SpH × Nat × Option Nat := itM (s.length + 1) (itX0 s) 0
abbrev itY (s : Oc) : SpH := itH (itX0 s) (itR s).1
abbrev itZ (s : Oc) : SpH := putM (relX (itY s)) (itR s).2.1 s.length
abbrev itW (s : Oc) : SpH := flushM (itZ s)
theorem items_fun (s : Oc) (k : Out → Ans) : iFun Tryz.prog (layI2.hd Tryz.prog) layI2.fhs 0 11 [.str s] [] k =
 cond (decide ((s.length : Int) > 16384)) (k (.ret (.tuple [.nilX, .int .i64 0, .int .i64 5]) [.var [.nilX], .var [.int .i64 0], .var [.int .i64 5]]))
  (cond (tst (Inv (itX0 s) 0 ∧ SubTL (itVs s (.int .i64 0)) (itVs s (.int .i64 ((0 : Nat) : Int))) ∧ ([] : List Vs) = [] ∧ (itX0 s).heap = (itX0 s).heap))
   (cond (itR s).2.2.isSome
    (k (.ret (.tuple [nilList, .int .i64 ((itR s).2.2.getD 0 : Nat), .int .i64 8]) ({ itY s with U0 := .var [nilList], U1 := .var [.int .i64 ((itR s).2.2.getD 0 : Nat)], U2 := .var [.int .i64 8] } : SpH).heap))
    (cond (tst ((Can (itY s) ∧ CanO' (itY s) ∧ ((itR s).2.1 : Int).toNat ≤ (s.length : Int).toNat ∧ (s.length : Int).toNat ≤ s.length ∧ s.length ≤ 1073741824 ∧ (bytesOf (itY s).rows).length ≤ 1073741824) ∧
     SubL [.ptr (.hp 3) 0, .int .i64 ((itR s).2.1 : Int), .int .i64 (s.length : Int)] [.ptr (.hp 3) 0, .int .i64 (((itR s).2.1 : Int).toNat : Int), .int .i64 ((s.length : Int).toNat : Int)] ∧ (itY s).heap = (itY s).heap))
     (cond (tst ((Can (itZ s) ∧ CanO (itZ s).o (itZ s).O ∧ (bytesOf (itZ s).rows).length ≤ 1073741824 ∧ (rowsO (itZ s).O).length ≤ 1073741824) ∧ SubL [.ptr (.hp 3) 0] [.ptr (.hp 3) 0] ∧ (itZ s).heap = (itZ s).heap))
      (k (.ret (.tuple [(itW s).o, .int .i64 s.length, .int .i64 0]) ({ itW s with U0 := .var [(itW s).o], U1 := .var [.int .i64 s.length], U2 := .var [.int .i64 0] } : SpH).heap)) none) none)) none) := by kernel_rfl
def decItem (r : Vs) : ItemD := ⟨intOf (r.getD 0 .undef), strOf (r.getD 1 .undef), intOf (r.getD 2 .undef)⟩
def ItR (rows : List Vs) : Prop := ∀ r ∈ rows, ∃ i : ItemD, r = encItem i
theorem itR_dec : ∀ {rows : List Vs}, ItR rows → (rows.map decItem).map encItem = rows
 | [], _ => rfl
 | r :: rows, h => by
  obtain ⟨i, rfl⟩ := h r (by simp)
  rw [List.map_cons, List.map_cons, itR_dec (fun r hr => h r (by simp [hr]))]
  rfl
theorem itR_app {a b : List Vs} (h : ItR a) (g : ItR b) : ItR (a ++ b) := fun r hr => by
 rcases List.mem_append.1 hr with hr | hr
 · exact h r hr
 · exact g r hr
theorem itR_one (i : ItemD) : ItR [encItem i] := fun r hr => ⟨i, by simpa using hr⟩
theorem flushM_r {x : SpH} (h : ItR (rowsO x.O)) : ItR (rowsO (flushM x).O) := by
 unfold flushM
 simp only [rowsO]
 cases flN x
 · exact itR_app h (itR_one ⟨1, bytesOf x.rows, x.a⟩)
 · exact h
theorem acM_r {x : SpH} (h : ItR (rowsO x.O)) (at_ : Nat) : ItR (rowsO (acM x at_).O) := by
 unfold acM
 have hy : ItR (rowsO (bif trimsA (acIn x.s at_) then cutM x else x).O) := by cases trimsA (acIn x.s at_) <;> exact h
 generalize (bif trimsA (acIn x.s at_) then cutM x else x) = y at hy
 cases rmIs x.s at_
 · exact itR_app (flushM_r hy) (itR_one ⟨2, trimL (trimR (trimsU (trimsT (acIn x.s at_)))), at_⟩)
 · exact hy
theorem it_inv : ∀ (m : Nat) (x : SpH) (f : Nat), Inv x f → ItR (rowsO (relX x).O) → (itM m x f).2.2 = none → Inv (itM m x f).1 (itM m x f).2.1 ∧ ItR (rowsO (relX (itM m x f).1).O)
 | 0, x, f, h, hr, _ => ⟨h, hr⟩
 | m + 1, x, f, h, hi, he => by
  have h' := h
  obtain ⟨h1, h2, h3, h4, h5, h6⟩ := h
  by_cases hn : itAt x.s f < 0
  · have e : itM (m + 1) x f = (x, f, none) := by rw [itM, dT hn]; rfl
    rw [e]
    exact ⟨h', hi⟩
  · have hr := index_room (x.s.drop f) [123, 123] (by have : ¬ Lib.index (x.s.drop f) [123, 123] < 0 := hn; omega)
    have hd : (x.s.drop f).length = x.s.length - f := by simp
    simp only [List.length_cons, List.length_nil] at hr
    obtain ⟨n, hnn⟩ : ∃ n : Nat, itAt x.s f = n := ⟨(itAt x.s f).toNat, by omega⟩
    have hi2 : Lib.index (x.s.drop f) [123, 123] = n := hnn
    have en : ((f : Int) + itAt x.s f).toNat = f + n := by omega
    have hrx : bytesOf (relX x).rows = bytesOf x.rows := rfl
    have c1 : Can (putM (relX x) f (f + n)) := putM_can (x := relX x) h1 _ _
    have c2 : CanO (putM (relX x) f (f + n)).o (putM (relX x) f (f + n)).O := h2.1
    have c3 : (bytesOf (putM (relX x) f (f + n)).rows).length ≤ f + n := by
     rw [putM_t, List.length_append, hrx]
     have := putL_len (relX x).s (relX x).tr f (f + n)
     have h7 : (((relX x).s.take (f + n)).drop f).length ≤ n := by simp; omega
     omega
    have c4 : (rowsO (putM (relX x) f (f + n)).O).length ≤ f := h6
    have c5 : ItR (rowsO (putM (relX x) f (f + n)).O) := hi
    cases hb : acBad x.s (f + n) with
    | true =>
     have e : itM (m + 1) x f = (putM (relX x) f (f + n), f, some (f + n)) := by rw [itM, dF hn, en, hb]; rfl
     rw [e] at he
     simp at he
    | false =>
     obtain ⟨f1, f2, f3, f4⟩ := acFrom_le x.s (f + n) hb (by omega)
     have e : itM (m + 1) x f = itM m (actionM (putM (relX x) f (f + n)) (f + n)) (acTo x.s (f + n) + 2).toNat := by rw [itM, dF hn, en, hb]; rfl
     rw [e] at he ⊢
     obtain ⟨a1, a2, a3, a4⟩ := acM_all c1 c2 (f + n)
     have b2 : CanO (actionM (putM (relX x) f (f + n)) (f + n)).o (actionM (putM (relX x) f (f + n)) (f + n)).O := a2
     have b5 : ItR (rowsO (actionM (putM (relX x) f (f + n)) (f + n)).O) := acM_r c5 _
     have w1 := win_room (x.s.drop (acFrom x.s (f + n))) false false (acFrom x.s (f + n))
     have w2 : (x.s.drop (acFrom x.s (f + n))).length = x.s.length - acFrom x.s (f + n) := by simp
     have w3 : win (x.s.drop (acFrom x.s (f + n))) false false (acFrom x.s (f + n)) = acTo x.s (f + n) := rfl
     have inv : Inv (actionM (putM (relX x) f (f + n)) (f + n)) (acTo x.s (f + n) + 2).toNat := by
      refine ⟨a1, canO_can b2, ?_, h4, ?_, ?_⟩
      · show _ ≤ x.s.length
        omega
      · have : (bytesOf (actionM (putM (relX x) f (f + n)) (f + n)).rows).length ≤ f + n := Nat.le_trans a3 c3
        omega
      · rw [canO_rel b2]
        have : (rowsO (actionM (putM (relX x) f (f + n)) (f + n)).O).length ≤ f + 2 := Nat.le_trans a4 (by omega)
        omega
     exact it_inv m _ _ inv (by rw [canO_rel b2]; exact b5) he
theorem inv0 (s : Oc) (hs : s.length ≤ 16384) : Inv (itX0 s) 0 := by
 refine ⟨⟨.inl rfl, rfl, rfl⟩, ⟨⟨rfl, rfl⟩, _, _, rfl⟩, Nat.zero_le _, hs, Nat.le_refl _, Nat.le_refl _⟩
def itemsOf (s : Oc) : List ItemD := (rowsO (itW s).O).map decItem
def itBad (s : Oc) : Bool := (itR s).2.2.isSome
def itPl (s : Oc) : Nat := (itR s).2.2.getD 0
theorem items_good (s : Oc) (hs : s.length ≤ 16384) (hb : itBad s = false) : CallOK Tryz.prog 11 [.str s] [] (.ret (.tuple [encL false encItem ⟨0, [], 0⟩ (itemsOf s), .int .i64 s.length, .int .i64 0]) []) := by
 have hn : (itR s).2.2 = none := by unfold itBad at hb; simpa using hb
 obtain ⟨⟨h1, h2, h3, h4, h5, h6⟩, h7⟩ := it_inv (s.length + 1) (itX0 s) 0 (inv0 s hs) (fun r hr => by cases hr) hn
 have hk := itM_keep (s.length + 1) (itX0 s) 0
 have g1 : Can (itY s) := h1
 have g2 : CanO' (itY s) := h2
 have g3 : (itR s).2.1 ≤ s.length := by rw [hk] at h3; exact h3
 have g5 : (bytesOf (itY s).rows).length ≤ s.length := Nat.le_trans h5 g3
 have g6 : (rowsO (relX (itY s)).O).length ≤ s.length := Nat.le_trans h6 g3
 have g7 : ItR (rowsO (relX (itY s)).O) := h7
 have k1 : Can (itZ s) := putM_can (x := relX (itY s)) g1 _ _
 have k2 : CanO (itZ s).o (itZ s).O := g2.1
 have k3 : (bytesOf (itZ s).rows).length ≤ 2 * s.length := by
  rw [putM_t, List.length_append]
  have h8 := putL_len (relX (itY s)).s (relX (itY s)).tr (itR s).2.1 s.length
  have h9 : (((relX (itY s)).s.take s.length).drop (itR s).2.1).length ≤ s.length := by
   show ((s.take s.length).drop _).length ≤ _
   simp
  have h10 : bytesOf (relX (itY s)).rows = bytesOf (itY s).rows := rfl
  rw [h10]
  omega
 have k4 : (rowsO (itZ s).O).length ≤ s.length := g6
 have k5 : ItR (rowsO (itW s).O) := flushM_r g7
 have k6 := flushM_o (x := itZ s)
 have call : ∀ k, iFun Tryz.prog (layI2.hd Tryz.prog) layI2.fhs 0 11 [.str s] [] k = k (.ret (.tuple [(itW s).o, .int .i64 s.length, .int .i64 0]) ({ itW s with U0 := .var [(itW s).o], U1 := .var [.int .i64 s.length], U2 := .var [.int .i64 0] } : SpH).heap) := fun k => by
  have hb' : (itR s).2.2.isSome = false := hb
  rw [items_fun, dF (by omega), cond_false, tst_true ⟨inv0 s hs, .refl _, rfl, rfl⟩, cond_true, hb', cond_false,
   tst_true ⟨⟨g1, g2, by omega, by omega, by omega, by omega⟩, by simp only [Int.toNat_natCast]; exact .refl _, rfl⟩, cond_true, tst_true ⟨⟨k1, k2, by omega, by omega⟩, .refl _, rfl⟩, cond_true]
 obtain ⟨e1, e2⟩ := k6
 have hfz : freezeV ({ itW s with U0 := .var [(itW s).o], U1 := .var [.int .i64 s.length], U2 := .var [.int .i64 0] } : SpH).heap 2 (itW s).o = some (.list false (rowsO (itW s).O).length (fun i => (rowsO (itW s).O).getD i [])) := by
  have hH : ({ itW s with U0 := .var [(itW s).o], U1 := .var [.int .i64 s.length], U2 := .var [.int .i64 0] } : SpH).heap[5]? = some (.arr 3 (rowsO (itW s).O) (verO (itW s).O)) := by
   show some (itW s).O = _
   rw [← e2]
  have hfz := freezeW (len := (rowsO (itW s).O).length) (off := 0) (clip := false) (d := 1) (rows' := rowsO (itW s).O) hH (by simp) (by
   rw [List.drop_zero, List.take_length]
   refine freeze_pures _ 0 _ (fun r hr => ?_)
   obtain ⟨i, rfl⟩ := k5 r hr
   rfl)
  rw [← e1] at hfz
  exact hfz
 refine ((layI2_ok.call call).freeze (d := 3) (v' := .tuple [.list false (rowsO (itW s).O).length (fun i => (rowsO (itW s).O).getD i []), .int .i64 s.length, .int .i64 0]) ?_).sub (.refl _) ⟨Sub.tuple (.cons ?_ (.refl _)), rfl⟩
 · exact freeze_t3 hfz
 · have e3 := itR_dec k5
   show Sub (.list false (rowsO (itW s).O).length _) (.list false (itemsOf s).length _)
   have el : (itemsOf s).length = (rowsO (itW s).O).length := by unfold itemsOf; simp
   rw [el]
   refine Sub.list (fun h => h) (fun i hi => ?_)
   have : (rowsO (itW s).O).getD i [] = encItem ((itemsOf s).getD i ⟨0, [], 0⟩) := by
    conv => lhs; rw [← e3]
    unfold itemsOf
    simp only [gQ, List.getElem?_map, List.getElem?_eq_getElem hi, Option.map_some, Option.getD_some]
   rw [this]
   exact .refl _
theorem items_bad (s : Oc) (hs : s.length ≤ 16384) (hb : itBad s = true) : CallOK Tryz.prog 11 [.str s] [] (.ret (.tuple [nilList, .int .i64 (itPl s : Nat), .int .i64 8]) []) := by
 have hb' : (itR s).2.2.isSome = true := hb
 have key : ∀ k, iFun Tryz.prog (layI2.hd Tryz.prog) layI2.fhs 0 11 [.str s] [] k = k (.ret (.tuple [nilList, .int .i64 (itPl s : Nat), .int .i64 8]) ({ itY s with U0 := .var [nilList], U1 := .var [.int .i64 ((itR s).2.2.getD 0 : Nat)], U2 := .var [.int .i64 8] } : SpH).heap) := fun k => by
  rw [items_fun, dF (by omega), cond_false, tst_true ⟨inv0 s hs, .refl _, rfl, rfl⟩, cond_true, hb', cond_true]
  rfl
 exact layI2_ok.callF rfl key
theorem items_long (s : Oc) (hs : 16384 < s.length) : CallOK Tryz.prog 11 [.str s] [] (.ret (.tuple [nilList, .int .i64 0, .int .i64 5]) []) := by
 have key : ∀ k, iFun Tryz.prog (layI2.hd Tryz.prog) layI2.fhs 0 11 [.str s] [] k = k (.ret (.tuple [.nilX, .int .i64 0, .int .i64 5]) [.var [.nilX], .var [.int .i64 0], .var [.int .i64 5]]) := fun k => by
  rw [items_fun, dT (by omega), cond_true]
 exact (layI2_ok.callF rfl key).sub (.refl _) ⟨Sub.tuple (.cons Sub.nilX (.refl _)), rfl⟩
def itemsTold : FSp := mkFS [.s] (fun _ => true) (fun xs k => cond (decide (16384 < (aS xs 0).length)) (k (.ret (.tuple [nilList, .int .i64 0, .int .i64 5]) []))
 (cond (itBad (aS xs 0)) (k (.ret (.tuple [nilList, .int .i64 (itPl (aS xs 0) : Nat), .int .i64 8]) [])) (k (.ret (.tuple [encL false encItem ⟨0, [], 0⟩ (itemsOf (aS xs 0)), .int .i64 (aS xs 0).length, .int .i64 0]) []))))
theorem itemsTold_ok : ∀ xs H k out, itemsTold xs H k = some out → ∃ o, CallOK Tryz.prog 11 xs H o ∧ k o = some out := mkFS_ok fun ys xs e h => by
 obtain ⟨s, rfl⟩ : ∃ s, xs = [.str s] := ⟨_, e⟩
 show ∃ o, (∀ k : Out → Ans, cond (decide (16384 < s.length)) _ (cond (itBad s) _ _) = k o) ∧ _
 by_cases hl : 16384 < s.length
 · exact ⟨_, fun k => by rw [dT hl]; rfl, items_long s hl⟩
 · cases hb : itBad s with
   | true => exact ⟨_, fun k => by rw [dF hl]; rfl, items_bad s (by omega) hb⟩
   | false => exact ⟨_, fun k => by rw [dF hl]; rfl, items_good s (by omega) hb⟩
end Go.Mu
namespace Go.Proofs
open Go.Shelf
def Tryz.ixfRen : Ren := {
 f := fun x => match x with
  | 315 => 107
  | n => n,
 t := fun x => match x with
  | 0 => 0
  | 9 => 9
  | 3 => 3
  | 4 => 4
  | 21 => 21
  | 40 => 151
  | n => n,
 g := fun x => x }
theorem Tryz.ixfLays : Lays.n315 Tryz.prog Tryz.ixfRen := {
 mixed := by kernel_rfl
 f315 := Tryz.func107.trans (congrArg some (by kernel_rfl))
 t0 := Tryz.underlying0
 a0 := Tryz.isAgg0
 z0 := Tryz.sizeOf0
 v0 := Tryz.zeroValue0
 t3 := Tryz.underlying3
 a3 := Tryz.isAgg3
 z3 := Tryz.sizeOf3
 v3 := Tryz.zeroValue3
 t4 := Tryz.underlying4
 a4 := Tryz.isAgg4
 z4 := Tryz.sizeOf4
 v4 := Tryz.zeroValue4
 t9 := Tryz.underlying9
 a9 := Tryz.isAgg9
 z9 := Tryz.sizeOf9
 v9 := Tryz.zeroValue9
 t21 := Tryz.underlying21
 a21 := Tryz.isAgg21
 z21 := Tryz.sizeOf21
 v21 := Tryz.zeroValue21
 t40 := Tryz.underlying151
 a40 := Tryz.isAgg151
 z40 := Tryz.sizeOf151
 v40 := Tryz.zeroValue151 }
def ndR (r : Nat) : Bool := decide (r < 48) || decide (57 < r)
theorem Tryz.pd_gives (W : World) (x : Nat) : FnGives Tryz.prog 104 #[] #[encR x] (.bool (ndR x)) W := by
 show Calls Tryz.prog 104 #[.int .i32 (x : Int)] W _
 go_enter Tryz.func104, Tryz.ntmps104
 go_wp2
 all_goals (go_ret; refine ⟨?_, 0, rfl⟩)
 · show Ending.returned (.bool (decide ((x : Int) < 48) || decide (57 < (x : Int)))) = _
   unfold ndR
   rw [show decide ((x : Int) < 48) = decide (x < 48) from decide_eq_decide.2 (by omega), show decide (57 < (x : Int)) = decide (57 < x) from decide_eq_decide.2 (by omega)]
 · show Ending.returned (.bool true) = _
   unfold ndR
   rw [show decide (x < 48) = true from decide_eq_true (by omega)]
   rfl
end Go.Proofs
namespace Go.Mu
open Go Go.Proofs Go.Shelf Go.RowKit
variable {P : Program}
theorem CallOK.below {f : FuncId} {xs : Vs} {H : Heap} {v : AVal} (h : ∀ w E (cs : List Value), Sim w E H → cs.length = xs.length → (∀ j, j < xs.length → Rep w E H (xs.getD j .undef) (cs.getD j undef)) → ∃ c, Calls P f cs.toArray w (fun e w' => e = .returned c ∧ Below w.heap.size w w') ∧ Rep w E H v c) : CallOK P f xs H (.ret v H) := by
 intro w E cs sim hl hr
 obtain ⟨c, h1, h2⟩ := h w E cs sim hl hr
 refine Calls.mono h1 (fun e w' hp => ?_)
 obtain ⟨rfl, hb⟩ := hp
 have ev : Evo No w E H w' E H := ⟨hb.size, fun b hb' _ _ => hb.block b hb', fun b hb' => ⟨hb', hb.block b (sim.immLt b hb')⟩, fun b hb' => .inl hb', fun k hk => ⟨hk, rfl⟩, fun k sz u hk => ⟨u, hk, Nat.le_refl _, fun _ => ⟨rfl, fun _ => rfl⟩⟩, fun k hk => .inr ⟨hk, rfl⟩, Nat.le_refl _, hb.tape, hb.os, hb.output⟩
 exact ⟨E, ev, sim.keep ev.sees (fun k hk => hb.block _ (sim.apart k hk).2) hb.size, h2.mono ev.sees⟩
def ndC (c : UInt8) : Bool := ndR c.toNat
theorem decN_first (n b0 b1 b2 b3 : Nat) : (b0 < 128 → Lib.decodeN n b0 b1 b2 b3 = (b0, 1)) ∧ (128 ≤ b0 → 128 ≤ (Lib.decodeN n b0 b1 b2 b3).1) := by
 unfold Lib.decodeN
 refine ⟨fun h => by rw [if_pos h], fun h => ?_⟩
 rw [if_neg (by omega)]
 repeat' split
 all_goals (simp only; omega)
theorem idxF_any (l : Oc) : ∀ (f pos : Nat), l.length ≤ pos + f → decide (Lib.idxFuncFrom ndR true ⟨l.toArray⟩ f pos ≥ 0) = (l.drop pos).any ndC
 | 0, pos, h => by
  rw [List.drop_eq_nil_of_le (by omega)]
  rfl
 | f + 1, pos, h => by
  unfold Lib.idxFuncFrom
  have hs : (⟨l.toArray⟩ : ByteArray).size = l.length := by simp [ByteArray.size]
  rw [hs]
  by_cases hp : pos < l.length
  · rw [if_pos hp]
    have ed : l.drop pos = l.getD pos 0 :: l.drop (pos + 1) := by
     rw [List.drop_eq_getElem_cons hp]
     simp [gQ, List.getElem?_eq_getElem hp]
    have hN := Lib.decode_N ⟨l.toArray⟩ pos
    have e0 : (⟨l.toArray⟩ : ByteArray).data.toList = l := rfl
    rw [e0] at hN
    rw [ed, List.any_cons, hN]
    generalize l.getD pos 0 = c
    obtain ⟨g1, g2⟩ := decN_first (l.length - pos) c.toNat (l.getD (pos + 1) 0).toNat (l.getD (pos + 2) 0).toNat (l.getD (pos + 3) 0).toNat
    by_cases hc : c.toNat < 128
    · rw [g1 hc]
      simp only
      show decide ((if ndC c = true then (pos : Int) else _) ≥ 0) = _
      cases hb : ndC c with
      | true => simp
      | false => simp only [Bool.false_eq_true, if_false, Bool.false_or]; exact idxF_any l f (pos + 1) (by omega)
    · have hge := g2 (by omega)
      have hr : ndR (Lib.decodeN (l.length - pos) c.toNat (l.getD (pos + 1) 0).toNat (l.getD (pos + 2) 0).toNat (l.getD (pos + 3) 0).toNat).1 = true := by
       unfold ndR
       rw [show decide (57 < _) = true from decide_eq_true (by omega), Bool.or_true]
      have hc2 : ndC c = true := by
       unfold ndC ndR
       rw [show decide (57 < c.toNat) = true from decide_eq_true (by omega), Bool.or_true]
      rw [if_pos hr, hc2]
      simp
  · rw [if_neg hp, List.drop_eq_nil_of_le (by omega)]
    rfl
theorem ixf_ok (l : Oc) : CallOK Tryz.prog 107 [.str l, .func 104 [], .bool true] [] (.ret (.int .i64 (Lib.idxFunc ndR true ⟨l.toArray⟩)) []) := by
 refine CallOK.below (fun w E cs sim hl hr => ?_)
 obtain ⟨x, y, z, rfl⟩ : ∃ x y z, cs = [x, y, z] := by
  match cs, hl with
  | [x, y, z], _ => exact ⟨x, y, z, rfl⟩
 obtain ⟨s, e1, e2⟩ := rep_str (hr 0 (by simp))
 obtain ⟨ys, e3, e4, _⟩ := rep_func (hr 1 (by simp))
 have e5 := rep_bool (hr 2 (by simp))
 replace e1 : x = .string s := e1
 replace e3 : y = .func (.func 104) #[] ys.toArray := e3
 replace e5 : z = .bool true := e5
 have : ys = [] := List.eq_nil_of_length_eq_zero (by simpa using e4.symm)
 subst e1 e3 e5 this
 have e6 : s = ⟨l.toArray⟩ := by rw [← e2]
 subst e6
 have eg : ∀ args w, (callFunc 104 args).run Tryz.prog w = .ok (.enter 104 args) w := enters_of Tryz.func104 (by kernel_rfl) rfl
 exact ⟨_, Any.strings_indexFunc Tryz.ixfLays 104 #[] eg ndR true ⟨l.toArray⟩ w (fun W x hb => Tryz.pd_gives W x), .pure _ _ (.int _ _)⟩
def ixfTold : FSp := fun xs H k => match xs, H with
 | [.str l, .func f [], .bool true], [] => cond (f == 104) (k (.ret (.int .i64 (Lib.idxFunc ndR true ⟨l.toArray⟩)) [])) none
 | _, _ => none
theorem ixfTold_ok (xs : Vs) (H : Heap) (k : Out → Ans) (out : Out) (ho : ixfTold xs H k = some out) : ∃ o, CallOK Tryz.prog 107 xs H o ∧ k o = some out := by
 unfold ixfTold at ho
 split at ho
 · rw [Bool.cond_eq_ite] at ho
   split at ho
   · rename_i h
     obtain rfl := beq_iff_eq.1 h
     exact ⟨_, ixf_ok _, ho⟩
   · simp at ho
 · simp at ho
end Go.Mu
