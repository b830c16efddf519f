/-
  Lemmas on the given program (part 7).
-/
import Derived.Test.YtbibhpbmpnennaaGreatDoorSG6
import Derived.Test.YtbibhpbmpnennaaGreatDoorProg
import Derived.KernelRfl
import Derived.Shelf.LaysM
import Derived.Shelf.Strings.Shaped
import Derived.WalkKit
import Derived.ProofKit
import Derived.Lib.UnsafeStr
import Derived.Shelf.RegionOpenPlain
import Derived.Shelf.GgClosure.StringsIndexFunc
import Derived.Lib.TrimUEq
import Derived.Shelf.Strings.BuilderRune
import Derived.Shelf.Strings.BuilderK
import Derived.Shelf.Unicode.Decode
import Derived.Shelf.Unicode.DecodeAny
import Derived.RangeFuncNested
import Derived.RangeFuncBound
import Derived.RangeFuncCalls
import Derived.RangeFuncLeaves
import Derived.Shelf.Abstract
import Derived.Shelf.RegionOpen
import Derived.OwnWalkIn
import Derived.TacticsInMore
import Derived.LoopNIn
import Derived.LoopIn
import Derived.Lib.QuoteLoop
import Derived.Lib.TrimU
import Derived.Shelf.Strings.MapGrows
import Derived.Shelf.Strings.OnBuilder
import Derived.Shelf.Strings.Split
import Derived.Shelf.Strings.Cut
import Derived.Lib.SlBytesConst
import Derived.Shelf.Small.Strs
import Derived.Lib.RuneBytes
import Derived.Lib.MapLaws
import Derived.RangeFuncBox
import Derived.Maps.AppendAt
import Derived.Test.YtbibhpbmpnennaaGreatDoorRows
import Derived.Lib.LaidU8
import Derived.Lib.LaidTab
set_option linter.unusedVariables false
set_option linter.unusedSimpArgs false
set_option maxRecDepth 100000
namespace Go.Proofs
open Go.RowKit Go.Shelf
attribute [local go_sem] Oper.semAt_some
def repF : Nat → ByteArray → List UInt8
  | 0, _ => []
  | m + 1, t => if t.size = 0 then [] else Lib.encodeRune (repC t) ++ repF m (t.extract (Lib.decodeGo t).2 t.size)
theorem repF_ch : ∀ m t, repF m t = (chF m t).flatMap Lib.encodeRune
  | 0, _ => rfl
  | m + 1, t => by
    rw [repF, chF]
    split
    · rfl
    · rw [List.flatMap_cons, repF_ch m]
theorem dec_cons (c : UInt8) (l : List UInt8) (h : c.toNat < 128) : Lib.decodeGo ⟨(c :: l).toArray⟩ = (c.toNat, 1) := by
  have hsz : (⟨(c :: l).toArray⟩ : ByteArray).size = l.length + 1 := by simp [ByteArray.size]
  have hp : 0 < (⟨(c :: l).toArray⟩ : ByteArray).size := by omega
  have hx : (⟨(c :: l).toArray⟩ : ByteArray)[0]'hp = c := rfl
  unfold Lib.decodeGo
  rw [if_neg (by omega), decode_ascii _ 0 hp (by rw [hx]; exact h), hx]
theorem ext_cons (c : UInt8) (l : List UInt8) : (⟨(c :: l).toArray⟩ : ByteArray).extract 1 (⟨(c :: l).toArray⟩ : ByteArray).size = ⟨l.toArray⟩ := by
  apply ByteArray.ext
  rw [ByteArray.data_extract]
  apply Array.ext'
  simp [ByteArray.size]
theorem repF_ascii : ∀ (l : List UInt8) (m : Nat), l.length ≤ m → (∀ c ∈ l, 1 ≤ c.toNat ∧ c.toNat < 128) → repF m ⟨l.toArray⟩ = l
  | [], m, _, _ => by
    cases m with
    | zero => rfl
    | succ m => rw [repF, if_pos (by rfl)]
  | c :: l, m, hm, h => by
    obtain ⟨m, rfl⟩ : ∃ q, m = q + 1 := ⟨m - 1, by rw [List.length_cons] at hm; omega⟩
    obtain ⟨h1, h2⟩ := h c (by simp)
    have hsz : (⟨(c :: l).toArray⟩ : ByteArray).size = l.length + 1 := by simp [ByteArray.size]
    have ih := repF_ascii l m (by rw [List.length_cons] at hm; omega) (fun d hd => h d (by simp [hd]))
    rw [repF, if_neg (by omega), dec_cons c l h2, ext_cons, ih]
    have hC : repC ⟨(c :: l).toArray⟩ = (c.toNat : Int) := by unfold repC; rw [dec_cons c l h2, if_neg (by show c.toNat ≠ 0; omega)]
    rw [hC]
    unfold Lib.encodeRune
    rw [Lib.encodeRuneZ_one (by omega) (by omega)]
    show [((c.toNat : Int)).toNat.toUInt8] ++ l = c :: l
    rw [Int.toNat_natCast]
    show [UInt8.ofNat c.toNat] ++ l = _
    rw [UInt8.ofNat_toNat]; rfl
end Go.Proofs
set_option linter.unusedVariables false
set_option linter.unusedSimpArgs false
set_option maxRecDepth 100000
namespace Go.Proofs
open Go.RowKit Go.Shelf
attribute [local go_sem] Oper.semAt_some
end Go.Proofs
set_option linter.unusedVariables false
set_option linter.unusedSimpArgs false
set_option maxRecDepth 100000
namespace Go.Mu
open Go Go.Proofs Go.RowKit Go.Shelf
def repB (s : List UInt8) : List UInt8 := repF s.length ⟨s.toArray⟩
end Go.Mu
set_option linter.unusedVariables false
set_option linter.unusedSimpArgs false
set_option maxRecDepth 100000
namespace Go.Mu
open Go Go.Proofs
theorem flat_congr {α β : Type} {f g : α → List β} : ∀ (l : List α), (∀ a ∈ l, f a = g a) → l.flatMap f = l.flatMap g
  | [], _ => rfl
  | a :: l, h => by rw [List.flatMap_cons, List.flatMap_cons, h a (by simp), flat_congr l (fun b hb => h b (by simp [hb]))]
theorem repB_rp (s : List UInt8) : repB s = rpP s := by
  unfold repB rpP
  rw [repF_ch]
  refine flat_congr _ (fun c hc => ?_)
  have := chP_ok s c hc
  exact (encX_good (by omega) (by omega) (by omega)).1.symm
end Go.Mu
set_option linter.unusedVariables false
set_option linter.unusedSimpArgs false
set_option maxRecDepth 100000
namespace Go.Proofs
open Go.RowKit Go.Maps Go.Shelf
attribute [local go_sem] Oper.semAt_some
end Go.Proofs
set_option linter.unusedVariables false
set_option linter.unusedSimpArgs false
set_option maxRecDepth 100000
namespace Go.Mu
open Go Go.Proofs
def ascB (c : UInt8) : Bool := decide (1 ≤ c.toNat) && decide (c.toNat < 128) && c != 60
abbrev ascL (t : List UInt8) : Prop := ∀ c ∈ t, ascB c = true
theorem rp_asc {t : List UInt8} (h : ascL t) : rpP t = t := by
  rw [← repB_rp]
  unfold repB
  refine repF_ascii t t.length (Nat.le_refl _) (fun c hc => ?_)
  have := h c hc
  unfold ascB at this
  simp only [Bool.and_eq_true, decide_eq_true_eq] at this
  exact this.1
end Go.Mu
set_option linter.unusedVariables false
set_option linter.unusedSimpArgs false
set_option maxRecDepth 100000
namespace Go.Mu
open Go Go.Proofs
theorem bare_all : ∀ n : Fin 128, bareM (n.val : Int) = true → strC (byteOf [.int .u8 (IntKind.u8.wrap (n.val : Int))]) = true ∧ ascB (byteOf [.int .u8 (IntKind.u8.wrap (n.val : Int))]) = true ∧ escC (byteOf [.int .u8 (IntKind.u8.wrap (n.val : Int))]) = [byteOf [.int .u8 (IntKind.u8.wrap (n.val : Int))]] := by decide +kernel
def insC (c : UInt8) : Prop := strC c = true ∧ ascB c = true ∧ escC c = [c]
theorem bare_ins {c : Int} (h : bareM c = true) : insC (byteOf [.int .u8 (IntKind.u8.wrap c)]) := by
  have hr : 0 ≤ c ∧ c < 128 := by
    unfold bareM at h
    cases h1 : decide (c < 128) with
    | false => rw [h1] at h; cases h
    | true =>
      cases h2 : decide (c ≥ 0) with
      | false => rw [h1, h2] at h; cases h
      | true => exact ⟨of_decide_eq_true h2, of_decide_eq_true h1⟩
  obtain ⟨n, hn⟩ : ∃ n : Fin 128, c = (n.val : Int) := ⟨⟨c.toNat, by omega⟩, by simp; omega⟩
  subst hn
  exact bare_all n h
theorem hxd_all : ∀ n : Fin 16, strC (hxd n.val) = true ∧ ascB (hxd n.val) = true ∧ escC (hxd n.val) = [hxd n.val] := by decide +kernel
theorem hxd_ins (n : Nat) (h : n < 16) : insC (hxd n) := hxd_all ⟨n, h⟩
theorem hexB_ins (n size : Int) : ∀ c ∈ hexB n size, insC c := by
  unfold hexB
  intro c hc
  split at hc <;> simp only [List.mem_cons, List.not_mem_nil, or_false] at hc
  · rcases hc with rfl | rfl <;> exact hxd_ins _ (by omega)
  · rcases hc with rfl | rfl | rfl | rfl <;> exact hxd_ins _ (by omega)
theorem ins_list : ∀ {l : Bs}, (∀ c ∈ l, insC c) → Ins l
  | [], _ => .nil
  | c :: l, h => .cons (h c (by simp)).1 (ins_list (fun d hd => h d (by simp [hd])))
theorem ins_inBy (c : Int) : Ins (inBy c) := by
  unfold inBy
  split
  · rename_i h
    exact .cons (bare_ins h).1 .nil
  · split
    · refine Ins.append (Ins.append (Ins.append (.esc .nil) (ins_list (hexB_ins _ _))) (.esc .nil)) (ins_list (hexB_ins _ _))
    · exact Ins.append (.esc .nil) (ins_list (hexB_ins _ _))
theorem ins_inT : ∀ l : List Int, Ins (inT l)
  | [] => .nil
  | c :: l => by
    show Ins ((c :: l).flatMap inBy)
    rw [List.flatMap_cons]
    exact (ins_inBy c).append (ins_inT l)
theorem ins_inP (s : Bs) : Ins (inP s) := ins_inT (chP s)
/- escaped -/
def plE (c : UInt8) : Prop := ascB c = true ∧ escC c = [c]
theorem ple_inBy (c : Int) : ∀ d ∈ inBy c, plE d := by
  have h92 : plE 92 := ⟨by decide, by decide⟩
  have h117 : plE 117 := ⟨by decide, by decide⟩
  unfold inBy
  split
  · rename_i h
    intro d hd
    rw [List.mem_singleton] at hd
    subst hd
    exact ⟨(bare_ins h).2.1, (bare_ins h).2.2⟩
  · split
    · intro d hd
      simp only [List.mem_append, List.mem_cons, List.not_mem_nil, or_false] at hd
      rcases hd with ((((rfl | rfl) | hd) | (rfl | rfl)) | hd)
      · exact h92
      · exact h117
      · exact ⟨(hexB_ins _ _ _ hd).2.1, (hexB_ins _ _ _ hd).2.2⟩
      · exact h92
      · exact h117
      · exact ⟨(hexB_ins _ _ _ hd).2.1, (hexB_ins _ _ _ hd).2.2⟩
    · intro d hd
      simp only [List.mem_append, List.mem_cons, List.not_mem_nil, or_false] at hd
      rcases hd with ((rfl | rfl) | hd)
      · exact h92
      · exact h117
      · exact ⟨(hexB_ins _ _ _ hd).2.1, (hexB_ins _ _ _ hd).2.2⟩
theorem ple_inP (s : Bs) : ∀ d ∈ inP s, plE d := fun d hd => by
  obtain ⟨c, _, h⟩ := List.mem_flatMap.1 (show d ∈ (chP s).flatMap inBy from hd)
  exact ple_inBy c d h
theorem escT_pl : ∀ {l : Bs}, (∀ d ∈ l, plE d) → escT l = l
  | [], _ => rfl
  | c :: l, h => by
    unfold escT
    rw [List.flatMap_cons, (h c (by simp)).2]
    have := escT_pl (l := l) (fun d hd => h d (by simp [hd]))
    unfold escT at this
    rw [this]; rfl
theorem escT_app (a b : Bs) : escT (a ++ b) = escT a ++ escT b := by unfold escT; exact List.flatMap_append
theorem escP_in (s : Bs) : escP (inP s) = inP s := by
  unfold escP
  rw [rp_asc (fun c hc => (ple_inP s c hc).1), escT_pl (ple_inP s)]
theorem escP_quote (s : Bs) : escP (32 :: ([34] ++ (inP s ++ ([34] ++ [32])))) = 32 :: ([38, 35, 51, 52, 59] ++ (inP s ++ ([38, 35, 51, 52, 59] ++ [32]))) := by
  unfold escP
  rw [rp_asc]
  · have e : (32 :: ([34] ++ (inP s ++ ([34] ++ [32]))) : Bs) = [32, 34] ++ (inP s ++ [34, 32]) := rfl
    rw [e, escT_app, escT_app, escT_pl (ple_inP s)]
    rfl
  · intro c hc
    simp only [List.mem_cons, List.mem_append, List.not_mem_nil, or_false] at hc
    rcases hc with rfl | rfl | hc | rfl | rfl
    · decide
    · decide
    · exact (ple_inP s c hc).1
    · decide
    · decide
theorem inBy_l (c : Int) : (inBy c).length ≤ 12 := inBy_len c
theorem inP_len (s : Bs) : (inP s).length ≤ 12 * s.length := by
  have h : ∀ l : List Int, (inT l).length ≤ 12 * l.length := by
    intro l
    induction l with
    | nil => exact Nat.le_refl _
    | cons c l ih =>
      show ((c :: l).flatMap inBy).length ≤ _
      have h1 := inBy_l c
      have ih : (l.flatMap inBy).length ≤ 12 * l.length := ih
      rw [List.flatMap_cons, List.length_append, List.length_cons]
      omega
  have h1 := h (chP s)
  have h2 := chP_len s
  unfold inP
  omega
end Go.Mu
set_option linter.unusedVariables false
set_option linter.unusedSimpArgs false
set_option maxRecDepth 100000
namespace Go.Mu
open Go Go.Proofs
theorem oneP_no {s : List UInt8} (h : s.length ≤ 1099511627776) (hc : (s.getD 0 0 == 38) = false) : oneP s = ([], 0) := oneP_eq h ((one_any s h).2 hc)
end Go.Mu
set_option linter.unusedVariables false
set_option linter.unusedSimpArgs false
set_option maxRecDepth 100000
namespace Go.Proofs
open Go.RowKit Go.Shelf
attribute [local go_sem] Oper.semAt_some
end Go.Proofs
set_option linter.unusedVariables false
set_option linter.unusedSimpArgs false
set_option maxRecDepth 100000
namespace Go.Proofs
open Go.RowKit Go.Shelf
attribute [local go_sem] Oper.semAt_some
end Go.Proofs
set_option linter.unusedVariables false
set_option linter.unusedSimpArgs false
set_option maxRecDepth 100000
namespace Go.Mu
open Go Go.Proofs
def enO (b x : Int) : UInt8 := byteOf [AVal.int IntKind.u8 (IntKind.u8.wrap (((BitVec.ofInt 8 b ||| BitVec.ofInt 8 (IntKind.u8.wrap x)).toNat : Nat) : Int))]
def enT (x : Int) : UInt8 := byteOf [AVal.int IntKind.u8 (IntKind.u8.wrap (((BitVec.ofInt 8 128 ||| BitVec.ofInt 8 (IntKind.u8.wrap (((BitVec.ofInt 8 (IntKind.u8.wrap x) &&& BitVec.ofInt 8 63).toNat : Nat) : Int))).toNat : Nat) : Int))]
theorem enT_eq (x : Int) : enT x = (128 + x % 64).toNat.toUInt8 := by
  have h : ∀ m : Fin 256, byteOf [AVal.int IntKind.u8 (IntKind.u8.wrap (((BitVec.ofInt 8 128 ||| BitVec.ofInt 8 (IntKind.u8.wrap (((BitVec.ofInt 8 (m.val : Int) &&& BitVec.ofInt 8 63).toNat : Nat) : Int))).toNat : Nat) : Int))] = (128 + (m.val : Int) % 64).toNat.toUInt8 := by decide +kernel
  unfold enT
  rw [wrap8 x]
  have hm : 0 ≤ x % 256 ∧ x % 256 < 256 := by omega
  have := h ⟨(x % 256).toNat, by omega⟩
  simp only [Int.toNat_of_nonneg hm.1] at this
  rw [this, show x % 256 % 64 = x % 64 by omega]
theorem enO_192 (x : Int) (h : 0 ≤ x ∧ x < 32) : enO 192 x = (192 + x).toNat.toUInt8 := by
  have h2 : ∀ m : Fin 32, enO 192 (m.val : Int) = (192 + (m.val : Int)).toNat.toUInt8 := by decide +kernel
  have := h2 ⟨x.toNat, by omega⟩
  simpa only [Int.toNat_of_nonneg h.1] using this
theorem enO_224 (x : Int) (h : 0 ≤ x ∧ x < 16) : enO 224 x = (224 + x).toNat.toUInt8 := by
  have h2 : ∀ m : Fin 16, enO 224 (m.val : Int) = (224 + (m.val : Int)).toNat.toUInt8 := by decide +kernel
  have := h2 ⟨x.toNat, by omega⟩
  simpa only [Int.toNat_of_nonneg h.1] using this
theorem enO_240 (x : Int) (h : 0 ≤ x ∧ x < 8) : enO 240 x = (240 + x).toNat.toUInt8 := by
  have h2 : ∀ m : Fin 8, enO 240 (m.val : Int) = (240 + (m.val : Int)).toNat.toUInt8 := by decide +kernel
  have := h2 ⟨x.toNat, by omega⟩
  simpa only [Int.toNat_of_nonneg h.1] using this
theorem encode_exact (n : Int) (h0 : 0 ≤ n) (h : n ≤ 2147483647) (k : Out → Ans) : iFun Tryz.prog (Lay.nil.hd Tryz.prog) Lay.nil.fhs 0 63 [.int .i64 n] [] k = k (.ret (.tuple [.str (encX n), .int .i64 (encXE n)]) []) := by
  have w1 : IntKind.i32.wrap n = n := by simp [IntKind.wrap, IntKind.signed, IntKind.bits]; omega
  have w2 : IntKind.u32.wrap n = n := by simp [IntKind.wrap, IntKind.signed, IntKind.bits]; omega
  have f64 : n.fdiv 64 = n / 64 := Int.fdiv_eq_ediv_of_nonneg _ (by decide)
  have f4 : n.fdiv 4096 = n / 4096 := Int.fdiv_eq_ediv_of_nonneg _ (by decide)
  have f26 : n.fdiv 262144 = n / 262144 := Int.fdiv_eq_ediv_of_nonneg _ (by decide)
  refine (encode_fun n k).trans ?_
  simp only [w1, w2, f64, f4, f26]
  unfold encX encXE badR
  by_cases hb : n > 1114111
  · simp (disch := omega) only [dT, dF, cond_true, cond_false, Bool.or_true, Bool.true_or, Bool.false_or, Bool.or_false]
  by_cases hs : 55296 ≤ n ∧ n ≤ 57343
  · obtain ⟨hs1, hs2⟩ := hs
    simp (disch := omega) only [dT, dF, cond_true, cond_false, Bool.or_true, Bool.true_or, Bool.false_or, Bool.or_false, Bool.and_self]
  have hsb : (decide (55296 ≤ n) && decide (n ≤ 57343)) = false := by
    by_cases h1 : 55296 ≤ n
    · rw [dF (show ¬ n ≤ 57343 by omega), Bool.and_false]
    · rw [dF h1, Bool.false_and]
  rw [hsb, dF (show ¬ n < 0 by omega), dF hb]
  have fin : ∀ (t : List UInt8), t = Lib.encodeRune n → k (Out.ret (AVal.tuple [AVal.str t, AVal.int IntKind.i64 0]) []) = k (Out.ret (AVal.tuple [AVal.str (bif false || false || false then [] else Lib.encodeRune n), AVal.int IntKind.i64 (bif false || false || false then 4 else 0)]) []) := fun t e => by rw [e]; rfl
  by_cases h1 : n ≤ 127
  · simp (disch := omega) only [dT, dF, cond_true, cond_false]
    refine fin _ ?_
    unfold Lib.encodeRune
    rw [Lib.encodeRuneZ_one h0 h1]
    show [UInt8.ofNat (IntKind.u8.wrap n).toNat] = [n.toNat.toUInt8]
    rw [wrap8, show n % 256 = n by omega, Nat.toUInt8]
  by_cases h2 : n ≤ 2047
  · simp (disch := omega) only [dT, dF, cond_true, cond_false]
    refine fin _ ?_
    unfold Lib.encodeRune
    rw [Lib.encodeRuneZ_two (by omega) h2]
    show [enO 192 (n / 64), enT n] = [(192 + n / 64).toNat.toUInt8, (128 + n % 64).toNat.toUInt8]
    rw [enO_192 _ (by omega), enT_eq]
  by_cases h3 : n ≤ 65535
  · have key : (k (Out.ret (AVal.tuple [AVal.str [enO 224 (n / 4096), enT (n / 64), enT n], AVal.int IntKind.i64 0]) [])) = k (Out.ret (AVal.tuple [AVal.str (bif false || false || false then [] else Lib.encodeRune n), AVal.int IntKind.i64 (bif false || false || false then 4 else 0)]) []) := by
      refine fin _ ?_
      unfold Lib.encodeRune
      rw [Lib.encodeRuneZ_three (by omega), enO_224 _ (by omega), enT_eq, enT_eq]
      rfl
    by_cases h4 : n < 55296
    · simp (disch := omega) only [dT, dF, cond_true, cond_false]
      exact key
    · simp (disch := omega) only [dT, dF, cond_true, cond_false]
      exact key
  simp (disch := omega) only [dT, dF, cond_true, cond_false]
  refine fin _ ?_
  unfold Lib.encodeRune
  rw [Lib.encodeRuneZ_four (by omega) (by omega)]
  show [enO 240 (n / 262144), enT (n / 4096), enT (n / 64), enT n] = _
  rw [enO_240 _ (by omega), enT_eq, enT_eq, enT_eq]
  rfl
theorem enc_exact {n : Int} (h0 : 0 ≤ n) (h : n ≤ 2147483647) : encS' n = encX n ∧ encE n = encXE n := by
  have h3 := fun k => (encode_is n k).symm.trans (encode_exact n h0 h k)
  have h4 := h3 some
  simp only [Option.some.injEq, Out.ret.injEq, AVal.tuple.injEq, List.cons.injEq, AVal.str.injEq, AVal.int.injEq, and_true, true_and] at h4
  exact h4
end Go.Mu
set_option linter.unusedVariables false
set_option linter.unusedSimpArgs false
set_option maxRecDepth 100000
namespace Go.Mu
open Go Go.Proofs
def isX (c : UInt8) : Bool := IntKind.u8.wrap (((BitVec.ofInt 8 (c.toNat : Int) ||| BitVec.ofInt 8 32).toNat : Nat) : Int) == 120
noncomputable def onW4 (t : List UInt8) (hex : Bool) (n : Nat) : List UInt8 × Nat := bif t == [] || !numB t hex then ([], 0) else (bif encE (valA t hex) != 0 || valA t hex == 0 then [239, 191, 189] else encS' (valA t hex), n)
noncomputable def onW3 (v : List UInt8) (n : Nat) : List UInt8 × Nat := bif !(v == []) && isX (v.getD 0 0) then onW4 (v.drop 1) true n else onW4 v false n
noncomputable def onW2 (w : List UInt8) (n : Nat) : List UInt8 × Nat :=
  bif w == [97, 109, 112] then ([38], n) else bif w == [108, 116] then ([60], n) else bif w == [103, 116] then ([62], n) else bif w == [113, 117, 111, 116] then ([34], n) else bif w == [97, 112, 111, 115] then ([39], n) else
  bif !(w.take 1 == [35]) then ([], 0) else onW3 (w.drop 1) n
noncomputable def oneW (s : List UInt8) : List UInt8 × Nat :=
  bif !(s.getD 0 0 == 38) then ([], 0) else bif decide (ibM (s.take 16) 59 < 0) then ([], 0) else onW2 ((s.take (ibM (s.take 16) 59).toNat).drop 1) (ibM (s.take 16) 59 + 1).toNat
theorem oneP_W38 (t : List UInt8) (ht : t.length < 1099511627776) : oneP (38 :: t) = oneW (38 :: t) := by
  obtain ⟨s, hs⟩ : ∃ s, s = 38 :: t := ⟨_, rfl⟩
  have hl : s.length = t.length + 1 := by rw [hs]; rfl
  obtain ⟨n0, e0⟩ : ∃ n0 : Int, n0 = s.length := ⟨_, rfl⟩
  obtain ⟨c1, e1⟩ : ∃ c1, c1 = (s == []) := ⟨_, rfl⟩
  obtain ⟨n2, e2⟩ : ∃ n2 : Int, n2 = (if 16 < n0 then 16 else n0) := ⟨_, rfl⟩
  obtain ⟨n3, e3⟩ : ∃ n3, n3 = ibM (List.drop (Int.toNat 0) (List.take n2.toNat s)) 59 := ⟨_, rfl⟩
  obtain ⟨c4, e4⟩ : ∃ c4, c4 = (decide (1 ≤ n3) && decide (n3 ≤ n0)) := ⟨_, rfl⟩
  obtain ⟨l5, e5⟩ : ∃ l5, l5 = List.drop (Int.toNat 1) (List.take n3.toNat s) := ⟨_, rfl⟩
  obtain ⟨m6, e6⟩ : ∃ m6, m6 = l5.length := ⟨_, rfl⟩
  obtain ⟨n7, e7⟩ : ∃ n7 : Int, n7 = m6 := ⟨_, rfl⟩
  obtain ⟨c8, e8⟩ : ∃ c8, c8 = decide (1 ≤ n7) := ⟨_, rfl⟩
  obtain ⟨c9, e9⟩ : ∃ c9, c9 = decide (n7 ≥ 1) := ⟨_, rfl⟩
  obtain ⟨l10, e10⟩ : ∃ l10, l10 = List.drop (Int.toNat 1) (List.take n7.toNat l5) := ⟨_, rfl⟩
  obtain ⟨m11, e11⟩ : ∃ m11, m11 = l10.length := ⟨_, rfl⟩
  obtain ⟨n12, e12⟩ : ∃ n12 : Int, n12 = m11 := ⟨_, rfl⟩
  obtain ⟨c13, e13⟩ : ∃ c13, c13 = (l10 == []) := ⟨_, rfl⟩
  obtain ⟨c14, e14⟩ : ∃ c14, c14 = !c13 := ⟨_, rfl⟩
  obtain ⟨l15, e15⟩ : ∃ l15, l15 = List.drop (Int.toNat 1) (List.take n12.toNat l10) := ⟨_, rfl⟩
  obtain ⟨c16, e16⟩ : ∃ c16, c16 = decide (l15.length ≤ 1099511627776) := ⟨_, rfl⟩
  obtain ⟨n17, e17⟩ : ∃ n17, n17 = valA l15 true := ⟨_, rfl⟩
  obtain ⟨c18, e18⟩ : ∃ c18, c18 = decide (m11 ≤ 1099511627776) := ⟨_, rfl⟩
  obtain ⟨n19, e19⟩ : ∃ n19, n19 = valA l10 false := ⟨_, rfl⟩
  have key := (fun k : Out → Ans => rone_fun s k n0 e0 c1 e1 n2 e2 n3 e3 c4 e4 l5 e5 m6 e6 n7 e7 c8 e8 c9 e9 l10 e10 m11 e11 n12 e12 c13 e13 c14 e14 l15 e15 c16 e16 n17 e17 c18 e18 n19 e19)
  rw [← hs]
  have fin : (∀ k : Out → Ans, iFun Tryz.prog (layY7.hd Tryz.prog) layY7.fhs 0 46 [.str s] [] k = k (.ret (.tuple [.str (oneW s).1, .int .i64 ((oneW s).2 : Nat)]) [])) → oneP s = oneW s := fun h => oneP_eq (by omega) h
  refine fin (fun k => (key k).trans ?_)
  clear key fin
  have h1 : c1 = false := by rw [e1, hs]; rfl
  have hc : (((s.getD 0 0).toNat : Int) != 38) = false := by rw [hs]; rfl
  have g0 : decide (0 < n0) = true := dT (by omega)
  have h2 : 0 ≤ n2 ∧ n2 ≤ n0 := by rw [e2]; split <;> omega
  have h5 : l5.length ≤ s.length := by rw [e5]; simp; omega
  have h10 : l10.length ≤ s.length := by rw [e10]; simp; omega
  have h15 : l15.length ≤ s.length := by rw [e15]; simp; omega
  have g16 : c16 = true := by rw [e16]; exact dT (by omega)
  have g18 : c18 = true := by rw [e18]; exact dT (by omega)
  have g6 : decide (m6 ≤ 1099511627776) = true := dT (by omega)
  have g77 : decide (n7 ≤ n7) = true := dT (Int.le_refl _)
  have g1212 : decide (n12 ≤ n12) = true := dT (Int.le_refl _)
  have e16 : List.drop (Int.toNat 0) (List.take n2.toNat s) = s.take 16 := by
    show List.take n2.toNat s = s.take 16
    rw [e2]
    split
    · rfl
    · rw [List.take_of_length_le (by omega), List.take_of_length_le (by omega)]
  have hW : oneW s = bif decide (n3 < 0) then ([], 0) else onW2 l5 (n3 + 1).toNat := by
    unfold oneW
    rw [show (s.getD 0 0 == 38) = true by rw [hs]; rfl, ← e16, ← e3, e5]
    rfl
  rw [hW]
  simp only [h1, hc, g0, dT h2.1, dT h2.2, Bool.true_or, cond_true, cond_false, Bool.and_self]
  by_cases h3 : n3 < 0
  · simp only [dT h3, cond_true]; rfl
  have h31 : 1 ≤ n3 ∧ n3 < n2 := by
    have hlt := ib_lt (List.drop (Int.toNat 0) (List.take n2.toNat s)) 59
    have hd : (List.drop (Int.toNat 0) (List.take n2.toNat s)).length = n2.toNat := by simp; omega
    have e3' : n3 = Lib.indexByte (List.drop (Int.toNat 0) (List.take n2.toNat s)) 59 := e3
    refine ⟨?_, by omega⟩
    have hp : 0 < n2.toNat := by rw [e2]; split <;> omega
    obtain ⟨q, hq⟩ : ∃ q, n2.toNat = q + 1 := ⟨n2.toNat - 1, by omega⟩
    rw [hq, hs, List.take_succ_cons] at e3'
    have : n3 = if ((38 : UInt8) == 59) = true then 0 else if (Lib.indexByte (t.take q) 59 == -1) = true then -1 else Lib.indexByte (t.take q) 59 + 1 := e3'
    rw [if_neg (by decide)] at this
    have hge := Lib.indexByte_ge (t.take q) 59
    split at this
    · omega
    · rename_i hne
      have : Lib.indexByte (t.take q) 59 ≠ -1 := by simpa using hne
      omega
  have g4 : c4 = true := by rw [e4, dT h31.1, dT (show n3 ≤ n0 by omega)]; rfl
  have hw : IntKind.i64.wrap (n3 + 1) = (((n3 + 1).toNat : Nat) : Int) := by rw [wrap_of (by omega) (by omega)]; omega
  simp only [dF h3, g4, hw, g6, g16, g18, g77, g1212, Bool.and_true, Bool.or_true, cond_true, cond_false]
  generalize hN : (n3 + 1).toNat = N
  unfold onW2
  cases l5 == [97, 109, 112] with
  | true => rfl
  | false =>
  cases l5 == [108, 116] with
  | true => rfl
  | false =>
  cases l5 == [103, 116] with
  | true => rfl
  | false =>
  cases l5 == [113, 117, 111, 116] with
  | true => rfl
  | false =>
  cases l5 == [97, 112, 111, 115] with
  | true => rfl
  | false =>
  simp only [cond_false]
  have eT : List.drop (Int.toNat 0) (List.take (Int.toNat 1) l5) = l5.take 1 := rfl
  have eD : List.drop (Int.toNat 1) (List.take n7.toNat l5) = l5.drop 1 := by rw [List.take_of_length_le (by omega)]; rfl
  have eD2 : List.drop (Int.toNat 1) (List.take n12.toNat l10) = l10.drop 1 := by rw [List.take_of_length_le (by omega)]; rfl
  rw [eT]
  by_cases h7 : 1 ≤ n7
  case neg =>
    have g8 : c8 = false := by rw [e8]; exact dF h7
    have g9 : c9 = false := by rw [e9]; exact dF h7
    have hn : l5 = [] := List.eq_nil_of_length_eq_zero (by omega)
    simp only [g8, g9, Bool.not_false, Bool.or_true, cond_true, cond_false]
    rw [hn]; rfl
  have g8 : c8 = true := by rw [e8]; exact dT h7
  have g9 : c9 = true := by rw [e9]; exact dT h7
  simp only [g8, g9, Bool.true_or, cond_true]
  rw [eD] at e10
  cases l5.take 1 == [35] with
  | false => simp only [Bool.not_false, cond_true, Bool.or_true]; rfl
  | true =>
  simp only [Bool.not_true, cond_false, cond_true]
  rw [← e10]
  unfold onW3
  rw [eD2] at e15
  by_cases he : l10 = []
  case pos =>
    have g13 : c13 = true := by rw [e13, he]; rfl
    have g14 : c14 = false := by rw [e14, g13]; rfl
    simp only [g13, g14, Bool.not_false, Bool.or_true, Bool.true_or, cond_true, cond_false]
    rw [he]; rfl
  have hp : 0 < l10.length := List.length_pos_iff.2 he
  have hb : (l10 == []) = false := by simpa using he
  have g13 : c13 = false := by rw [e13]; exact hb
  have g14 : c14 = true := by rw [e14, g13]; rfl
  have g12 : decide (0 < n12) = true := dT (by omega)
  have g12' : decide (1 ≤ n12) = true := dT (by omega)
  simp only [g13, g14, g12, g12', hb, Bool.not_false, Bool.not_true, Bool.or_true, Bool.true_or, Bool.true_and, cond_true, cond_false]
  show (bif isX (l10.getD 0 0) then _ else _) = _
  rw [← e15]
  unfold onW4
  cases isX (l10.getD 0 0) with
  | true =>
    simp only [cond_true, ← e17]
    cases l15 == [] with
    | true => rfl
    | false =>
      cases numB l15 true with
      | false => rfl
      | true =>
        cases encE n17 != 0 with
        | true => rfl
        | false => cases n17 == 0 <;> rfl
  | false =>
    simp only [cond_false, ← e19, hb]
    cases numB l10 false with
    | false => rfl
    | true =>
      cases encE n19 != 0 with
      | true => rfl
      | false => cases n19 == 0 <;> rfl
theorem oneP_W (s : List UInt8) (hs : s.length ≤ 1099511627776) : oneP s = oneW s := by
  cases h : s.getD 0 0 == 38 with
  | false => rw [oneP_no hs h]; unfold oneW; rw [h]; rfl
  | true =>
    cases s with
    | nil => cases h
    | cons c t =>
      obtain rfl : c = 38 := by simpa using h
      exact oneP_W38 t (by rw [List.length_cons] at hs; omega)
end Go.Mu
set_option linter.unusedVariables false
set_option linter.unusedSimpArgs false
set_option maxRecDepth 100000
namespace Go.Proofs
open Go.RowKit Go.Maps Go.Shelf
attribute [local go_sem] Oper.semAt_some
end Go.Proofs
set_option linter.unusedVariables false
set_option linter.unusedSimpArgs false
set_option maxRecDepth 100000
namespace Go.Mu
open Go Go.Proofs
theorem oneP_q1 : oneP [38, 35] = ([], 0) := oneP_eq (by decide) (fun k => by kernel_rfl)
theorem oneP_q2 : oneP [38, 35, 51] = ([], 0) := oneP_eq (by decide) (fun k => by kernel_rfl)
theorem oneP_q3 : oneP [38, 35, 51, 52] = ([], 0) := oneP_eq (by decide) (fun k => by kernel_rfl)
theorem oneP_q4 : oneP [38, 35, 51, 52, 59] = ([34], 5) := by
  rw [oneP_W _ (by decide)]
  have e1 : oneW [38, 35, 51, 52, 59] = onW4 [51, 52] false 5 := by kernel_rfl
  have e2 : valA [51, 52] false = 34 := by kernel_rfl
  have e3 : ([51, 52] == ([] : List UInt8) || !numB [51, 52] false) = false := by kernel_rfl
  obtain ⟨e4, e5⟩ := enc_exact (n := 34) (by decide) (by decide)
  have e6 : encX 34 = [34] := by kernel_rfl
  have e7 : encXE 34 = 0 := by kernel_rfl
  rw [e1]
  unfold onW4
  rw [e2, e3, e4, e5, e6, e7]
  rfl
theorem scanA_j (a : Bs) : JOk (scanA a).1 := by
  show JOk (scanFeed oneP unfM ss0 a).1
  rw [scanFeed_inv0 ss0_inv]
  exact feedL_j unfM_len a ss0_inv (j_nil rfl)
noncomputable def strX (k : Int) (s : Bs) : Bs :=
  bif decide (k > 8) then (bif k == 7 || k == 9 then escP (32 :: ([34] ++ (inP s ++ ([34] ++ [32])))) else escP (inP s)) else (bif k == 7 || k == 9 then 32 :: ([34] ++ (inP s ++ ([34] ++ [32]))) else inP s)
theorem str17 (a s : Bs) (hh : (holeM (scanA a).1).2.2 = 0) (hk : 7 ≤ (holeM (scanA a).1).2.1 ∧ (holeM (scanA a).1).2.1 ≤ 10) :
    scanFeed oneP unfM (scanA a).1 (strX (holeM (scanA a).1).2.1 s) = ((holeM (scanA a).1).1, (strX (holeM (scanA a).1).2.1 s).length, 0) := by
  obtain ⟨hjs, h19, h9, h79, h810⟩ := hole_js (scanA_inv a) (scanA_j a) hh hk
  rw [scanFeed_inv0 (scanA_inv a)]
  generalize (holeM (scanA a).1).1 = u at *
  generalize (holeM (scanA a).1).2.1 = q at *
  generalize (scanA a).1 = t at *
  have hin := ins_inP s
  by_cases q7 : q = 7
  · subst q7
    obtain ⟨p01, hu⟩ := h79 (.inl rfl)
    rw [hu]
    exact value_feed unfM_len hjs p01 (quote_raw (h19 (by decide))) hin
  by_cases q8 : q = 8
  · subst q8
    obtain ⟨p23, hw, hu⟩ := h810 (.inl rfl)
    rw [hu]
    exact ins_feed hjs rfl p23 hw hin
  by_cases q9 : q = 9
  · subst q9
    obtain ⟨p01, hu⟩ := h79 (.inr rfl)
    rw [hu]
    have e : strX 9 s = 32 :: ([38, 35, 51, 52, 59] ++ (inP s ++ ([38, 35, 51, 52, 59] ++ [32]))) := escP_quote s
    rw [e]
    exact value_feed unfM_len hjs p01 (quote_ref unfM_len (h9 (by decide)) (by rw [oneP_q1]; decide) (by kernel_rfl) (by rw [oneP_q2]; decide) (by kernel_rfl) (by rw [oneP_q3]; decide) (by kernel_rfl) oneP_q4) hin
  have q10 : q = 10 := by omega
  subst q10
  obtain ⟨p23, hw, hu⟩ := h810 (.inr rfl)
  rw [hu]
  have e : strX 10 s = inP s := escP_in s
  rw [e]
  exact ins_feed hjs rfl p23 hw hin
end Go.Mu
set_option linter.unusedVariables false
set_option linter.unusedSimpArgs false
set_option maxRecDepth 100000
namespace Go.Mu
open Go Go.Proofs
theorem fTxt_ok {f : FuncId} {P : Bs → Bs} {n : Nat} (h : ∀ s, s.length ≤ n → CallOK Tryz.prog f [.str s] [] (.ret (.str (P s)) [])) : ∀ xs H k out, fTxt P n xs H k = some out → ∃ o, CallOK Tryz.prog f xs H o ∧ k o = some out := mkFS_ok fun ys xs e hk => by
  obtain ⟨s, rfl⟩ : ∃ s, xs = [.str s] := ⟨_, e⟩
  exact ⟨_, fun k => rfl, h s (of_decide_eq_true hk)⟩
theorem layStr_ok : (layStr scanR holeX inP escP).OK Tryz.prog := ((((Lay.nil_ok.addF sfTold_ok).addF hlTold_ok).addF alive17Told_ok).addF (fTxt_ok (fun s hs => in_ok s (by omega)))).addF (fTxt_ok (fun s hs => re_ok s hs))
theorem qx_eq (s : Bs) : (32 :: ([34] ++ (inP s ++ ([34] ++ [32]))) : Bs) = 32 :: 34 :: (inP s ++ [34] ++ [32]) := by
  show (32 :: 34 :: (inP s ++ ([34] ++ [32])) : Bs) = _
  rw [List.append_assoc]
theorem qx_len (s : Bs) : (32 :: 34 :: (inP s ++ [34] ++ [32]) : Bs).length = (inP s).length + 4 := by simp
theorem qe_len (s : Bs) : (escP (32 :: 34 :: (inP s ++ [34] ++ [32]))).length = (inP s).length + 12 := by
  rw [← qx_eq, escP_quote]; simp
theorem str_true (a s : Bs) (ha : a.length ≤ 1048576) (hs : s.length ≤ 1048576) : CallOK Tryz.prog 3 [.str a, .str s] [] (.ret (.bool true) []) := layStr_ok.callF (G := []) rfl (fun k => by
  have key := str17_fun scanR holeX inP escP a s k
  have hi := inP_len s
  have l1 : (34 :: inP s : Bs).length = (inP s).length + 1 := rfl
  have l2 : (34 :: (inP s ++ [34]) : Bs).length = (inP s).length + 2 := by simp
  have l3 : (32 :: 34 :: (inP s ++ [34]) : Bs).length = (inP s).length + 3 := by simp
  simp only [cS, sA, hA, c0v, cGv, ef0, ef, ssEta, ss0v, scanR_enc, holeX_enc, tstS, cond_true, bif_or, bif_and, l1, l2, l3, qx_len, dT hs, dT (show 1 + (inP s).length ≤ 4611686018427387904 by omega), dT (show (inP s).length + 1 + 1 ≤ 4611686018427387904 by omega), dT (show 1 + ((inP s).length + 2) ≤ 4611686018427387904 by omega), dT (show (inP s).length + 3 + 1 ≤ 4611686018427387904 by omega), dT (show (inP s).length + 4 ≤ 1073741824 by omega), dT (show (inP s).length ≤ 1073741824 by omega)] at key
  refine key.trans ?_
  clear key
  refine (congrArg (fun c => cond c _ none) (tst_true ⟨⟨isS_enc ss0, by omega⟩, .refl _, trivial⟩)).trans ((cond_true _ _).trans ?_)
  cases hb : ((scanFeed oneP unfM ss0 a).2.2 != 0 || (holeM (scanFeed oneP unfM ss0 a).1).2.2 != 0 || decide ((holeM (scanFeed oneP unfM ss0 a).1).2.1 < 7) || decide ((holeM (scanFeed oneP unfM ss0 a).1).2.1 > 10)) with
  | true => rfl
  | false =>
    simp only [Bool.or_eq_false_iff, bne_eq_false_iff_eq, decide_eq_false_iff_not] at hb
    obtain ⟨⟨⟨b1, b2⟩, b3⟩, b4⟩ := hb
    have hm := str17 a s b2 ⟨by show 7 ≤ (holeM (scanFeed oneP unfM ss0 a).1).2.1; omega, by show (holeM (scanFeed oneP unfM ss0 a).1).2.1 ≤ 10; omega⟩
    unfold strX scanA at hm
    rw [qx_eq] at hm
    have hA : isS (encSS (scanFeed oneP unfM ss0 a).1) := isS_enc _
    have e10 : (escP (inP s)).length = (inP s).length := by rw [escP_in]
    have e9 := qe_len s
    have e7 := qx_len s
    generalize (scanFeed oneP unfM ss0 a).1 = t at *
    generalize (holeM t).1 = u at *
    generalize (holeM t).2.1 = q at *
    simp only [cond_false]
    cases h79 : (q == 7 || q == 9) <;> cases h8 : decide (q > 8) <;> simp only [h79, h8, cond_true, cond_false] at hm ⊢
    · refine (congrArg (fun c => cond c _ none) (tst_true ⟨⟨hA, by omega⟩, .refl _, trivial⟩)).trans ((cond_true _ _).trans ?_)
      rw [hm]
      simp only [e7, beq_self_eq_true, Bool.and_self]
    · refine (congrArg (fun c => cond c _ none) (tst_true ⟨⟨hA, by omega⟩, .refl _, trivial⟩)).trans ((cond_true _ _).trans ?_)
      rw [hm]
      simp only [e7, beq_self_eq_true, Bool.and_self]
    · refine (congrArg (fun c => cond c _ none) (tst_true ⟨⟨hA, by omega⟩, .refl _, trivial⟩)).trans ((cond_true _ _).trans ?_)
      rw [hm]
      simp only [e7, beq_self_eq_true, Bool.and_self]
    · refine (congrArg (fun c => cond c _ none) (tst_true ⟨⟨hA, by omega⟩, .refl _, trivial⟩)).trans ((cond_true _ _).trans ?_)
      rw [hm]
      simp only [e7, beq_self_eq_true, Bool.and_self])
end Go.Mu
set_option linter.unusedVariables false
namespace Go.Mu
open Go
variable {H : Type}
mutual
theorem size_bulk : ∀ d : DataW H, (tOf d).size ≤ Go.Proofs.YtbibhpbmpnennaaGreatDoor.Rows.uptoBulk d
  | .lit (.bool _) => by simp [tOf, T.size, Go.Proofs.YtbibhpbmpnennaaGreatDoor.Rows.uptoBulk]
  | .lit (.int _ _) => by simp [tOf, T.size, Go.Proofs.YtbibhpbmpnennaaGreatDoor.Rows.uptoBulk]
  | .lit (.string _) => by simp [tOf, T.size, Go.Proofs.YtbibhpbmpnennaaGreatDoor.Rows.uptoBulk]
  | .lit (.float _ _) => by simp [tOf, T.size, T.sizes, Go.Proofs.YtbibhpbmpnennaaGreatDoor.Rows.uptoBulk]
  | .lit .nil => by simp [tOf, T.size, T.sizes, Go.Proofs.YtbibhpbmpnennaaGreatDoor.Rows.uptoBulk]
  | .nil => by simp [tOf, T.size, T.sizes, Go.Proofs.YtbibhpbmpnennaaGreatDoor.Rows.uptoBulk]
  | .ptr d => by simp [tOf, T.size, T.sizes, Go.Proofs.YtbibhpbmpnennaaGreatDoor.Rows.uptoBulk]
  | .slice es sp => by
    have := size_bulks es
    simp only [tOf, T.size, Go.Proofs.YtbibhpbmpnennaaGreatDoor.Rows.uptoBulk]
    omega
  | .agg ps => by
    have := size_bulks ps
    simp only [tOf, T.size, Go.Proofs.YtbibhpbmpnennaaGreatDoor.Rows.uptoBulk]
    omega
  | .iface _ d => by simp [tOf, T.size, T.sizes, Go.Proofs.YtbibhpbmpnennaaGreatDoor.Rows.uptoBulk]
  | .map _ => by simp [tOf, T.size, T.sizes, Go.Proofs.YtbibhpbmpnennaaGreatDoor.Rows.uptoBulk]
  | .held _ => by simp [tOf, T.size, T.sizes, Go.Proofs.YtbibhpbmpnennaaGreatDoor.Rows.uptoBulk]
theorem size_bulks : ∀ ds : List (DataW H), T.sizes (tOfs ds) ≤ Go.Proofs.YtbibhpbmpnennaaGreatDoor.Rows.uptoBulkAll ds
  | [] => by simp [tOfs, T.sizes, Go.Proofs.YtbibhpbmpnennaaGreatDoor.Rows.uptoBulkAll]
  | d :: ds => by
    have := size_bulk d
    have := size_bulks ds
    simp only [tOfs, T.sizes, Go.Proofs.YtbibhpbmpnennaaGreatDoor.Rows.uptoBulkAll]
    omega
end
theorem small_size {ds : List (DataW H)} (h : Go.Proofs.YtbibhpbmpnennaaGreatDoor.Rows.uptoSmall H ds = true) : T.sizes (tOfs ds) ≤ 1048576 := by
  unfold Go.Proofs.YtbibhpbmpnennaaGreatDoor.Rows.uptoSmall at h
  have := size_bulks ds
  have := of_decide_eq_true h
  omega
end Go.Mu
set_option linter.unusedVariables false
set_option linter.unusedSimpArgs false
set_option maxRecDepth 100000
namespace Go.Mu
open Go Go.Proofs
theorem tabIs_of_reads {P : Program} {W : World} {name : String} {k : IntKind} {zs : List Int} {g : Nat} {t e : TypeId} {n : Nat}
    (hg : P.globalNamed name = some g) (hty : (P.globals[g]?).map (·.type) = some t) (ht : P.underlying t = some (.array n e)) (he : P.underlying e = some (.int k)) (hce : P.cellsOf e = 1) (hct : P.cellsOf t = n)
    (h : Lib.VarReads P W name (Lib.tabData k zs)) : Lib.TabIs P W name k zs := by
  obtain ⟨g', t', cs, fuel, p, hg', ht', hvar, hd⟩ := h
  obtain rfl := Option.some.inj (hg.symm.trans hg')
  obtain rfl := Option.some.inj (hty.symm.trans ht')
  unfold Lib.TabIs
  rw [hvar, ← Lib.cells_of_tab ht he hce hct hd]
theorem asc_rep {W : World} {imm : Nat → Prop} (h : Lib.TabIs Tryz.prog W "strings.asciiSpace" .u8 Lib.asciiSpaceTab) (hi : imm 1) : RepP W imm (.rptr (Lib.asciiSpaceTab.map (AVal.int .u8))) (.pointer (some ⟨1, 0, none⟩)) := by
  refine .rptr _ _ 0 (fun j => .int .u8 (Lib.asciiSpaceTab.getD j 0)) hi (fun j hj => ?_) (fun j hj => ?_)
  · rw [List.length_map] at hj
    rw [Nat.zero_add]
    exact ⟨h.cell (by kernel_rfl) j hj, rfl⟩
  · rw [List.length_map] at hj
    rw [List.getD_eq_getElem?_getD, List.getElem?_map, List.getElem?_eq_getElem hj, List.getD_eq_getElem?_getD, List.getElem?_eq_getElem hj]
    exact .int _ _
theorem asc_reads {W : World} {laid : List (String × DataW Unit)} (hl : laidMet Tryz.prog laid W) (h3 : ("strings.asciiSpace", Lib.tabData .u8 Lib.asciiSpaceTab) ∈ laid) : Lib.TabIs Tryz.prog W "strings.asciiSpace" .u8 Lib.asciiSpaceTab :=
  tabIs_of_reads (g := 1) (by kernel_rfl) (by kernel_rfl) (t := 100) (e := 5) (n := 256) (by kernel_rfl) (by kernel_rfl) (by kernel_rfl) (by kernel_rfl) (Lib.laidMet.reads hl h3)
theorem asc_old {W : World} (h : Lib.TabIs Tryz.prog W "strings.asciiSpace" .u8 Lib.asciiSpaceTab) : oldB W 1 := by
  have h : W.cell? ⟨1, 0, none⟩ = some (.int .u8 (Lib.asciiSpaceTab.getD 0 0)) := h.cell (by kernel_rfl) 0 (by rw [Lib.asciiSpaceTab_length]; omega)
  show 1 < W.heap.size
  unfold World.cell? at h
  by_cases hlt : 1 < W.heap.size
  · exact hlt
  · have hle : W.heap.size ≤ (Addr.mk 1 0 none).block := by show W.heap.size ≤ 1; omega
    rw [Array.getElem?_eq_none hle] at h
    simp at h
theorem tabs_glob {W : World} {laid : List (String × DataW Unit)} (hl : laidMet Tryz.prog laid W) (h3 : ("strings.asciiSpace", Lib.tabData .u8 Lib.asciiSpaceTab) ∈ laid) : ∀ g cells, gvals g = some cells → RepP W (oldB W) (.rptr cells) (.pointer (some ⟨g, 0, none⟩)) := by
  intro g cells hg
  unfold gvals at hg
  split at hg
  · rename_i e
    have e : g = 1 := by simpa using e
    subst e
    simp only [Option.some.injEq] at hg
    subst hg
    exact asc_rep (asc_reads hl h3) (asc_old (asc_reads hl h3))
  · cases hg
end Go.Mu
