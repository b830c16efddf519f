/-
  Lemmas on the given program (part 4).
-/
import Derived.Test.YthbdcgfaklnelaaGreatDoorFC3
import Derived.Shelf.LaysM
import Derived.Shelf.Strings.BuilderRune
import Derived.Shelf.Strings.BuilderK
import Derived.Shelf.Unicode.Decode
import Derived.Shelf.Unicode.DecodeAny
import Derived.Test.YthbdcgfaklnelaaGreatDoorProg
import Derived.RangeFuncNested
import Derived.RangeFuncBound
import Derived.RangeFuncCalls
import Derived.RangeFuncLeaves
import Derived.Shelf.Abstract
import Derived.Shelf.RegionOpen
import Derived.WalkKit
import Derived.OwnWalkIn
import Derived.TacticsInMore
import Derived.LoopNIn
import Derived.LoopIn
import Derived.Lib.QuoteLoop
import Derived.Lib.TrimU
import Derived.Shelf.Strings.MapGrows
import Derived.RangeFuncBox
import Derived.Maps.AppendAt
import Derived.KernelRfl
import Derived.Shelf.Strings.Shaped
import Derived.ProofKit
import Derived.Lib.UnsafeStr
import Derived.Shelf.RegionOpenPlain
import Derived.Shelf.GgClosure.StringsIndexFunc
import Derived.Lib.TrimUEq
import Derived.Shelf.Strings.OnBuilder
import Derived.Shelf.Strings.Split
import Derived.Shelf.Strings.Cut
import Derived.Lib.RuneBytes
import Derived.Lib.MapLaws
import Derived.Lib.SlBytesConst
import Derived.Shelf.Small.Strs
set_option linter.unusedVariables false
set_option linter.unusedSimpArgs false
set_option maxRecDepth 100000
namespace Go.Proofs
open Go.Shelf
def Tryz.uRen : Ren := {
 f := fun x => match x with
  | 168 => 62
  | 169 => 51
  | 197 => 109
  | 240 => 87
  | 242 => 94
  | 260 => 128
  | 276 => 108
  | 278 => 110
  | n => n,
 t := fun x => match x with
  | 0 => 0
  | 3 => 3
  | 4 => 4
  | 5 => 5
  | 9 => 9
  | 20 => 20
  | 21 => 21
  | 37 => 43
  | 46 => 91
  | 51 => 115
  | 70 => 53
  | 72 => 55
  | 75 => 57
  | 80 => 61
  | 105 => 113
  | 119 => 128
  | 127 => 89
  | 138 => 130
  | 139 => 131
  | 164 => 111
  | n => n,
 g := fun x => match x with
  | 3 => 1
  | 4 => 2
  | n => n }
theorem Tryz.uRen_168 : Lays.n168 Tryz.prog Tryz.uRen := {
 mixed := by kernel_rfl
 f168 := Tryz.func62.trans (congrArg some (by kernel_rfl))
 f240 := Tryz.func87.trans (congrArg some (by kernel_rfl))
 f242 := Tryz.func94.trans (congrArg some (by kernel_rfl))
 f276 := Tryz.func108.trans (congrArg some (by kernel_rfl))
 f278 := Tryz.func110.trans (congrArg some (by kernel_rfl))
 t0 := Tryz.underlying0
 a0 := Tryz.isAgg0
 z0 := Tryz.sizeOf0
 v0 := Tryz.zeroValue0
 t3 := Tryz.underlying3
 a3 := Tryz.isAgg3
 z3 := Tryz.sizeOf3
 v3 := Tryz.zeroValue3
 t4 := Tryz.underlying4
 a4 := Tryz.isAgg4
 z4 := Tryz.sizeOf4
 v4 := Tryz.zeroValue4
 t5 := Tryz.underlying5
 a5 := Tryz.isAgg5
 z5 := Tryz.sizeOf5
 v5 := Tryz.zeroValue5
 t9 := Tryz.underlying9
 a9 := Tryz.isAgg9
 z9 := Tryz.sizeOf9
 v9 := Tryz.zeroValue9
 t20 := Tryz.underlying20
 a20 := Tryz.isAgg20
 z20 := Tryz.sizeOf20
 v20 := Tryz.zeroValue20
 t21 := Tryz.underlying21
 a21 := Tryz.isAgg21
 z21 := Tryz.sizeOf21
 v21 := Tryz.zeroValue21
 t37 := Tryz.underlying43
 a37 := Tryz.isAgg43
 z37 := Tryz.sizeOf43
 v37 := Tryz.zeroValue43
 t46 := Tryz.underlying91
 a46 := Tryz.isAgg91
 z46 := Tryz.sizeOf91
 v46 := Tryz.zeroValue91
 t51 := Tryz.underlying115
 a51 := Tryz.isAgg115
 z51 := Tryz.sizeOf115
 v51 := Tryz.zeroValue115
 t70 := Tryz.underlying53
 a70 := Tryz.isAgg53
 z70 := Tryz.sizeOf53
 v70 := Tryz.zeroValue53
 t72 := Tryz.underlying55
 a72 := Tryz.isAgg55
 z72 := Tryz.sizeOf55
 v72 := Tryz.zeroValue55
 t75 := Tryz.underlying57
 a75 := Tryz.isAgg57
 z75 := Tryz.sizeOf57
 v75 := Tryz.zeroValue57
 t164 := Tryz.underlying111
 a164 := Tryz.isAgg111
 z164 := Tryz.sizeOf111
 v164 := Tryz.zeroValue111
}
theorem Tryz.uRen_169 : Lays.n169 Tryz.prog Tryz.uRen := {
 mixed := by kernel_rfl
 f169 := Tryz.func51.trans (congrArg some (by kernel_rfl))
 t0 := Tryz.underlying0
 a0 := Tryz.isAgg0
 z0 := Tryz.sizeOf0
 v0 := Tryz.zeroValue0
 t3 := Tryz.underlying3
 a3 := Tryz.isAgg3
 z3 := Tryz.sizeOf3
 v3 := Tryz.zeroValue3
 t9 := Tryz.underlying9
 a9 := Tryz.isAgg9
 z9 := Tryz.sizeOf9
 v9 := Tryz.zeroValue9
 t37 := Tryz.underlying43
 a37 := Tryz.isAgg43
 z37 := Tryz.sizeOf43
 v37 := Tryz.zeroValue43
 t70 := Tryz.underlying53
 a70 := Tryz.isAgg53
 z70 := Tryz.sizeOf53
 v70 := Tryz.zeroValue53
 t72 := Tryz.underlying55
 a72 := Tryz.isAgg55
 z72 := Tryz.sizeOf55
 v72 := Tryz.zeroValue55
 t127 := Tryz.underlying89
 a127 := Tryz.isAgg89
 z127 := Tryz.sizeOf89
 v127 := Tryz.zeroValue89
}
theorem Tryz.uRen_197 : Lays.n197 Tryz.prog Tryz.uRen := {
 mixed := by kernel_rfl
 f197 := Tryz.func109.trans (congrArg some (by kernel_rfl))
 f260 := Tryz.func128.trans (congrArg some (by kernel_rfl))
 t0 := Tryz.underlying0
 a0 := Tryz.isAgg0
 z0 := Tryz.sizeOf0
 v0 := Tryz.zeroValue0
 t3 := Tryz.underlying3
 a3 := Tryz.isAgg3
 z3 := Tryz.sizeOf3
 v3 := Tryz.zeroValue3
 t4 := Tryz.underlying4
 a4 := Tryz.isAgg4
 z4 := Tryz.sizeOf4
 v4 := Tryz.zeroValue4
 t5 := Tryz.underlying5
 a5 := Tryz.isAgg5
 z5 := Tryz.sizeOf5
 v5 := Tryz.zeroValue5
 t9 := Tryz.underlying9
 a9 := Tryz.isAgg9
 z9 := Tryz.sizeOf9
 v9 := Tryz.zeroValue9
 t21 := Tryz.underlying21
 a21 := Tryz.isAgg21
 z21 := Tryz.sizeOf21
 v21 := Tryz.zeroValue21
 t46 := Tryz.underlying91
 a46 := Tryz.isAgg91
 z46 := Tryz.sizeOf91
 v46 := Tryz.zeroValue91
 t105 := Tryz.underlying113
 a105 := Tryz.isAgg113
 z105 := Tryz.sizeOf113
 v105 := Tryz.zeroValue113
 t119 := Tryz.underlying128
 a119 := Tryz.isAgg128
 z119 := Tryz.sizeOf128
 t138 := Tryz.underlying130
 a138 := Tryz.isAgg130
 z138 := Tryz.sizeOf130
 v138 := Tryz.zeroValue130
 t139 := Tryz.underlying131
 a139 := Tryz.isAgg131
 z139 := Tryz.sizeOf131
 v139 := Tryz.zeroValue131
 g3 := by kernel_rfl
 g4 := by kernel_rfl
}
theorem Tryz.uExtra : Builder.Extra Tryz.prog Tryz.uRen where
 sizeBuilder := by kernel_rfl
 liesBuilder := by kernel_rfl
 t5 := Tryz.underlying5
 a5 := Tryz.isAgg5
 z5 := Tryz.sizeOf5
 v5 := Tryz.zeroValue5
 infoByte := by kernel_rfl
 cellsByte := by kernel_rfl
 sizeByte := by kernel_rfl
 neB5 := by decide
end Go.Proofs
namespace Go.Proofs
open Go.RowKit Go.Shelf
attribute [local go_sem] Oper.semAt_some
theorem uB_kept {T e : TypeId} {B b k : Nat} {bs : List Value} {W W' : World} {o : Obj} (h : Lib.IsBuilderF T e B b bs W) (hg : W.grownBy W' (some k)) (hk : k ≠ b) (ho : W.heap[k]? = some o) (hx : ∀ c fz, o ≠ .cells c e fz) : Lib.IsBuilderF T e B b bs W' := by
 have one : ∀ p, Lib.BuilderAtF T e B b p bs W → Lib.BuilderAtF T e B b p bs W' := fun p h => by
  have hlt := h.lt
  obtain ⟨hB, v, hb, hown, hne⟩ := h
  have hv : v.ownBlock ≠ some k := fun hv => by
   obtain ⟨c, fz, hc⟩ := Lib.ownsRowF_kind hown k hv
   rw [ho] at hc
   exact hx c fz (Option.some.inj hc)
  exact ⟨hB, v, (hg.block b hlt (fun e => hk (Option.some.inj e).symm)).trans hb, hown.kept hg (Or.inr hv), hne⟩
 exact h.elim (fun x => .inl (one _ x)) (fun x => .inr (one _ x))
theorem uEach (s : ByteArray) (w : World) : CallsIn Fence.wide 3 Tryz.prog 61 #[.string s] w fun e w' => e = .returned (.func (.func 92) #[] #[.pointer (some ⟨w.heap.size, 0, none⟩)]) ∧ w' = w.alloc (.cells #[.string s] 9) := by
 refine callsIn_of_wp Tryz.func61 rfl trivial ?_ rfl
 simp only [Tryz.ntmps61, List.size_toArray, List.length_cons, List.length_nil, Nat.reduceAdd, Nat.reduceSub, Array.replicate_succ, Array.replicate_zero, List.push_toArray, List.append_toArray, List.nil_append, List.cons_append]
 gi_wp2
 go_ret
 exact ⟨rfl, rfl⟩
theorem decGo_le (t : ByteArray) : (Lib.decodeGo t).1 ≤ 1114111 := by
 unfold Lib.decodeGo
 split
 · show 65533 ≤ 1114111; omega
 · exact Lib.rune_le t 0
def decC (t : ByteArray) : Int := if (Lib.decodeGo t).1 = 65533 ∧ (Lib.decodeGo t).2 < 2 then -1 else (Lib.decodeGo t).1
def DecAt (W : World) (t : ByteArray) : Prop := Calls Tryz.prog 109 #[.string t] W fun e W' => e = .returned (.tuple #[.int .i32 (Lib.decodeGo t).1, .int .i64 (Lib.decodeGo t).2]) ∧ Below W.heap.size W W'
theorem uDecode (t : ByteArray) (W : World) (hd : DecAt W t) : CallsIn Fence.wide 2 Tryz.prog 93 #[.string t] W fun e W' => e = .returned (.tuple #[.int .i64 (decC t), .int .i64 (Lib.decodeGo t).2]) ∧ Below W.heap.size W W' := by
 refine callsIn_of_wp Tryz.func93 rfl trivial ?_ rfl
 simp only [Tryz.ntmps93, List.size_toArray, List.length_cons, List.length_nil, Nat.reduceAdd, Nat.reduceSub, Array.replicate_succ, Array.replicate_zero, List.push_toArray, List.append_toArray, List.nil_append, List.cons_append]
 unfold DecAt at hd
 generalize hx : ((Lib.decodeGo t).1 : Int) = x at hd
 generalize hy : ((Lib.decodeGo t).2 : Int) = y at hd ⊢
 have hC : decC t = if x = 65533 ∧ y < 2 then -1 else x := by unfold decC; rw [← hx, ← hy]; congr 1; simp only [eq_iff_iff]; omega
 rw [hC]
 by_cases h1 : x = 65533
 · by_cases h2 : y < 2
   · rw [if_pos ⟨h1, h2⟩]
     subst h1
     gi_wp2_with (refine ⟨trivial, ?_⟩; gi_at_call 109; refine (callsIn_wide.2 hd).mono ?_; rintro e W1 ⟨rfl, hb⟩)
     gi_wp2
     go_ret2
     exact ⟨rfl, hb⟩
   · rw [if_neg (fun h => h2 h.2)]
     subst h1
     gi_wp2_with (refine ⟨trivial, ?_⟩; gi_at_call 109; refine (callsIn_wide.2 hd).mono ?_; rintro e W1 ⟨rfl, hb⟩)
     gi_wp2
     go_ret2
     exact ⟨rfl, hb⟩
 · rw [if_neg (fun h => h1 h.1)]
   gi_wp2_with (refine ⟨trivial, ?_⟩; gi_at_call 109; refine (callsIn_wide.2 hd).mono ?_; rintro e W1 ⟨rfl, hb⟩)
   gi_wp2
   go_ret2
   have hle := decGo_le t
   have hw : wrap64 x = x := by simp [wrap64]; omega
   exact ⟨by simp [hw], hb⟩
def repC (t : ByteArray) : Int := if (Lib.decodeGo t).1 = 0 then 65533 else (Lib.decodeGo t).1
def repF : Nat → ByteArray → Oc
 | 0, _ => []
 | m + 1, t => if t.size = 0 then [] else Lib.encodeRune (repC t) ++ repF m (t.extract (Lib.decodeGo t).2 t.size)
def chF : Nat → ByteArray → List Int
 | 0, _ => []
 | m + 1, t => if t.size = 0 then [] else repC t :: chF m (t.extract (Lib.decodeGo t).2 t.size)
theorem repF_ch : ∀ m t, repF m t = (chF m t).flatMap Lib.encodeRune
 | 0, _ => rfl
 | m + 1, t => by
  rw [repF, chF]
  split
  · rfl
  · rw [List.flatMap_cons, repF_ch m]
theorem enc_len (l : List Int) : (l.flatMap Lib.encodeRune).length ≤ 4 * l.length := by
 induction l with
 | nil => simp
 | cons c l ih =>
  have hcl := (Lib.runeCells_le c).2
  rw [Lib.runeCells_length] at hcl
  rw [List.flatMap_cons, List.length_append, List.length_cons]
  omega
def strSz (W : World) (B : Nat) : Nat := match W.cell? ⟨B, 0, none⟩ with
 | some (.string t) => t.size
 | _ => 0
abbrev strO (t : ByteArray) : Obj := .cells #[.string t] 9 (0, 0)
set_option maxHeartbeats 1000000 in
theorem uEach1 (l Bs N : Nat) (J : List Int → World → Prop) (good : ByteArray → Prop) (hgood : ∀ t, good t → t.size ≠ 0 → good (t.extract (Lib.decodeGo t).2 t.size))
 (hdec : ∀ t W acc, good t → t.size ≠ 0 → J acc W → DecAt W t) (hJd : ∀ acc W W', J acc W → Below W.heap.size W W' → J acc W')
 (hJs : ∀ acc W t t', J acc W → W.heap[Bs]? = some (strO t) → J acc (W.setCell ⟨Bs, 0, none⟩ (.string t')))
 (hY : ∀ acc W c t, J acc W → W.heap[Bs]? = some (strO t) → acc.length ≤ N → 0 < c → c ≤ 1114111 → YieldAt Fence.wide 2 Tryz.prog l #[.int .i64 c] W fun e W' => e = .returned (.bool true) ∧ J (acc ++ [c]) W' ∧ W'.heap[Bs]? = some (strO t))
 (s : ByteArray) (W : World) (hBs : W.heap[Bs]? = some (strO s)) (hg : good s) (h0 : J [] W) (hs : s.size ≤ N) :
 CallsIn Fence.wide 3 Tryz.prog 92 #[.func (.yield l) #[] #[], .pointer (some ⟨Bs, 0, none⟩)] W fun e W' => (∃ v, e = .returned v) ∧ J (chF s.size s) W' := by
 refine callsIn_of_wp Tryz.func92 rfl trivial ?_ rfl
 simp only [Tryz.ntmps92, List.size_toArray, List.length_cons, List.length_nil, Nat.reduceAdd, Nat.reduceSub, Array.replicate_succ, Array.replicate_zero, List.push_toArray, List.append_toArray, List.nil_append, List.cons_append]
 gi_wp2
 gi_loopw [] (fun wr => ∃ (acc : List Int) (rest : ByteArray) (fuel : Nat), wr.heap[Bs]? = some (strO rest) ∧ J acc wr ∧ good rest ∧ acc ++ chF fuel rest = chF s.size s ∧ rest.size ≤ fuel ∧ acc.length + rest.size ≤ s.size)
  (fun wr => strSz wr Bs)
 case atStart =>
  exact ⟨[], s, s.size, hBs, h0, hg, rfl, Nat.le_refl _, by simp⟩
 case round =>
  obtain ⟨acc, rest, fuel, hb, hJ, hgr, hacc, hfu, hlen⟩ := hrel
  have hcell : wr.cell? ⟨Bs, 0, none⟩ = some (.string rest) := by simp [World.cell?, hb]
  have hfr : wr.frozen? ⟨Bs, 0, none⟩ = false := by simp [World.frozen?, hb]
  by_cases hz : rest.size = 0
  · obtain rfl : rest = ⟨#[]⟩ := ByteArray.ext (Array.eq_empty_of_size_eq_zero hz)
    have hrr : acc = chF s.size s := by
     rw [← hacc]
     cases fuel with
     | zero => rw [chF, List.append_nil]
     | succ m => rw [chF, if_pos hz, List.append_nil]
    gi_wp2
    go_end0
    exact ⟨⟨_, rfl⟩, by rw [← hrr]; exact hJ⟩
  · have hemp : rest.toList.isEmpty = false := by
     rw [Go.ByteArray.toList_eq]
     cases hr : rest.data.toList with
     | cons c t => rfl
     | nil =>
      exfalso; apply hz
      show rest.data.size = 0
      rw [← Array.length_toList, hr]; rfl
    have hpos : 0 < rest.size := Nat.pos_of_ne_zero hz
    have hdG : Lib.decodeGo rest = Utf8.decode rest 0 := by unfold Lib.decodeGo; rw [if_neg hz]
    have hw1 : 1 ≤ (Utf8.decode rest 0).2 := Lib.width_pos rest 0
    have hw2 : (Utf8.decode rest 0).2 ≤ rest.size := Lib.width_le rest hpos
    have hr1 := decGo_le rest
    obtain ⟨f, rfl⟩ : ∃ f, fuel = f + 1 := ⟨fuel - 1, by omega⟩
    have hsz : (rest.extract (Utf8.decode rest 0).2 rest.size).size = rest.size - (Utf8.decode rest 0).2 := by simp
    have hg2 := hgood rest hgr hz
    rw [chF, if_neg hz] at hacc
    rw [hdG] at hacc hg2
    have h1 : 1 ≤ (3 : Nat) - 1 := by omega
    have hblt : Bs < wr.heap.size := (Array.getElem?_eq_some_iff.1 hb).1
    have hmu : strSz wr Bs = rest.size := by unfold strSz; rw [hcell]
    by_cases hc : decC rest ≤ 0
    · have hC : repC rest = 65533 := by
       unfold decC at hc; unfold repC
       split at hc
       · rename_i h; rw [h.1]; rfl
       · rw [if_pos (by omega)]
      rw [hC] at hacc
      gi_wp2_with (refine ⟨trivial, ?_⟩; gi_at_call 93; refine (uDecode rest wr (hdec rest wr acc hgr hz hJ)).mono ?_; rintro e W2 ⟨rfl, hb2⟩; obtain ⟨fn, tmps, assign, body, hy, hR⟩ := hY acc W2 65533 rest (hJd _ _ _ hJ hb2) ((hb2.block Bs hblt).trans hb) (by omega) (by omega) (by omega))
      refine hR.mono ?_
      rintro e W3 ⟨rfl, hJ3, hb3⟩
      have hcell3 : W3.cell? ⟨Bs, 0, none⟩ = some (.string rest) := by simp [World.cell?, hb3]
      have hfr3 : W3.frozen? ⟨Bs, 0, none⟩ = false := by simp [World.frozen?, hb3]
      have hnew : ∀ t', (W3.setCell ⟨Bs, 0, none⟩ (.string t')).heap[Bs]? = some (strO t') := fun t' => by simp [World.setCell, Array.getElem?_modify, hb3]
      have hcn : ∀ t', strSz (W3.setCell ⟨Bs, 0, none⟩ (.string t')) Bs = t'.size := fun t' => by unfold strSz World.cell?; rw [hnew]; rfl
      gi_wp2
      refine ⟨⟨acc ++ [65533], _, f, hnew _, hJs _ _ _ _ hJ3 hb3, hg2, by rw [List.append_assoc]; exact hacc, by omega, by rw [List.length_append, List.length_singleton]; omega⟩, ?_⟩
      rw [hcn, hmu]
      omega
    · have hC : repC rest = decC rest := by
       unfold decC at hc ⊢; unfold repC
       split at hc
       · omega
       · rename_i h; rw [if_neg h, if_neg (by omega)]
      have hC2 : decC rest ≤ 1114111 := by rw [← hC]; unfold repC; split <;> omega
      rw [hC] at hacc
      gi_wp2_with (refine ⟨trivial, ?_⟩; gi_at_call 93; refine (uDecode rest wr (hdec rest wr acc hgr hz hJ)).mono ?_; rintro e W2 ⟨rfl, hb2⟩; obtain ⟨fn, tmps, assign, body, hy, hR⟩ := hY acc W2 (decC rest) rest (hJd _ _ _ hJ hb2) ((hb2.block Bs hblt).trans hb) (by omega) (by omega) (by omega))
      refine hR.mono ?_
      rintro e W3 ⟨rfl, hJ3, hb3⟩
      have hcell3 : W3.cell? ⟨Bs, 0, none⟩ = some (.string rest) := by simp [World.cell?, hb3]
      have hfr3 : W3.frozen? ⟨Bs, 0, none⟩ = false := by simp [World.frozen?, hb3]
      have hnew : ∀ t', (W3.setCell ⟨Bs, 0, none⟩ (.string t')).heap[Bs]? = some (strO t') := fun t' => by simp [World.setCell, Array.getElem?_modify, hb3]
      have hcn : ∀ t', strSz (W3.setCell ⟨Bs, 0, none⟩ (.string t')) Bs = t'.size := fun t' => by unfold strSz World.cell?; rw [hnew]; rfl
      gi_wp2
      refine ⟨⟨acc ++ [decC rest], _, f, hnew _, hJs _ _ _ _ hJ3 hb3, hg2, by rw [List.append_assoc]; exact hacc, by omega, by rw [List.length_append, List.length_singleton]; omega⟩, ?_⟩
      rw [hcn, hmu]
      omega
theorem wpIn_eachU {g : Operand} {ps : Array Tmp} {assign body : Code} {Q : Exit → Act → World → Prop} {a : Act} {w : World} (Bs : Nat) (hg : a.eval g = .func (.func 92) #[] #[.pointer (some ⟨Bs, 0, none⟩)]) (hps : ps.size = 1)
 (good : ByteArray → Prop) (hgood : ∀ t, good t → t.size ≠ 0 → good (t.extract (Lib.decodeGo t).2 t.size)) (s : ByteArray) (hgs : good s) (hBs : w.heap[Bs]? = some (strO s))
 (I : List Int → World → Prop) (hdec : ∀ t W acc, good t → t.size ≠ 0 → I acc W → DecAt W t) (hId : ∀ acc A B, I acc A → Below A.heap.size A B → I acc B)
 (hIs : ∀ acc A t t', I acc A → A.heap[Bs]? = some (strO t) → I acc (A.setCell ⟨Bs, 0, none⟩ (.string t')))
 (hIp : ∀ acc A l r r', I acc A → w.heap.size ≤ l → A.heap[l]? = some (.loop r) → I acc (A.putObj l (.loop r'))) (h0 : I [] w) (a₁ : Int → Act)
 (hassign : ∀ (l : Nat) (c : Int) (W : World) (K : Act → World → Prop), K (a₁ c) W → assign.wpIn (Fence.wide.inRound l) 2 Tryz.prog (Exit.then K (fun _ _ _ => False)) { tmps := (ps.zip #[Value.int .i64 c]).foldl (fun t (p, v) => t.setIfInBounds p v) a.tmps, defers := [] } W)
 (hbody : ∀ (l : Nat) (acc : List Int) (c : Int) (W : World), I acc W → acc.length ≤ s.size → 0 < c → c ≤ 1114111 → body.wpIn (Fence.wide.inRound l) 2 Tryz.prog
  (fun e _ W' => e = .normal ∧ I (acc ++ [c]) W' ∧ (∀ t, W.heap[Bs]? = some (strO t) → W'.heap[Bs]? = some (strO t)) ∧ ∀ k o, w.heap.size ≤ k → W.heap[k]? = some o → o.isCells = false → W'.heap[k]? = some o) (a₁ c) W)
 (hdone : ∀ (D : Nat) (W : World), w.heap.size ≤ D → I (chF s.size s) W → W.heap[D]? = some (.deferred (some [])) → Q .normal { a with defers := { target := .collected D, args := #[] } :: a.defers } W) :
 (Code.rangeFunc g ps assign body).wpIn Fence.wide 4 Tryz.prog Q a w := by
 refine wpIn_rangeFunc ?_
 intro fn hfn
 have hBlt : Bs < w.heap.size := (Array.getElem?_eq_some_iff.1 hBs).1
 have hro : Fence.wide.round = none := rfl
 rw [hro]
 obtain ⟨rec, hrec⟩ : ∃ rec : LoopState → Option Code → Loop, rec = fun st pe => { state := st, pending := pe, fn, tmps := a.tmps, params := ps, assign, body, defers := w.heap.size } := ⟨_, rfl⟩
 obtain ⟨W1, hW1⟩ : ∃ W1, (w.alloc (.deferred (some []))).alloc (.loop (rec .ready none)) = W1 := ⟨_, rfl⟩
 have hL1 : W1.heap[w.heap.size + 1]? = some (.loop (rec .ready none)) := by
  rw [← hW1]; have := World.alloc_heap_new (w.alloc (.deferred (some []))) (.loop (rec .ready none)); rwa [World.size_alloc] at this
 have hK1 : W1.heap[w.heap.size]? = some (.deferred (some [])) := by
  rw [← hW1]; exact (Below.heap_alloc _ _ _ (by simp)).trans (World.alloc_heap_new w _)
 have hb1 : Below w.heap.size w W1 := by
  rw [← hW1]; exact ((Below.refl _ w).alloc (Nat.le_refl _) _).alloc (by simp) _
 have hI1 : I [] W1 := hId _ _ _ h0 hb1
 have hBs1 : W1.heap[Bs]? = some (strO s) := (hb1.block Bs hBlt).trans hBs
 have eg := enters_of (P := Tryz.prog) Tryz.func92 (by kernel_rfl) rfl
 refine ⟨w.heap.size + 1, [{ target := .collected w.heap.size, args := #[] }], W1, { target := .fn (.func 92) #[.pointer (some ⟨Bs, 0, none⟩)], args := #[.func (.yield (w.heap.size + 1)) #[] #[]] }, W1, 92,
  #[.func (.yield (w.heap.size + 1)) #[] #[], .pointer (some ⟨Bs, 0, none⟩)], W1, ?_, ?_, ?_, ?_, fun _ => by omega, ?_⟩
 · rw [← hW1, hrec]; exact run_enterLoop_outer _ _ _ _ _
 · simp only [resolve, hg]
   simp [go_sem]
 · intro f' hf'; trivial
 · simp [invoke, go_sem, eg]
 · refine (uEach1 (w.heap.size + 1) Bs s.size (fun acc W => I acc W ∧ W.heap[w.heap.size + 1]? = some (.loop (rec .ready none)) ∧ W.heap[w.heap.size]? = some (.deferred (some []))) good hgood (fun t W acc hgt h0 hJ => hdec t W acc hgt h0 hJ.1)
    (fun acc A B hJ hb => ⟨hId _ _ _ hJ.1 hb, (hb.block _ (Array.getElem?_eq_some_iff.1 hJ.2.1).1).trans hJ.2.1, (hb.block _ (Array.getElem?_eq_some_iff.1 hJ.2.2).1).trans hJ.2.2⟩)
    (fun acc A t t' hJ hA => ⟨hIs _ _ _ _ hJ.1 hA, (Below.heap_setCell _ _ _ _ (by show w.heap.size + 1 ≠ Bs; omega)).trans hJ.2.1, (Below.heap_setCell _ _ _ _ (by show w.heap.size ≠ Bs; omega)).trans hJ.2.2⟩)
    ?_ s W1 hBs1 hgs ⟨hI1, hL1, hK1⟩ (Nat.le_refl _)).mono ?_
   · rintro acc W c t ⟨hi, hl, hk⟩ hbt hlen hc0 hc1
     have hlt : w.heap.size + 1 < W.heap.size := (Array.getElem?_eq_some_iff.1 hl).1
     have hy := run_yield (P := Tryz.prog) (args := #[Value.int .i64 c]) hl (by rw [hrec]; exact hps.symm)
     rw [hrec] at hy
     refine ⟨fn, _, assign, body, hy, roundIn_of_wpIn trivial (hassign _ c W _ ⟨_, run_beginRound hl (by rw [hrec]), ?_⟩)⟩
     have hl2 : (W.putObj (w.heap.size + 1) (.loop { rec .ready none with state := .busy })).heap[w.heap.size + 1]? = some (.loop { rec .ready none with state := .busy }) := World.putObj_heap_same hlt
     have hk2 : (W.putObj (w.heap.size + 1) (.loop { rec .ready none with state := .busy })).heap[w.heap.size]? = some (.deferred (some [])) := (World.putObj_heap_other (by omega)).trans hk
     have hb2 : (W.putObj (w.heap.size + 1) (.loop { rec .ready none with state := .busy })).heap[Bs]? = some (strO t) := (World.putObj_heap_other (by omega)).trans hbt
     refine wpIn_mono (hbody _ acc c _ (hIp _ _ _ _ _ hi (by omega) hl) hlen hc0 hc1) ?_
     rintro e a3 W3 ⟨rfl, hi3, hb3, hoth⟩
     have hl3 := hoth _ _ (by omega) hl2 rfl
     have hk3 := hoth _ _ (Nat.le_refl _) hk2 rfl
     have hr := run_endRound (P := Tryz.prog) none hl3
     refine ⟨_, _, hr, rfl, ⟨hIp _ _ _ _ _ hi3 (by omega) hl3, ?_, (World.putObj_heap_other (by omega)).trans hk3⟩, (World.putObj_heap_other (by omega)).trans (hb3 t hb2)⟩
     rw [World.putObj_heap_same (Array.getElem?_eq_some_iff.1 hl3).1, hrec]
     rfl
   · rintro e W2 ⟨⟨v, rfl⟩, hi, hl, hk⟩
     refine ⟨none, _, run_endLoop (P := Tryz.prog) hl (by rw [hrec]; simp) |>.trans (by rw [hrec]), hdone _ _ (Nat.le_refl _) (hIp _ _ _ _ _ hi (by omega) hl) ((World.putObj_heap_other (by omega)).trans hk)⟩
set_option maxHeartbeats 2000000 in
theorem uRepair (good : ByteArray → Prop) (hgood : ∀ t, good t → t.size ≠ 0 → good (t.extract (Lib.decodeGo t).2 t.size)) (s : ByteArray) (w : World) (hg : good s) (hs : s.size ≤ 17592186044416)
 (hdec : ∀ t W, good t → t.size ≠ 0 → Below w.heap.size w W → DecAt W t) :
 Calls Tryz.prog 30 #[.string s] w fun e w' => e = .returned (.string ⟨(repF s.size s).toArray⟩) ∧ Below w.heap.size w w' := by
 rw [repF_ch]
 refine (callsIn_wide (n := 4)).1 ?_
 refine callsIn_of_wp_marks Tryz.func30 rfl trivial ?_ rfl
 simp only [Tryz.ntmps30, List.size_toArray, List.length_cons, List.length_nil, Nat.reduceAdd, Nat.reduceSub, Array.replicate_succ, Array.replicate_zero, List.push_toArray, List.append_toArray, List.nil_append, List.cons_append]
 gi_wp2_with (refine ⟨trivial, ?_⟩; gi_at_call 61; refine (uEach s _).mono ?_; rintro e w' ⟨rfl, rfl⟩)
 obtain ⟨w0, hw0⟩ : ∃ w0, (w.alloc (Obj.cells #[Value.pointer none, Value.slice none 0 0] 55)).alloc (Obj.cells #[Value.string s] 9) = w0 := ⟨_, rfl⟩
 rw [hw0]
 have hsz0 : w0.heap.size = w.heap.size + 2 := by rw [← hw0]; simp
 have hBs0 : w0.heap[w.heap.size + 1]? = some (strO s) := by
  rw [← hw0]
  have := World.alloc_heap_new (w.alloc (Obj.cells #[Value.pointer none, Value.slice none 0 0] 55)) (strO s)
  rwa [World.size_alloc] at this
 have hb0 : Below w.heap.size w w0 := by rw [← hw0]; exact ((Below.refl _ w).alloc (Nat.le_refl _) _).alloc (by simp) _
 have hI0 : Lib.IsBuilderF 55 5 w.heap.size w.heap.size (Lib.byteCells []) w0 := by
  rw [← hw0]
  exact (Lib.IsBuilderF.of (Lib.fresh_isBuilder 55 5 w)).alloc _
 refine wpIn_eachU (w.heap.size + 1) rfl rfl good hgood s hg hBs0 (fun acc W => Lib.IsBuilderF 55 5 w.heap.size w.heap.size (Lib.byteCells (acc.flatMap Lib.encodeRune)) W ∧ Below w.heap.size w W) (fun t W acc hgt h0 hJ => hdec t W hgt h0 hJ.2)
  (fun acc A B hJ hb => ⟨hJ.1.below hb, hJ.2.trans (hb.mono hJ.2.size)⟩)
  (fun acc A t t' hJ hA => ⟨uB_kept hJ.1 (k := w.heap.size + 1) ⟨rfl, rfl, rfl, by simp [World.setCell], fun k _ hk => Below.heap_setCell _ _ _ _ (fun e => hk (by simp [e]))⟩ (by omega) hA (fun c fz h => by cases h), hJ.2.setCell (p := ⟨w.heap.size + 1, 0, none⟩) (by show w.heap.size ≤ w.heap.size + 1; omega) _⟩)
  (fun acc A l r r' hJ hl hA => ⟨uB_kept hJ.1 (grownBy_putObj' A l _) (by omega) hA (fun c fz h => by cases h), hJ.2.grown (grownBy_putObj' A l _) hJ.2.size (fun k e => by cases e; omega)⟩)
  ⟨hI0, hb0⟩ (fun c => { tmps := #[.string s, undef, .string ⟨#[]⟩, .pointer (some ⟨w.heap.size, 0, none⟩), .int .i64 c, .string s, .func (.func 92) #[] #[.pointer (some ⟨w.heap.size + 1, 0, none⟩)], .int .i64 c, undef, undef, undef, undef], defers := [] }) ?assign ?body ?done
 case assign =>
  intro l c W K hK
  gi_wp2
  exact hK
 case body =>
  rintro l acc c W ⟨hi, hb⟩ hlen hc0 hc1
  have hsz : w.heap.size ≤ W.heap.size := hb.size
  have hd : 1 ≤ (2 : Nat) - 1 := by omega
  gi_wp2_with (refine ⟨trivial, ?_⟩; gi_at_call 62; refine (CallsIn.inRound l (callsIn_wide.2 (Any.Builder_WriteRune_k Tryz.uRen_168 Tryz.uExtra w.heap.size w.heap.size _ c (by omega) (by omega) W hi (by rw [Lib.byteCells_length]; have := enc_len acc; omega) hsz))).mono ?_; rintro e W1 ⟨rfl, h1, b1, k1⟩)
  refine ⟨⟨by rw [Lib.byteCells_append (acc.flatMap Lib.encodeRune), Lib.byteCells_encodeRune]; exact .inr h1, hb.trans b1⟩, fun t ht => k1 _ _ ht (by simp) (fun c fz h => by cases h), fun k o hk ho hc => k1 _ _ ho (by simp; omega) (fun c fz h => by subst h; cases hc)⟩
 case done =>
  rintro D W hD ⟨hi, hb⟩ hK
  gi_wp2_with (refine ⟨trivial, ?_⟩; gi_at_call 51; refine (callsIn_wide.2 (Any.Builder_String_any_k Tryz.uRen_169 Tryz.uExtra w.heap.size w.heap.size _ W hi hb.size)).mono ?_; rintro e W1 ⟨rfl, _, b1, k1⟩)
  have hK1 := k1 D _ hK (by simp; omega) (fun c fz h => by cases h)
  refine ⟨by simp, .inl ⟨_, _, rfl, run_takeDeferred hK1, ?_⟩⟩
  refine ⟨_, results_tmp rfl _ _ _, rfl, ?_⟩
  exact (hb.trans b1).grown (grownBy_putObj' W1 D _) (hb.trans b1).size (fun k e => by cases e; omega)
def asciiB (t : ByteArray) : Prop := ∀ b ∈ t.data.toList, b.toNat < 128
theorem dec_cons (c : UInt8) (l : Oc) (h : c.toNat < 128) : Lib.decodeGo ⟨(c :: l).toArray⟩ = (c.toNat, 1) := by
 have hsz : (⟨(c :: l).toArray⟩ : ByteArray).size = l.length + 1 := by simp [ByteArray.size]
 have hp : 0 < (⟨(c :: l).toArray⟩ : ByteArray).size := by omega
 have hx : (⟨(c :: l).toArray⟩ : ByteArray)[0]'hp = c := rfl
 unfold Lib.decodeGo
 rw [if_neg (by omega), decode_ascii _ 0 hp (by rw [hx]; exact h), hx]
theorem ext_cons (c : UInt8) (l : Oc) : (⟨(c :: l).toArray⟩ : ByteArray).extract 1 (⟨(c :: l).toArray⟩ : ByteArray).size = ⟨l.toArray⟩ := by
 apply ByteArray.ext
 rw [ByteArray.data_extract]
 apply Array.ext'
 simp [ByteArray.size]
theorem uB_list (t : ByteArray) : ∃ l : Oc, t = ⟨l.toArray⟩ ∧ l = t.data.toList := ⟨t.data.toList, by cases t; rfl, rfl⟩
theorem ascii_step : ∀ t, asciiB t → t.size ≠ 0 → asciiB (t.extract (Lib.decodeGo t).2 t.size) := fun t h hz => by
 obtain ⟨l, rfl, _⟩ := uB_list t
 cases l with
 | nil => exact absurd rfl hz
 | cons c l =>
  have hc : c.toNat < 128 := h c (by simp)
  rw [dec_cons c l hc, ext_cons]
  exact fun b hb => h b (by simp at hb ⊢; exact .inr hb)
theorem ascii_dec (t : ByteArray) (W : World) (h : asciiB t) (hz : t.size ≠ 0) : DecAt W t := by
 obtain ⟨l, rfl, _⟩ := uB_list t
 cases l with
 | nil => exact absurd rfl hz
 | cons c l =>
  have hc : c.toNat < 128 := h c (by simp)
  unfold DecAt
  rw [dec_cons c l hc]
  exact (Any.utf8_DecodeRuneInString_ascii Tryz.uRen_197 ⟨(c :: l).toArray⟩ c W rfl hc).mono fun e w' ⟨he, hw⟩ => ⟨he, by rw [hw]; exact Below.refl _ _⟩
theorem repF_ascii : ∀ (l : Oc) (m : Nat), l.length ≤ m → (∀ c ∈ l, 1 ≤ c.toNat ∧ c.toNat < 128) → repF m ⟨l.toArray⟩ = l
 | [], m, _, _ => by
  cases m with
  | zero => rfl
  | succ m => rw [repF, if_pos (by rfl)]
 | c :: l, m, hm, h => by
  obtain ⟨m, rfl⟩ : ∃ q, m = q + 1 := ⟨m - 1, by rw [List.length_cons] at hm; omega⟩
  obtain ⟨h1, h2⟩ := h c (by simp)
  have hsz : (⟨(c :: l).toArray⟩ : ByteArray).size = l.length + 1 := by simp [ByteArray.size]
  have ih := repF_ascii l m (by rw [List.length_cons] at hm; omega) (fun d hd => h d (by simp [hd]))
  rw [repF, if_neg (by omega), dec_cons c l h2, ext_cons, ih]
  have hC : repC ⟨(c :: l).toArray⟩ = (c.toNat : Int) := by unfold repC; rw [dec_cons c l h2, if_neg (by show c.toNat ≠ 0; omega)]
  rw [hC]
  unfold Lib.encodeRune
  rw [Lib.encodeRuneZ_one (by omega) (by omega)]
  show [((c.toNat : Int)).toNat.toUInt8] ++ l = c :: l
  rw [Int.toNat_natCast]
  show [UInt8.ofNat c.toNat] ++ l = _
  rw [UInt8.ofNat_toNat]; rfl
theorem uRepairA (s : Oc) (w : World) (h : ∀ c ∈ s, 1 ≤ c.toNat ∧ c.toNat < 128) (hs : s.length ≤ 17592186044416) :
 Calls Tryz.prog 30 #[.string ⟨s.toArray⟩] w fun e w' => e = .returned (.string ⟨s.toArray⟩) ∧ Below w.heap.size w w' := by
 have hsz : (⟨s.toArray⟩ : ByteArray).size = s.length := by simp [ByteArray.size]
 refine (uRepair asciiB ascii_step ⟨s.toArray⟩ w (fun b hb => (h b (by simpa using hb)).2) (by omega) (fun t W hg hz _ => ascii_dec t W hg hz)).mono fun e w' ⟨he, hb⟩ => ⟨?_, hb⟩
 rw [he, repF_ascii s _ (by omega) h]
end Go.Proofs
namespace Go.Proofs
open Go.RowKit Go.Maps Go.Shelf
attribute [local go_sem] Oper.semAt_some
end Go.Proofs
namespace Go.Mu
open Go Go.Proofs
def blk (c : UInt8) : Bool := c == 32 || c == 9 || c == 10 || c == 12 || c == 13
def blSet : List AVal := (List.range 256).map fun i => .bool (blk (UInt8.ofNat i))
def trimL (s : Oc) : Oc := s.dropWhile blk
def trimR (s : Oc) : Oc := (s.reverse.dropWhile blk).reverse
abbrev blCs : Oc := [32, 9, 10, 12, 13]
abbrev atB (cs : List AVal) (c : UInt8) : AVal := cs.getD (0 + (c.toNat : Int).toNat * 1 + 0) .undef
theorem atB_eq (c : UInt8) : atB blSet c = .bool (blk c) := by
 unfold atB blSet
 have hc := c.toNat_lt
 simp [List.getD_eq_getElem?_getD, List.getElem?_map, List.getElem?_range hc]
theorem tl_step (s : Oc) (cs : List AVal) (D : Dfs) (k : Kont) : lturn Tryz.prog Lay.nil {} 116 1 [0,1] [] [0] [] (stL 16 [0,1] [.str s, .ptr (.hp 0) 0] [] [] [.var cs] D) k =
 cond (decide ((s.length : Int) > 0)) (cond (decide (0 < (s.length : Int))) (cond (decide (((s.getD 0 0).toNat : Int) < 256)) (cond (decide (0 + ((s.getD 0 0).toNat : Int).toNat * 1 + 1 ≤ cs.length) && isBool (atB cs (s.getD 0 0)))
  (cond (!boolOf (atB cs (s.getD 0 0))) (k (.exit 0) (stL 16 [0] [.str s] [] [] [.var cs] D))
   (cond (decide (1 ≤ (s.length : Int)) && decide ((s.length : Int) ≤ (s.length : Int))) (k .normal (stL 16 [0,1] [.str ((s.take (s.length : Int).toNat).drop 1), .ptr (.hp 0) 0] [] [] [.var cs] D)) none)) none) none) none)
  (k (.exit 0) (stL 16 [0] [.str s] [] [] [.var cs] D)) := by kernel_rfl
abbrev lst (s : Oc) : UInt8 := s.getD (IntKind.i64.wrap ((s.length : Int) - 1)).toNat 0
theorem tr_step (s : Oc) (cs : List AVal) (D : Dfs) (k : Kont) : lturn Tryz.prog Lay.nil {} 117 1 [0,1] [] [0] [] (stL 22 [0,1] [.str s, .ptr (.hp 0) 0] [] [] [.var cs] D) k =
 cond (decide ((s.length : Int) > 0)) (cond (decide (0 ≤ IntKind.i64.wrap ((s.length : Int) - 1)) && decide (IntKind.i64.wrap ((s.length : Int) - 1) < (s.length : Int))) (cond (decide (((lst s).toNat : Int) < 256)) (cond (decide (0 + ((lst s).toNat : Int).toNat * 1 + 1 ≤ cs.length) && isBool (atB cs (lst s)))
  (cond (!boolOf (atB cs (lst s))) (k (.exit 0) (stL 22 [0] [.str s] [] [] [.var cs] D))
   (cond (decide (0 ≤ IntKind.i64.wrap ((s.length : Int) - 1)) && decide (IntKind.i64.wrap ((s.length : Int) - 1) ≤ (s.length : Int))) (k .normal (stL 22 [0,1] [.str (s.take (IntKind.i64.wrap ((s.length : Int) - 1)).toNat), .ptr (.hp 0) 0] [] [] [.var cs] D)) none)) none) none) none)
  (k (.exit 0) (stL 22 [0] [.str s] [] [] [.var cs] D)) := by kernel_rfl
noncomputable def trimSp (f : Oc → Oc) : LSp := mkL (fun vs _ _ => aS vs 0) (fun s => s.length ≤ 1099511627776) (fun s => [.str s, .ptr (.hp 0) 0]) (fun _ => []) (fun _ => [.var blSet]) (fun s k => k (.exit 0) [.str (f s)] [] [.var blSet])
theorem blSet_len : blSet.length = 256 := by simp [blSet]
theorem tl_ok : SpOK (lturn Tryz.prog Lay.nil {} 116 1 [0,1] [] [0] []) 16 [0,1] [] [0] [] (trimSp trimL) := by
 refine mkL_ok (fun s hs => ⟨_, _, _, _, fun k => rfl, ?_⟩)
 induction s with
 | nil => exact .stop (by simp) (fun D k => by rw [tl_step]; rfl)
 | cons c t ih =>
  have hc := c.toNat_lt
  simp only [List.length_cons] at hs
  have key := fun D k => tl_step (c :: t) blSet D k
  simp only [List.getD_cons_zero, atB_eq, blSet_len, List.length_cons] at key
  simp (disch := omega) only [dT, cond_true, isBool, boolOf, Bool.and_self, Bool.and_true, Int.toNat_natCast] at key
  cases hb : blk c with
  | true =>
   have e : trimL (c :: t) = trimL t := by simp [trimL, hb]
   have e2 : (c :: t).take (t.length + 1) = c :: t := List.take_length (l := c :: t)
   rw [e]
   exact .step (fun D k => by rw [key, hb, e2]; rfl) (ih (by omega))
  | false =>
   have e : trimL (c :: t) = c :: t := by simp [trimL, hb]
   rw [e]
   exact .stop (by simp) (fun D k => by rw [key, hb]; rfl)
theorem trimR_snoc (s : Oc) (c : UInt8) : trimR (s ++ [c]) = cond (blk c) (trimR s) (s ++ [c]) := by
 unfold trimR
 rw [List.reverse_append]
 simp only [List.reverse_cons, List.reverse_nil, List.nil_append, List.singleton_append, List.dropWhile_cons]
 cases blk c <;> simp
theorem tr_ok : SpOK (lturn Tryz.prog Lay.nil {} 117 1 [0,1] [] [0] []) 22 [0,1] [] [0] [] (trimSp trimR) := by
 refine mkL_ok (fun s hs => ⟨_, _, _, _, fun k => rfl, ?_⟩)
 generalize hn : s.length = n at hs
 induction n generalizing s with
 | zero =>
  have : s = [] := List.eq_nil_of_length_eq_zero hn
  subst this
  exact .stop (by simp) (fun D k => by rw [tr_step]; rfl)
 | succ n ih =>
  obtain ⟨t, c, rfl⟩ : ∃ t c, s = t ++ [c] := ⟨s.dropLast, s.getLast (by intro e; subst e; simp at hn), (List.dropLast_concat_getLast _).symm⟩
  have ht : t.length = n := by simpa using hn
  have hc := c.toNat_lt
  have ew : IntKind.i64.wrap (((n + 1 : Nat) : Int) - 1) = (n : Int) := by rw [wrap_of (by omega) (by omega)]; omega
  have el : (t ++ [c]).getD n 0 = c := by simp [List.getD_eq_getElem?_getD, ← ht]
  have e2 : (t ++ [c]).take n = t := by rw [← ht]; simp
  rw [trimR_snoc]
  have key := fun D k => tr_step (t ++ [c]) blSet D k
  simp only [lst, hn, ew, Int.toNat_natCast, el, atB_eq, blSet_len, e2] at key
  simp (disch := omega) only [dT, cond_true, isBool, boolOf, Bool.and_self, Bool.and_true] at key
  cases hb : blk c with
  | true => exact .step (fun D k => by rw [key, hb]; rfl) (ih t (by omega) (by omega))
  | false => exact .stop (by simp) (fun D k => by rw [key, hb]; rfl)
noncomputable def layT1 : Lay := (Lay.nil.addL 116 (.of [(1, loopSpec 16 [0,1] [] [0] [] (trimSp trimL))])).addL 117 (.of [(1, loopSpec 22 [0,1] [] [0] [] (trimSp trimR))])
theorem layT1_ok : layT1.OK Tryz.prog := by
 have h1 := Lay.nil_ok (P := Tryz.prog)
 have a : (Lay.nil.addL 116 (.of [(1, loopSpec 16 [0,1] [] [0] [] (trimSp trimL))])).OK Tryz.prog := h1.loop1 (id := 1) (by kernel_rfl) (by kernel_rfl) (by kernel_rfl) tl_ok
 refine Lay.OK.addL a (LOk.of _ (fun d hd sp' hsp => ?_))
 have e1 : loopsIn (codeOf Tryz.prog 117) = [loopAt 1 (codeOf Tryz.prog 117)] := by kernel_rfl
 have e3 : (FH.of [(1, loopSpec 22 [0,1] [] [0] [] (trimSp trimR))]).loops (firstRegion (loopAt 1 (codeOf Tryz.prog 117))) = some (loopSpec 22 [0,1] [] [0] [] (trimSp trimR)) := by kernel_rfl
 rw [e1, List.mem_singleton] at hd
 subst hd
 rw [e3, Option.some.injEq] at hsp
 subst hsp
 exact h1.told (LOk.of _ (fun d hd => by have e2 : loopsIn (loopAt 1 (codeOf Tryz.prog 117)) = [] := by kernel_rfl
                                         rw [e2] at hd; cases hd)) tr_ok
theorem set_eval (k : Out → Ans) : iAll Tryz.prog (hd (fun _ => none)) (fun _ => false) (fun f => match f with | 115 => { live := [(2, [0, 2, 4])] } | _ => {}) 60 20 115 [.str blCs] [] k = k (.ret (.tuple [.agg blSet, .bool true]) []) := by kernel_rfl
theorem noneTab_ok : HOK Tryz.prog (hd (fun _ => none)) := hd_ok (fun g s h => by simp at h)
theorem callOK_ev {spec : Hd} {known : FuncId → Bool} {fhs : FuncId → FH} {F n : Nat} {f : FuncId} {xs : List AVal} {H : Heap} {o : Out} (hs : HOK Tryz.prog spec) (hl : LoopsOK Tryz.prog fhs) (h : ∀ k, iAll Tryz.prog spec known fhs F n f xs H k = k o) : CallOK Tryz.prog f xs H o := by
 obtain ⟨o', h1, h2⟩ := mu_sound (known := known) hs hl F n f xs H some o (h some)
 cases h2
 exact h1
theorem set_ok : CallOK Tryz.prog 115 [.str blCs] [] (.ret (.tuple [.agg blSet, .bool true]) []) :=
 callOK_ev noneTab_ok (.none (fun g i => by split <;> rfl)) set_eval
noncomputable def setTold : FSp := mkF (fun _ _ => ()) (fun _ => True) (fun _ => [.str blCs]) (fun _ => []) (fun _ k => k (.ret (.tuple [.agg blSet, .bool true]) []))
noncomputable def layT2 : Lay := ((layT1.addF 115 setTold).addL 99 { heap := [5] })
theorem heap_ok {L : Lay} (h : L.OK Tryz.prog) {f : FuncId} {l : List Nat} (h0 : loopsIn (codeOf Tryz.prog f) = []) : (L.addL f { heap := l }).OK Tryz.prog := h.addL (LOk.of _ (fun d hd => by rw [h0] at hd; cases hd))
theorem layT2_ok : layT2.OK Tryz.prog :=
 heap_ok (layT1_ok.addF (mkF_ok fun _ _ => ⟨_, fun _ => rfl, set_ok⟩)) (by kernel_rfl)
noncomputable abbrev tS1 : Bool := tst (True ∧ SubL [.str blCs] [.str blCs] ∧ ([] : Heap) = [])
noncomputable abbrev tS2 (s : Oc) : Bool := tst (s.length ≤ 1099511627776 ∧ SubTL [.str s, .ptr (.hp 0) 0] [.str s, .ptr (.hp 0) 0] ∧ ([] : List (List AVal)) = [] ∧ [Obj.var blSet] = [Obj.var blSet])
theorem trim_fun (s : Oc) (k : Out → Ans) : iFun Tryz.prog (layT2.hd Tryz.prog) layT2.fhs 0 99 [.str s, .str blCs] [] k =
 cond (cond (s == []) true false) (k (.ret (.str s) [])) (cond tS1 (cond (tS2 s) (cond (tS2 (trimR s)) (k (.ret (.str (trimL (trimR s))) [.var blSet])) none) none) none) := by kernel_rfl
theorem tS2_true {s : Oc} (h : s.length ≤ 1099511627776) : tS2 s = true := tstL h
theorem tS1_true : tS1 = true := tst_true ⟨trivial, .refl _, rfl⟩
theorem trimR_len (s : Oc) : (trimR s).length ≤ s.length := by
 unfold trimR
 rw [List.length_reverse]
 have := (List.dropWhile_suffix (p := blk) (l := s.reverse)).length_le
 rwa [List.length_reverse] at this
def trimTold : FSp := mkFS [.s, .c blCs] (fun xs => decide ((aS xs 0).length ≤ 1099511627776)) (fun xs k => k (.ret (.str (trimL (trimR (aS xs 0)))) []))
theorem trimTold_ok : ∀ xs H k out, trimTold xs H k = some out → ∃ o, CallOK Tryz.prog 99 xs H o ∧ k o = some out := mkFS_ok fun ys xs e h => by
 obtain ⟨s, rfl⟩ : ∃ s, xs = [.str s, .str blCs] := ⟨_, e⟩
 replace h : s.length ≤ 1099511627776 := of_decide_eq_true h
 refine ⟨_, fun k => rfl, ?_⟩
 cases s with
 | nil => exact layT2_ok.callF rfl (fun k => by rw [trim_fun]; rfl)
 | cons c t => exact layT2_ok.callF rfl (fun k => by rw [trim_fun, tS1_true, tS2_true h, tS2_true (Nat.le_trans (trimR_len _) h)]; rfl)
end Go.Mu
namespace Go.Proofs
open Go.Shelf
def Tryz.idxRen : Ren := {
 f := fun x => match x with
  | 219 => 125
  | 217 => 96
  | 225 => 136
  | 224 => 137
  | 267 => 138
  | 266 => 112
  | 314 => 144
  | n => n,
 t := fun x => match x with
  | 9 => 9
  | 3 => 3
  | 4 => 4
  | 5 => 5
  | 46 => 91
  | 146 => 134
  | 51 => 115
  | n => n,
 g := fun x => match x with
  | 1 => 0
  | n => n }
theorem Tryz.idxLays : Lays.n219 Tryz.prog Tryz.idxRen := {
 mixed := by kernel_rfl
 f217 := Tryz.func96.trans (congrArg some (by kernel_rfl))
 f219 := Tryz.func125.trans (congrArg some (by kernel_rfl))
 f224 := Tryz.func137.trans (congrArg some (by kernel_rfl))
 f225 := Tryz.func136.trans (congrArg some (by kernel_rfl))
 f266 := Tryz.func112.trans (congrArg some (by kernel_rfl))
 f267 := Tryz.func138.trans (congrArg some (by kernel_rfl))
 f314 := Tryz.func144.trans (congrArg some (by kernel_rfl))
 t3 := Tryz.underlying3
 a3 := Tryz.isAgg3
 z3 := Tryz.sizeOf3
 v3 := Tryz.zeroValue3
 t4 := Tryz.underlying4
 a4 := Tryz.isAgg4
 z4 := Tryz.sizeOf4
 v4 := Tryz.zeroValue4
 t5 := Tryz.underlying5
 a5 := Tryz.isAgg5
 z5 := Tryz.sizeOf5
 v5 := Tryz.zeroValue5
 t9 := Tryz.underlying9
 a9 := Tryz.isAgg9
 z9 := Tryz.sizeOf9
 v9 := Tryz.zeroValue9
 t46 := Tryz.underlying91
 a46 := Tryz.isAgg91
 z46 := Tryz.sizeOf91
 v46 := Tryz.zeroValue91
 t51 := Tryz.underlying115
 a51 := Tryz.isAgg115
 z51 := Tryz.sizeOf115
 v51 := Tryz.zeroValue115
 t146 := Tryz.underlying134
 a146 := Tryz.isAgg134
 z146 := Tryz.sizeOf134
 v146 := Tryz.zeroValue134
 g1 := by kernel_rfl }
end Go.Proofs
namespace Go.Mu
open Go Go.Proofs
variable {P : Program}
theorem CallOK.same {f : FuncId} {xs : List AVal} {H : Heap} {v : AVal} (h : ∀ w E (cs : List Value), Sim w E H → cs.length = xs.length → (∀ j, j < xs.length → Rep w E H (xs.getD j .undef) (cs.getD j undef)) → ∃ c, Calls P f cs.toArray w (fun e w' => e = .returned c ∧ w' = w) ∧ Rep w E H v c) : CallOK P f xs H (.ret v H) := by
 intro w E cs sim hl hr
 obtain ⟨c, h1, h2⟩ := h w E cs sim hl hr
 refine Calls.mono h1 (fun e w' hp => ?_)
 obtain ⟨rfl, rfl⟩ := hp
 exact ⟨E, .refl, sim, h2⟩
theorem idx_ok (a b : Oc) (ha : a.length < 4294967281) : CallOK Tryz.prog 125 [.str a, .str b] [] (.ret (.int .i64 (Lib.index a b)) []) := by
 refine CallOK.same (fun w E cs sim hl hr => ?_)
 obtain ⟨x, y, rfl⟩ : ∃ x y, cs = [x, y] := by
  match cs, hl with
  | [x, y], _ => exact ⟨x, y, rfl⟩
 obtain ⟨s, e1, rfl⟩ := rep_str (hr 0 (by simp))
 obtain ⟨t, e2, rfl⟩ := rep_str (hr 1 (by simp))
 replace e1 : x = .string s := e1
 replace e2 : y = .string t := e2
 subst e1 e2
 obtain ⟨_, m, hm⟩ := sim.glob.1 0 .i64 (by rfl)
 exact ⟨_, Any.stringslite_Index Tryz.idxLays s t m w (by simpa using ha) hm, .pure _ _ (.int _ _)⟩
noncomputable def idxTold : FSp := fun xs H k => match xs, H with
 | [.str a, .str b], [] => cond (decide (a.length < 4294967281)) (k (.ret (.int .i64 (Lib.index a b)) [])) none
 | _, _ => none
theorem idxTold_ok (xs : List AVal) (H : Heap) (k : Out → Ans) (out : Out) (ho : idxTold xs H k = some out) : ∃ o, CallOK Tryz.prog 125 xs H o ∧ k o = some out := by
 unfold idxTold at ho
 split at ho
 · rw [Bool.cond_eq_ite] at ho
   split at ho
   · rename_i hc
     exact ⟨_, idx_ok _ _ (of_decide_eq_true hc), ho⟩
   · simp at ho
 · simp at ho
end Go.Mu
namespace Go.Mu
open Go Go.Proofs
theorem pre_fun (s t : Oc) (k : Out → Ans) : iFun Tryz.prog (Lay.nil.hd Tryz.prog) Lay.nil.fhs 0 72 [.str s, .str t] [] k =
 cond (decide ((t.length : Int) ≥ 0) && decide ((t.length : Int) ≤ s.length) || !decide ((s.length : Int) ≥ t.length)) (k (.ret (.bool (cond (decide ((s.length : Int) ≥ t.length)) ((s.take (t.length : Int).toNat).drop (0 : Int).toNat == t) false)) [])) none := by kernel_rfl
theorem pre2_fun (s t : Oc) (k : Out → Ans) : iFun Tryz.prog (Lay.nil.hd Tryz.prog) Lay.nil.fhs 0 100 [.str s, .str t] [] k =
 cond (decide ((t.length : Int) ≥ 0) && decide ((t.length : Int) ≤ s.length) || !decide ((s.length : Int) ≥ t.length)) (k (.ret (.bool (cond (decide ((s.length : Int) ≥ t.length)) ((s.take (t.length : Int).toNat).drop (0 : Int).toNat == t) false)) [])) none := by kernel_rfl
def preTold : FSp := mkFS [.s, .s] (fun _ => true) (fun xs k => k (.ret (.bool ((aS xs 1).isPrefixOf (aS xs 0))) []))
theorem pre_take (s t : Oc) : t.isPrefixOf s = (decide (t.length ≤ s.length) && (s.take t.length == t)) := by
 rw [Bool.eq_iff_iff]
 simp only [List.isPrefixOf_iff_prefix, Bool.and_eq_true, decide_eq_true_eq, beq_iff_eq]
 rw [List.prefix_iff_eq_take]
 constructor
 · intro h
   refine ⟨?_, h.symm⟩
   have := congrArg List.length h
   simp at this; omega
 · intro h; exact h.2.symm
theorem preTold_ok : ∀ xs H k out, preTold xs H k = some out → ∃ o, CallOK Tryz.prog 72 xs H o ∧ k o = some out := mkFS_ok fun ys xs e h => by
 obtain ⟨s, t, rfl⟩ : ∃ s t, xs = [.str s, .str t] := ⟨_, _, e⟩
 refine ⟨_, fun k => rfl, Lay.nil_ok.callF (G := []) rfl (fun k => ?_)⟩
 rw [pre_fun]
 show _ = k (.ret (.bool (t.isPrefixOf s)) [])
 rw [pre_take]
 simp (disch := omega) only [g2, cond_true, Int.toNat_natCast, Int.toNat_zero, List.drop_zero, bif_and]
 have : decide ((s.length : Int) ≥ t.length) = decide (t.length ≤ s.length) := by
  rw [Bool.eq_iff_iff]; simp
 rw [this]
theorem pre2Told_ok : ∀ xs H k out, preTold xs H k = some out → ∃ o, CallOK Tryz.prog 100 xs H o ∧ k o = some out := mkFS_ok fun ys xs e h => by
 obtain ⟨s, t, rfl⟩ : ∃ s t, xs = [.str s, .str t] := ⟨_, _, e⟩
 refine ⟨_, fun k => rfl, Lay.nil_ok.callF (G := []) rfl (fun k => ?_)⟩
 rw [pre2_fun]
 show _ = k (.ret (.bool (t.isPrefixOf s)) [])
 rw [pre_take]
 simp (disch := omega) only [g2, cond_true, Int.toNat_natCast, Int.toNat_zero, List.drop_zero, bif_and]
 have : decide ((s.length : Int) ≥ t.length) = decide (t.length ≤ s.length) := by
  rw [Bool.eq_iff_iff]; simp
 rw [this]
def trimsA (s : Oc) : Bool := decide (1 < s.length) && s.getD 0 0 == 45 && blk (s.getD 1 0)
theorem hA (u : Oc) : (decide ((u.length : Int) > 1) && u.getD 0 0 == 45 && blk (u.getD 1 0)) = trimsA u := by
 unfold trimsA
 rw [show decide ((u.length : Int) > 1) = decide (1 < u.length) from decide_eq_decide.2 (by omega)]
theorem pre_len {p s : Oc} (h : p.isPrefixOf s = true) : p.length ≤ s.length := (List.isPrefixOf_iff_prefix.1 h).length_le
noncomputable def layX3 : Lay := (Lay.nil.addF 72 preTold).addF 100 preTold
theorem layX3_ok : layX3.OK Tryz.prog := (Lay.nil_ok.addF preTold_ok).addF pre2Told_ok
end Go.Mu
namespace Go.Mu
open Go Go.Proofs
section
variable {P : Program} {w w' : World} {E E' : Env} {H H' : Heap}
theorem Post.pre {E1 : Env} {H1 : Heap} {o : Out} (ev : Evo No w E H w E1 H1) {e : Ending} {w' : World} (h : Post w E1 H1 o e w') : Post w E H o e w' := by
 cases o with
 | ret v H' =>
  cases e with
  | returned c => obtain ⟨E', g1, g2, g3⟩ := h; exact ⟨E', ev.trans g1 (fun x hx => hx.elim), g2, g3⟩
  | panicked _ => exact h.elim
  | outgrown => exact h.elim
 | panic p H' =>
  cases e with
  | returned _ => exact h.elim
  | panicked ch => obtain ⟨E', c, g0, g1, g2, g3⟩ := h; exact ⟨E', c, g0, ev.trans g1 (fun x hx => hx.elim), g2, g3⟩
  | outgrown => exact h.elim
theorem kill (hs : Sim w E H) {j sz u : Nat} {rows : List (List AVal)} (hj : H[j]? = some (.arr sz rows u)) (hsz : w'.heap.size = w.heap.size) (hb : ∀ b, b ≠ E.φ j ∨ E.cap j = 0 → w'.heap[b]? = w.heap[b]?) (h1 : w'.tape = w.tape) (h2 : w'.os = w.os) (h3 : w'.output = w.output) :
 Evo No w E H w' { E with cap := upd E.cap j 0 } (H.set j (.arr sz [] (u + 1))) ∧ Sim w' { E with cap := upd E.cap j 0 } (H.set j (.arr sz [] (u + 1))) := by
 have hlt := get_lt hj
 have hi := fun l => isVar_setArr (new := []) (u' := u + 1) hj l
 have ha := fun l => arrInfo_setArr (new := []) (u' := u + 1) hj l
 have ce : ∀ l, l ≠ j → upd E.cap j 0 l = E.cap l := fun l hl => upd_other _ _ hl
 have hnv : isVar H j = false := by simp [isVar, hj]
 have hlive : ∀ l, live { E with cap := upd E.cap j 0 } (H.set j (.arr sz [] (u + 1))) l → live E H l ∧ l ≠ j := fun l hl => by
  by_cases e : l = j
  · subst e
    rcases hl with hl | ⟨_, hl⟩
    · rw [hi, hnv] at hl; cases hl
    · simp at hl
  · refine ⟨?_, e⟩
    simp only [live, hi, ha, if_neg e, ce l e] at hl
    exact hl
 have same : ∀ l, live E H l → l ≠ j → w'.heap[E.φ l]? = w.heap[E.φ l]? := fun l hl hne => by
  by_cases hc : E.cap j = 0
  · exact hb _ (.inr hc)
  · exact hb _ (.inl (fun e => hne (hs.inj l j hl (.inr ⟨⟨sz, u, arr_of_get hj⟩, hc⟩) e)))
 have imm : ∀ b, E.imm b → w'.heap[b]? = w.heap[b]? := fun b hbi => by
  by_cases hc : E.cap j = 0
  · exact hb _ (.inr hc)
  · exact hb _ (.inl (fun e => (hs.apart j (.inr ⟨⟨sz, u, arr_of_get hj⟩, hc⟩)).1 (e ▸ hbi)))
 have ev : Evo No w E H w' { E with cap := upd E.cap j 0 } (H.set j (.arr sz [] (u + 1))) := by
  refine ⟨by omega, fun b _ _ hk => ?_, fun b hbi => ⟨hbi, imm b hbi⟩, fun b hbi => .inl hbi, fun l hl => ⟨by rw [hi]; exact hl, rfl⟩, fun l sz' u' hl => ?_, fun l hl => .inr ⟨(hlive l hl).1, rfl⟩, by simp, h1, h2, h3⟩
  · by_cases hc : E.cap j = 0
    · exact hb _ (.inr hc)
    · exact hb _ (.inl (fun e => hk j (.inr ⟨⟨sz, u, arr_of_get hj⟩, hc⟩) e.symm))
  · by_cases e : l = j
    · subst e
      rw [arr_of_get hj] at hl
      simp only [Option.some.injEq, Prod.mk.injEq] at hl
      obtain ⟨rfl, rfl⟩ := hl
      exact ⟨u + 1, by rw [ha, if_pos rfl], by omega, fun h => by omega⟩
    · exact ⟨u', by rw [ha, if_neg e]; exact hl, Nat.le_refl _, fun _ => ⟨ce l e, fun _ => rfl⟩⟩
 have hse := ev.sees
 refine ⟨ev, fun b hbi => by rw [hsz]; exact hs.immLt b hbi, fun l cs hc => ?_, fun l sz' rw' u' hc => ?_, fun l hl => ⟨(hs.apart l (hlive l hl).1).1, by rw [hsz]; exact (hs.apart l (hlive l hl).1).2⟩, fun x y hx hy he => hs.inj x y (hlive x hx).1 (hlive y hy).1 he, fun m t n hm hl => ?_, hs.glob.mono hse.imm⟩
 · by_cases e : l = j
   · subst e; rw [List.getElem?_set_self hlt] at hc; simp at hc
   · rw [List.getElem?_set_ne (Ne.symm e)] at hc
     exact (hs.var l cs hc).mono hse (same l (.inl (var_of_get hc)) e)
 · by_cases e : l = j
   · subst e
     rw [List.getElem?_set_self hlt] at hc
     simp only [Option.some.injEq, Obj.arr.injEq] at hc
     obtain ⟨rfl, rfl, rfl⟩ := hc
     exact ⟨(hs.arr l sz rows u hj).1, Nat.zero_le _, fun r hr => by simp at hr, fun hcap => by simp at hcap⟩
   · rw [List.getElem?_set_ne (Ne.symm e)] at hc
     obtain ⟨g1, g2, g3, g4⟩ := hs.arr l sz' rw' u' hc
     refine ⟨g1, by simp only [ce l e]; exact g2, g3, fun hcap => ?_⟩
     simp only [ce l e] at hcap ⊢
     exact (g4 hcap).mono hse (same l (.inr ⟨⟨sz', u', arr_of_get hc⟩, hcap⟩) e)
 · obtain ⟨g1, g2⟩ := hlive _ hl
   exact (hs.note m t n (get_set_note (fun t n e => by cases e) hm) g1).same (same _ g1 g2)
def isNilL : AVal → Bool
 | .nilX => true
 | .list true 0 _ => true
 | _ => false
theorem isNilL_rep {v : AVal} {c : Value} (h : isNilL v = true) (r : Rep w E H v c) : ∃ a, c = .slice a 0 0 := by
 unfold isNilL at h
 split at h
 · exact ⟨none, rep_nilX r⟩
 · obtain ⟨ad, cap, rfl, hle, hfull, _⟩ := rep_list r
   have := hfull rfl
   subst this
   exact ⟨ad, rfl⟩
 · cases h
theorem relink (hs : Sim w E H) {i c j sz u : Nat} {cs : List AVal} {nx : AVal} {rows : List (List AVal)} (hi : H[i]? = some (.var cs)) (hc : cs[c]? = some nx) (hnx : isNilL nx = true) (hj : H[j]? = some (.arr sz rows u)) :
 Evo No w E H w { E with cap := upd E.cap j 0 } ((H.set j (.arr sz [] (u + 1))).set i (.var (cs.set c (.own j 0 0 (u + 1) false)))) ∧ Sim w { E with cap := upd E.cap j 0 } ((H.set j (.arr sz [] (u + 1))).set i (.var (cs.set c (.own j 0 0 (u + 1) false)))) := by
 obtain ⟨ev, sim⟩ := kill (w' := w) hs hj rfl (fun _ _ => rfl) rfl rfl rfl
 have hij : i ≠ j := fun e => by subst e; rw [hi] at hj; cases hj
 have hi1 : (H.set j (.arr sz [] (u + 1)))[i]? = some (.var cs) := by rw [List.getElem?_set_ne (Ne.symm hij)]; exact hi
 obtain ⟨k1, k2⟩ := set_same_var (new := cs.set c (.own j 0 0 (u + 1) false)) hi1
 have hinfo : arrInfo ((H.set j (.arr sz [] (u + 1))).set i (.var (cs.set c (.own j 0 0 (u + 1) false)))) j = some (sz, u + 1) := by
  rw [k2, arrInfo_setArr hj, if_pos rfl]
 have hse : Sees w { E with cap := upd E.cap j 0 } (H.set j (.arr sz [] (u + 1))) w { E with cap := upd E.cap j 0 } ((H.set j (.arr sz [] (u + 1))).set i (.var (cs.set c (.own j 0 0 (u + 1) false)))) :=
  ⟨fun b hb => ⟨hb, rfl⟩, fun k hk => ⟨by rw [k1]; exact hk, rfl⟩, fun k sz' u' hk => ⟨u', by rw [k2]; exact hk, Nat.le_refl _, fun _ => ⟨rfl, fun _ => rfl⟩⟩⟩
 have sim2 := sim.set (w' := w) (k := i) (obj := .var (cs.set c (.own j 0 0 (u + 1) false))) k1 k2 hse (Nat.le_refl _) (fun _ _ _ => rfl) (fun cs' e => by
  cases e
  obtain ⟨ds, ty, fr, b1, b2, b3, b4⟩ := sim.var i cs hi1
  refine ⟨ds, ty, fr, b1, by simpa using b2, by simpa using b3, fun m v hm => ?_⟩
  replace hm : (cs.set c (.own j 0 0 (u + 1) false))[m]? = some v := hm
  rw [List.getElem?_set] at hm
  by_cases e : c = m
  · subst e
    have hlt : c < cs.length := (List.getElem?_eq_some_iff.1 hc).1
    simp only [if_true, if_pos hlt, Option.some.injEq] at hm
    subst hm
    obtain ⟨x, x1, x2, x3⟩ := b4 c _ hc
    obtain ⟨ad, rfl⟩ := isNilL_rep hnx x3
    exact ⟨_, x1, x2, .own j 0 0 (u + 1) false ad 0 sz (u + 1) hinfo (Nat.le_refl _) (fun _ => ⟨Nat.le_refl _, fun _ => rfl, fun _ _ => by simp, by simp, fun h => by simp at h⟩)⟩
  · rw [if_neg e] at hm
    obtain ⟨x, x1, x2, x3⟩ := b4 m v hm
    exact ⟨x, x1, x2, x3.mono hse⟩) (fun _ _ _ e => by cases e) (fun _ _ e => by cases e) (fun _ _ h => h)
 refine ⟨ev.trans (Y := No) ⟨Nat.le_refl _, fun _ _ _ _ => rfl, fun b hb => ⟨hb, rfl⟩, fun b hb => .inl hb, fun k hk => ⟨by rw [k1]; exact hk, rfl⟩, fun k sz' u' hk => ⟨u', by rw [k2]; exact hk, Nat.le_refl _, fun _ => ⟨rfl, fun _ => rfl⟩⟩, fun k hk => .inr ⟨(live_congr k1 k2 k).1 hk, rfl⟩, by simp, rfl, rfl, rfl⟩ (fun x hx => hx.elim), sim2⟩
def relAt (i c j : Nat) (H : Heap) : Heap := match H[i]?, H[j]? with
 | some (.var cs), some (.arr sz rows u) => match cs[c]? with
  | some x => cond (isNilL x) ((H.set j (.arr sz [] (u + 1))).set i (.var (cs.set c (.own j 0 0 (u + 1) false)))) H
  | _ => H
 | _, _ => H
theorem CallOK.relink {f : FuncId} {xs : List AVal} {o : Out} {i c j sz u : Nat} {cs : List AVal} {nx : AVal} {rows : List (List AVal)} (hi : H[i]? = some (.var cs)) (hc : cs[c]? = some nx) (hnx : isNilL nx = true) (hj : H[j]? = some (.arr sz rows u))
 (h : CallOK P f xs ((H.set j (.arr sz [] (u + 1))).set i (.var (cs.set c (.own j 0 0 (u + 1) false)))) o) : CallOK P f xs H o := by
 intro w E ys sim hlen hr
 obtain ⟨ev, sim2⟩ := Mu.relink sim hi hc hnx hj
 exact Calls.mono (h w _ ys sim2 hlen (fun m hm => (hr m hm).mono ev.sees)) (fun e w' hp => hp.pre ev)
end
theorem relAt_ok {P : Program} {f : FuncId} {xs : List AVal} {H : Heap} {o : Out} {i c j : Nat} (h : CallOK P f xs (relAt i c j H) o) : CallOK P f xs H o := by
 unfold relAt at h
 split at h
 · rename_i h1 h2
   split at h
   · rename_i x h3
     rw [Bool.cond_eq_ite] at h
     split at h
     · rename_i h4
       exact CallOK.relink h1 h3 h4 h2 h
     · exact h
   · exact h
 · exact h
theorem freeze_other {w : World} {g n b : Nat} (h : b ≠ g) : (w.freeze ⟨g, 0, none⟩ n).heap[b]? = w.heap[b]? := by
 unfold World.freeze
 split
 · rfl
 · simp [Array.getElem?_modify, Ne.symm h]
theorem freeze_size {w : World} {g n : Nat} : (w.freeze ⟨g, 0, none⟩ n).heap.size = w.heap.size := by
 unfold World.freeze
 split
 · rfl
 · simp
theorem freeze_rest {w : World} {g n : Nat} : (w.freeze ⟨g, 0, none⟩ n).tape = w.tape ∧ (w.freeze ⟨g, 0, none⟩ n).os = w.os ∧ (w.freeze ⟨g, 0, none⟩ n).output = w.output := by
 unfold World.freeze
 split <;> exact ⟨rfl, rfl, rfl⟩
theorem str_walk {w w1 : World} {b off n cap : Nat} {ad : Option Addr} {pv : Option Addr} {s : ByteArray} (hc : w.cell? ⟨b, off + 1, none⟩ = some (.slice ad n cap))
 (hSD : (Builtin.unsafeSliceData_ #[43] 89 #[.slice ad n cap]).run Tryz.prog w.drew = .ok (.pointer pv) w.drew)
 (hUS : (Builtin.unsafeString_ #[89, 3] 9 #[.pointer pv, .int .i64 n]).run Tryz.prog w.drew = .ok (.string s) w1) :
 Calls Tryz.prog 51 #[.pointer (some ⟨b, off, none⟩)] w fun e w' => e = .returned (.string s) ∧ w' = w1 := by
 have c1 : w.drew.cell? ⟨b, off + 1, none⟩ = some (.slice ad n cap) := hc
 have mixed : Tryz.prog.follows Departure.mixedOrders = true := by kernel_rfl
 go_enter Tryz.func51, Tryz.ntmps51
 go_wp2
 go_region_o
 all_goals (go_wp2; go_ret; exact ⟨rfl, rfl⟩)
end Go.Mu
namespace Go.Mu
open Go Go.Proofs
abbrev bT : Nat := 5
theorem str_ok {H : Heap} {i off j u : Nat} {cs : List AVal} {l : Oc} (hi : H[i]? = some (.var cs)) (hc : cs[off + 1]? = some (.own j 0 l.length u false)) (hj : H[j]? = some (.arr 1 (l.map byteRow) u)) (hn : H[j + 1]? = some (.note bT 0)) (h0 : l ≠ []) (hb : l.length ≤ 1099511627776) :
 CallOK Tryz.prog 51 [.ptr (.hp i) off] H (.ret (.str l) (H.set j (.arr 1 [] (u + 1)))) := by
 intro w E ys sim hlen hr
 obtain ⟨y, rfl⟩ : ∃ y, ys = [y] := by
  match ys, hlen with
  | [y], _ => exact ⟨y, rfl⟩
 obtain ⟨e0, hv⟩ := rep_ptrH (hr 0 (by simp))
 replace e0 : y = .pointer (some ⟨E.φ i, off, none⟩) := e0
 subst e0
 obtain ⟨ds, ty, fr, b1, b2, b3, b4⟩ := sim.var i cs hi
 obtain ⟨c, c1, c2, c3⟩ := b4 (off + 1) _ hc
 obtain ⟨ad, cap, sz', u', rfl, ha, hle, hsh⟩ := rep_own c3
 rw [arr_of_get hj] at ha
 simp only [Option.some.injEq, Prod.mk.injEq] at ha
 obtain ⟨rfl, rfl⟩ := ha
 obtain ⟨s1, s2, s3, s4, s5⟩ := hsh rfl
 have hl0 : l.length ≠ 0 := by simpa using h0
 have hcap : E.cap j ≠ 0 := by omega
 have had := s5 hcap (.inl hl0)
 simp only [Nat.zero_mul] at had
 subst had
 obtain ⟨a1, a2, a3, a4⟩ := sim.arr j 1 _ u hj
 obtain ⟨es, ety, efr, g1, g2, g3, g4⟩ := a4 hcap
 have hlv : live E H j := .inr ⟨⟨1, u, arr_of_get hj⟩, hcap⟩
 obtain ⟨ns, nfr, n1, n2⟩ := sim.note (j + 1) bT 0 hn hlv
 simp only [Nat.add_sub_cancel] at n1
 rw [g1] at n1
 simp only [Option.some.injEq, Obj.cells.injEq] at n1
 obtain ⟨rfl, rfl, rfl⟩ := n1
 have hcell : w.cell? ⟨E.φ i, off + 1, none⟩ = some (.slice (some ⟨E.φ j, 0, none⟩) l.length cap) := by
  simp only [World.cell?, b1]; exact c1
 have hbytes : ∀ (k : Nat) (x : UInt8), l[k]? = some x → w.drew.cell? ((⟨E.φ j, 0, none⟩ : Addr).add k) = some (.int .u8 x.toNat) := fun k x hx => by
  obtain ⟨d, d1, d2, d3⟩ := g4 k (.int .u8 x.toNat) (by
   unfold cellAt
   simp only [Nat.div_one, Nat.mod_one, List.getElem?_map, hx, Option.map_some, Option.bind_some]
   rfl)
  have hd : d = .int .u8 x.toNat := by
   cases d3 with
   | pure _ _ h => cases h; rfl
  subst hd
  have : w.drew.heap[E.φ j]? = some (.cells es bT efr) := g1
  simp only [World.cell?, addr_add, Nat.zero_add, this]
  exact d1
 have hkl : l.length ≤ es.size := by simp at a2; omega
 have walk := str_walk (w := w) (b := E.φ i) (off := off) (pv := some ⟨E.φ j, 0, none⟩) (s := ⟨l.toArray⟩) (w1 := w.drew.freeze ⟨E.φ j, 0, none⟩ l.length) hcell
  (Lib.run_unsafeSliceData_row _ _ _ _ _ _ (show cap ≠ 0 by omega))
  (Lib.run_unsafeString_row (w := w.drew) 89 3 9 bT (by kernel_rfl) (by kernel_rfl) (E.φ j) es.size (by
   have : w.drew.heap[E.φ j]? = some (.cells es bT efr) := g1
   simp [World.shape?, this]) l h0 hkl (by omega) hbytes)
 refine Calls.mono walk (fun e w' hp => ?_)
 obtain ⟨rfl, rfl⟩ := hp
 obtain ⟨f1, f2, f3⟩ := freeze_rest (w := w.drew) (g := E.φ j) (n := l.length)
 obtain ⟨ev, sim'⟩ := kill (w' := w.drew.freeze ⟨E.φ j, 0, none⟩ l.length) sim hj freeze_size (fun b hb => by
  rcases hb with hb | hb
  · exact freeze_other (w := w.drew) hb
  · exact absurd hb hcap) f1 f2 f3
 exact ⟨_, ev, sim', .pure _ _ (by have := RepP.str (w := w.drew.freeze ⟨E.φ j, 0, none⟩ l.length) (imm := E.imm) ⟨l.toArray⟩; simpa using this)⟩
def bytesOf (rows : List (List AVal)) : Oc := rows.map byteOf
theorem byteOf_row (c : UInt8) : byteOf (byteRow c) = c := by
 simp [byteOf, byteRow, intOf]
theorem bytesOf_map (l : Oc) : bytesOf (l.map byteRow) = l := by
 unfold bytesOf
 rw [List.map_map]
 conv => rhs; rw [← List.map_id l]
 exact List.map_congr_left (fun a _ => byteOf_row a)
theorem str_ok0 {H : Heap} {i off : Nat} {cs : List AVal} (hi : H[i]? = some (.var cs)) (hc : cs[off + 1]? = some .nilX) :
 CallOK Tryz.prog 51 [.ptr (.hp i) off] H (.ret (.str []) H) := by
 intro w E ys sim hlen hr
 obtain ⟨y, rfl⟩ : ∃ y, ys = [y] := by
  match ys, hlen with
  | [y], _ => exact ⟨y, rfl⟩
 obtain ⟨e0, hv⟩ := rep_ptrH (hr 0 (by simp))
 replace e0 : y = .pointer (some ⟨E.φ i, off, none⟩) := e0
 subst e0
 obtain ⟨ds, ty, fr, b1, b2, b3, b4⟩ := sim.var i cs hi
 obtain ⟨c, c1, c2, c3⟩ := b4 (off + 1) _ hc
 obtain rfl := rep_nilX c3
 have hcell : w.cell? ⟨E.φ i, off + 1, none⟩ = some (.slice none 0 0) := by
  simp only [World.cell?, b1]; exact c1
 have walk := str_walk (w := w) (b := E.φ i) (off := off) (pv := none) (s := .empty) (w1 := w.drew) hcell
  (Lib.run_unsafeSliceData_nil _ _ _ _ _) (Lib.run_unsafeString_none _ _ _ _ _)
 refine Calls.mono walk (fun e w' hp => ?_)
 obtain ⟨rfl, rfl⟩ := hp
 have ev : Evo No w E H w.drew E H := ⟨Nat.le_refl _, fun _ _ _ _ => rfl, fun b hb => ⟨hb, rfl⟩, fun b hb => .inl hb, fun k hk => ⟨hk, rfl⟩, fun k sz u hk => ⟨u, hk, Nat.le_refl _, fun _ => ⟨rfl, fun _ => rfl⟩⟩, fun k hk => .inr ⟨hk, rfl⟩, Nat.le_refl _, rfl, rfl, rfl⟩
 exact ⟨E, ev, sim.keep ev.sees (fun _ _ => rfl) (Nat.le_refl _), .pure _ _ (by have := RepP.str (w := w.drew) (imm := E.imm) .empty; simpa using this)⟩
end Go.Mu
set_option maxHeartbeats 2000000
namespace Go.Mu
open Go Go.Proofs
structure ItemD where
 kind : Int
 text : Oc
 at_ : Int
def bfB (j : Nat) (text : Oc) (v : Nat) : AVal := match text with
 | [] => .nilX
 | c :: t => .own j 0 (c :: t).length v false
noncomputable def layW0 : Lay := Lay.nil.addL 49 { nils := [14] }
structure SpH where
 U0 : Obj
 U1 : Obj
 U2 : Obj
 s : Oc
 o : AVal
 ad : AVal
 b : AVal
 a : Int
 tr : Bool
 O : Obj
 rows : List (List AVal)
 v : Nat
def wsV (text l : Oc) (v : Nat) : Nat := bif text == [] then (bif l == [] then v else v + 2) else v + 1
theorem layW0_ok : layW0.OK Tryz.prog := Lay.nil_ok.addN (by kernel_rfl)
theorem e_map (l : Oc) : List.map (fun c : UInt8 => [AVal.int .u8 (c.toNat : Int)]) l = l.map byteRow := rfl
end Go.Mu
namespace Go.Mu
open Go Go.Proofs
def ltr (c : UInt8) : Bool := (decide (97 ≤ c.toNat) && decide (c.toNat ≤ 122)) || (decide (65 ≤ c.toNat) && decide (c.toNat ≤ 90))
def dig (c : UInt8) : Bool := decide (48 ≤ c.toNat) && decide (c.toNat ≤ 57)
structure WdH where
 U0 : Obj
 U1 : Obj
 U2 : Obj
 s : Oc
 base : Int
 a : Int
 o : AVal
 O : Obj
end Go.Mu
namespace Go.Mu
open Go Go.Proofs
abbrev bdT : Nat := 55
structure Bld where
 ad : AVal
 b : AVal
 rows : List (List AVal)
 v : Nat
def Bld.can (i j : Nat) (x : Bld) : Prop := (x.ad = .nilptr ∨ x.ad = .ptr (.hp i) 0) ∧ x.rows = (bytesOf x.rows).map byteRow ∧ x.b = bfB j (bytesOf x.rows) x.v
abbrev Bld.t (x : Bld) : Oc := bytesOf x.rows
def Bld.add (i j : Nat) (x : Bld) (l : Oc) : Bld := ⟨.ptr (.hp i) 0, bfB j (x.t ++ l) (wsV x.t l x.v), x.rows ++ l.map byteRow, wsV x.t l x.v⟩
theorem Bld.add_t (i j : Nat) (x : Bld) (l : Oc) : (Bld.add i j x l).t = x.t ++ l := by
 show bytesOf (x.rows ++ l.map byteRow) = _
 have := bytesOf_map l
 unfold bytesOf at this
 show (x.rows ++ l.map byteRow).map byteOf = x.rows.map byteOf ++ l
 rw [List.map_append, this]
theorem Bld.add_can {i j : Nat} {x : Bld} (h : x.can i j) (l : Oc) : (Bld.add i j x l).can i j := by
 refine ⟨.inr rfl, ?_, ?_⟩
 · show (Bld.add i j x l).rows = ((Bld.add i j x l).t).map byteRow
   rw [Bld.add_t, List.map_append, ← h.2.1]; rfl
 · show (Bld.add i j x l).b = bfB j ((Bld.add i j x l).t) _
   rw [Bld.add_t]; rfl
def Bld.dead (x : Bld) : Bld := { x with rows := [], v := bif x.t == [] then x.v else x.v + 1 }
def Bld.new : Bld := ⟨.nilptr, .nilX, [], 0⟩
theorem Bld.new_can (i j : Nat) : Bld.new.can i j := ⟨.inl rfl, rfl, rfl⟩
abbrev bld (H : Heap) (i j : Nat) : Bld := ⟨(cellsO (H.getD i (.var []))).getD 0 .undef, (cellsO (H.getD i (.var []))).getD 1 .undef, rowsO (H.getD j (.var [])), verO (H.getD j (.var []))⟩
end Go.Mu
namespace Go.Mu
open Go Go.Proofs
structure b7H where
 P0 : Obj
 P1 : Obj
 P2 : Obj
 P3 : Obj
 P4 : Obj
 P5 : Obj
 P6 : Obj
 x : Bld
end Go.Mu
namespace Go.Mu
open Go Go.Proofs
structure StA where
 w : WdH
 x : Bld
 at_ : Nat
 i : Nat
structure StR where
 e : Int
 fin : Bool
 off : Nat
 text : Oc
 upto_ : Nat
 x : Bld
structure StQ where
 e : Int
 off : Nat
 text : Oc
 upto_ : Nat
end Go.Mu
namespace Go.Mu
open Go Go.Proofs
theorem small_fun (n : Int) (k : Out → Ans) : iFun Tryz.prog (Lay.nil.hd Tryz.prog) Lay.nil.fhs 0 88 [.int .u8 n] [] k = (
 bif bif decide (n ≥ 65) then decide (n ≤ 90) else false then
 k (Out.ret (AVal.int .u8 (IntKind.u8.wrap (n + 32))) [])
 else k (Out.ret (AVal.int .u8 n) [])) := by kernel_rfl
theorem encode_fun (n : Int) (k : Out → Ans) : iFun Tryz.prog (Lay.nil.hd Tryz.prog) Lay.nil.fhs 0 86 [.int .i64 n] [] k = (
 let c0 : Bool := bif decide (n < 0) then true else decide (n > 1114111);
 let n1 : Int := IntKind.u32.wrap (IntKind.i32.wrap n);
 let n2 : Int := IntKind.u8.wrap (IntKind.i32.wrap n);
 let l3 : Oc := [byteOf [AVal.int .u8 (IntKind.u8.wrap (↑(BitVec.ofInt 8 128 ||| BitVec.ofInt 8 (IntKind.u8.wrap (↑(BitVec.ofInt 8 n2 &&& BitVec.ofInt 8 63).toNat : Int))).toNat : Int))]];
 let c4 : Bool := decide (n1 < 55296);
 let z5 := IntKind.u8.wrap ((IntKind.i32.wrap n).fdiv 64);
 let l5 : Oc := byteOf [AVal.int .u8 (IntKind.u8.wrap (↑(BitVec.ofInt 8 128 ||| BitVec.ofInt 8 (IntKind.u8.wrap (↑(BitVec.ofInt 8 z5 &&& BitVec.ofInt 8 63).toNat : Int))).toNat : Int))] :: l3;
 let z4 := IntKind.u8.wrap ((IntKind.i32.wrap n).fdiv 4096);
 let z1 := bif bif decide (n1 > 65535) then decide (n1 ≤ 1114111) else false then k (Out.ret (AVal.tuple [AVal.str (byteOf [AVal.int .u8 (IntKind.u8.wrap (↑(BitVec.ofInt 8 240 ||| BitVec.ofInt 8 (IntKind.u8.wrap ((IntKind.i32.wrap n).fdiv 262144))).toNat : Int))] :: byteOf [AVal.int .u8 (IntKind.u8.wrap (↑(BitVec.ofInt 8 128 ||| BitVec.ofInt 8 (IntKind.u8.wrap (↑(BitVec.ofInt 8 z4 &&& BitVec.ofInt 8 63).toNat : Int))).toNat : Int))] :: l5), AVal.int .i64 0]) []) else k (Out.ret (AVal.tuple [AVal.str [byteOf [AVal.int .u8 239], byteOf [AVal.int .u8 191], byteOf [AVal.int .u8 189]], AVal.int .i64 0]) []);
 let z2 := Out.ret (AVal.tuple [AVal.str (byteOf [AVal.int .u8 (IntKind.u8.wrap (↑(BitVec.ofInt 8 224 ||| BitVec.ofInt 8 z4).toNat : Int))] :: l5), AVal.int .i64 0]) [];
 let z0 := bif decide (n1 ≤ 127) then k (Out.ret (AVal.tuple [AVal.str [byteOf [AVal.int .u8 n2]], AVal.int .i64 0]) []) else bif decide (n1 ≤ 2047) then k (Out.ret (AVal.tuple [AVal.str (byteOf [AVal.int .u8 (IntKind.u8.wrap (↑(BitVec.ofInt 8 192 ||| BitVec.ofInt 8 z5).toNat : Int))] :: l3), AVal.int .i64 0]) []) else bif c4 then bif c4 then k z2 else z1 else bif bif decide (57343 < n1) then decide (n1 ≤ 65535) else false then k z2 else z1;
 let z3 := Out.ret (AVal.tuple [AVal.str [], AVal.int .i64 4]) [];
  bif bif decide (0 ≤ IntKind.i32.wrap n) then decide (IntKind.i32.wrap n < 55296) else false then bif bif c0 then true else false then k z3 else z0 else bif bif decide (57343 < IntKind.i32.wrap n) then decide (IntKind.i32.wrap n ≤ 1114111) else false then bif bif c0 then true else false then k z3 else z0 else bif bif c0 then true else true then k z3 else z0) := by kernel_rfl
end Go.Mu
namespace Go.Proofs
open Go.Shelf
def Tryz.ixfRen : Ren := {
 f := fun x => match x with
  | 315 => 145
  | n => n,
 t := fun x => match x with
  | 0 => 0
  | 9 => 9
  | 3 => 3
  | 4 => 4
  | 21 => 21
  | 40 => 110
  | n => n,
 g := fun x => x }
theorem Tryz.ixfLays : Lays.n315 Tryz.prog Tryz.ixfRen := {
 mixed := by kernel_rfl
 f315 := Tryz.func145.trans (congrArg some (by kernel_rfl))
 t0 := Tryz.underlying0
 a0 := Tryz.isAgg0
 z0 := Tryz.sizeOf0
 v0 := Tryz.zeroValue0
 t3 := Tryz.underlying3
 a3 := Tryz.isAgg3
 z3 := Tryz.sizeOf3
 v3 := Tryz.zeroValue3
 t4 := Tryz.underlying4
 a4 := Tryz.isAgg4
 z4 := Tryz.sizeOf4
 v4 := Tryz.zeroValue4
 t9 := Tryz.underlying9
 a9 := Tryz.isAgg9
 z9 := Tryz.sizeOf9
 v9 := Tryz.zeroValue9
 t21 := Tryz.underlying21
 a21 := Tryz.isAgg21
 z21 := Tryz.sizeOf21
 v21 := Tryz.zeroValue21
 t40 := Tryz.underlying110
 a40 := Tryz.isAgg110
 z40 := Tryz.sizeOf110
 v40 := Tryz.zeroValue110 }
def ndR (r : Nat) : Bool := decide (r < 48) || decide (57 < r)
theorem Tryz.pd_gives (W : World) (x : Nat) : FnGives Tryz.prog 143 #[] #[encR x] (.bool (ndR x)) W := by
 show Calls Tryz.prog 143 #[.int .i32 (x : Int)] W _
 go_enter Tryz.func143, Tryz.ntmps143
 go_wp2
 all_goals (go_ret; refine ⟨?_, 0, rfl⟩)
 · show Ending.returned (.bool (decide ((x : Int) < 48) || decide (57 < (x : Int)))) = _
   unfold ndR
   rw [show decide ((x : Int) < 48) = decide (x < 48) from decide_eq_decide.2 (by omega), show decide (57 < (x : Int)) = decide (57 < x) from decide_eq_decide.2 (by omega)]
 · show Ending.returned (.bool true) = _
   unfold ndR
   rw [show decide (x < 48) = true from decide_eq_true (by omega)]
   rfl
end Go.Proofs
namespace Go.Mu
open Go Go.Proofs Go.Shelf Go.RowKit
variable {P : Program}
theorem CallOK.below {f : FuncId} {xs : List AVal} {H : Heap} {v : AVal} (h : ∀ w E (cs : List Value), Sim w E H → cs.length = xs.length → (∀ j, j < xs.length → Rep w E H (xs.getD j .undef) (cs.getD j undef)) → ∃ c, Calls P f cs.toArray w (fun e w' => e = .returned c ∧ Below w.heap.size w w') ∧ Rep w E H v c) : CallOK P f xs H (.ret v H) := by
 intro w E cs sim hl hr
 obtain ⟨c, h1, h2⟩ := h w E cs sim hl hr
 refine Calls.mono h1 (fun e w' hp => ?_)
 obtain ⟨rfl, hb⟩ := hp
 have ev : Evo No w E H w' E H := ⟨hb.size, fun b hb' _ _ => hb.block b hb', fun b hb' => ⟨hb', hb.block b (sim.immLt b hb')⟩, fun b hb' => .inl hb', fun k hk => ⟨hk, rfl⟩, fun k sz u hk => ⟨u, hk, Nat.le_refl _, fun _ => ⟨rfl, fun _ => rfl⟩⟩, fun k hk => .inr ⟨hk, rfl⟩, Nat.le_refl _, hb.tape, hb.os, hb.output⟩
 exact ⟨E, ev, sim.keep ev.sees (fun k hk => hb.block _ (sim.apart k hk).2) hb.size, h2.mono ev.sees⟩
def ndC (c : UInt8) : Bool := ndR c.toNat
theorem decN_first (n b0 b1 b2 b3 : Nat) : (b0 < 128 → Lib.decodeN n b0 b1 b2 b3 = (b0, 1)) ∧ (128 ≤ b0 → 128 ≤ (Lib.decodeN n b0 b1 b2 b3).1) := by
 unfold Lib.decodeN
 refine ⟨fun h => by rw [if_pos h], fun h => ?_⟩
 rw [if_neg (by omega)]
 repeat' split
 all_goals (simp only; omega)
theorem idxF_any (l : Oc) : ∀ (f pos : Nat), l.length ≤ pos + f → decide (Lib.idxFuncFrom ndR true ⟨l.toArray⟩ f pos ≥ 0) = (l.drop pos).any ndC
 | 0, pos, h => by
  rw [List.drop_eq_nil_of_le (by omega)]
  rfl
 | f + 1, pos, h => by
  unfold Lib.idxFuncFrom
  have hs : (⟨l.toArray⟩ : ByteArray).size = l.length := by simp [ByteArray.size]
  rw [hs]
  by_cases hp : pos < l.length
  · rw [if_pos hp]
    have ed : l.drop pos = l.getD pos 0 :: l.drop (pos + 1) := by
     rw [List.drop_eq_getElem_cons hp]
     simp [List.getD_eq_getElem?_getD, List.getElem?_eq_getElem hp]
    have hN := Lib.decode_N ⟨l.toArray⟩ pos
    have e0 : (⟨l.toArray⟩ : ByteArray).data.toList = l := rfl
    rw [e0] at hN
    rw [ed, List.any_cons, hN]
    generalize l.getD pos 0 = c
    obtain ⟨g1, g2⟩ := decN_first (l.length - pos) c.toNat (l.getD (pos + 1) 0).toNat (l.getD (pos + 2) 0).toNat (l.getD (pos + 3) 0).toNat
    by_cases hc : c.toNat < 128
    · rw [g1 hc]
      simp only
      show decide ((if ndC c = true then (pos : Int) else _) ≥ 0) = _
      cases hb : ndC c with
      | true => simp
      | false => simp only [Bool.false_eq_true, if_false, Bool.false_or]; exact idxF_any l f (pos + 1) (by omega)
    · have hge := g2 (by omega)
      have hr : ndR (Lib.decodeN (l.length - pos) c.toNat (l.getD (pos + 1) 0).toNat (l.getD (pos + 2) 0).toNat (l.getD (pos + 3) 0).toNat).1 = true := by
       unfold ndR
       rw [show decide (57 < _) = true from decide_eq_true (by omega), Bool.or_true]
      have hc2 : ndC c = true := by
       unfold ndC ndR
       rw [show decide (57 < c.toNat) = true from decide_eq_true (by omega), Bool.or_true]
      rw [if_pos hr, hc2]
      simp
  · rw [if_neg hp, List.drop_eq_nil_of_le (by omega)]
    rfl
theorem ixf_ok (l : Oc) : CallOK Tryz.prog 145 [.str l, .func 143 [], .bool true] [] (.ret (.int .i64 (Lib.idxFunc ndR true ⟨l.toArray⟩)) []) := by
 refine CallOK.below (fun w E cs sim hl hr => ?_)
 obtain ⟨x, y, z, rfl⟩ : ∃ x y z, cs = [x, y, z] := by
  match cs, hl with
  | [x, y, z], _ => exact ⟨x, y, z, rfl⟩
 obtain ⟨s, e1, e2⟩ := rep_str (hr 0 (by simp))
 obtain ⟨ys, e3, e4, _⟩ := rep_func (hr 1 (by simp))
 have e5 := rep_bool (hr 2 (by simp))
 replace e1 : x = .string s := e1
 replace e3 : y = .func (.func 143) #[] ys.toArray := e3
 replace e5 : z = .bool true := e5
 have : ys = [] := List.eq_nil_of_length_eq_zero (by simpa using e4.symm)
 subst e1 e3 e5 this
 have e6 : s = ⟨l.toArray⟩ := by rw [← e2]
 subst e6
 have eg : ∀ args w, (callFunc 143 args).run Tryz.prog w = .ok (.enter 143 args) w := enters_of Tryz.func143 (by kernel_rfl) rfl
 exact ⟨_, Any.strings_indexFunc Tryz.ixfLays 143 #[] eg ndR true ⟨l.toArray⟩ w (fun W x hb => Tryz.pd_gives W x), .pure _ _ (.int _ _)⟩
def ixfTold : FSp := fun xs H k => match xs, H with
 | [.str l, .func f [], .bool true], [] => cond (f == 143) (k (.ret (.int .i64 (Lib.idxFunc ndR true ⟨l.toArray⟩)) [])) none
 | _, _ => none
theorem ixfTold_ok (xs : List AVal) (H : Heap) (k : Out → Ans) (out : Out) (ho : ixfTold xs H k = some out) : ∃ o, CallOK Tryz.prog 145 xs H o ∧ k o = some out := by
 unfold ixfTold at ho
 split at ho
 · rw [Bool.cond_eq_ite] at ho
   split at ho
   · rename_i h
     obtain rfl := beq_iff_eq.1 h
     exact ⟨_, ixf_ok _, ho⟩
   · simp at ho
 · simp at ho
end Go.Mu
namespace Go.Mu
open Go Go.Proofs
noncomputable def layN1 : Lay := layX3.addF 145 ixfTold
theorem layN1_ok : layN1.OK Tryz.prog := layX3_ok.addF ixfTold_ok
theorem wrapU {n : Int} (h1 : 0 ≤ n) (h2 : n ≤ 18446744073709551615) : IntKind.u64.wrap n = n := by
 simp [IntKind.wrap, IntKind.signed, IntKind.bits]
 omega
theorem wrapB {n : Int} (h1 : 0 ≤ n) (h2 : n ≤ 255) : IntKind.u8.wrap n = n := by
 simp [IntKind.wrap, IntKind.signed, IntKind.bits]
 omega
theorem wrapI {n : Int} (h1 : -9223372036854775808 ≤ n) (h2 : n ≤ 9223372036854775807) : IntKind.i64.wrap n = n := by
 simp [IntKind.wrap, IntKind.signed, IntKind.bits]
 omega
def numL : Nat → Oc → Bool × Nat
 | n, [] => (false, n)
 | n, c :: t => bif decide (n * 10 + (c.toNat - 48) > 9223372036854775808) then (true, n) else numL (n * 10 + (c.toNat - 48)) t
abbrev byL (f : Bool) (l : Oc) : AVal := .list f l.length (fun i => byteRow (l.getD i 0))
def Digs (l : Oc) : Prop := ∀ c ∈ l, dig c = true
structure NuA where
 b : Bool
 n : Nat
 f : Bool
 l : Oc
 i : Nat
 H : Heap
noncomputable def numSp : LSp := mkL (fun vs _ H => NuA.mk (aB vs 0) (aI vs 1).toNat (fullOf (vs.getD 2 .undef)) (decL decB (vs.getD 2 .undef)) (aI vs 4).toNat H) (fun a => a.i ≤ a.l.length ∧ a.l.length ≤ 1099511627776 ∧ a.n ≤ 9223372036854775808 ∧ Digs a.l) (fun a => [.bool a.b, .int .u64 a.n, byL a.f a.l, .int .i64 a.l.length, .int .i64 a.i]) (fun _ => []) (fun a => a.H)
 (fun a k => cond (numL a.n (a.l.drop a.i)).1 (k .ret [.int .i64 0, .int .i64 4, .bool a.b, .int .u64 (numL a.n (a.l.drop a.i)).2] [] a.H) (k (.exit 0) [.undef, .undef, .bool a.b, .int .u64 (numL a.n (a.l.drop a.i)).2] [] a.H))
noncomputable def numFH : FH := .of [(8, loopSpec 63 [5,6,34,35,36] [] [2,3,5,6] [] numSp)]
theorem num_step (b : Bool) (n : Int) (f : Bool) (l : Oc) (m i : Int) (H : Heap) (D : Dfs) (k : Kont) : lturn Tryz.prog layN1 numFH 135 8 [5,6,34,35,36] [] [2,3,5,6] [] (stL 63 [5,6,34,35,36] [.bool b, .int .u64 n, byL f l, .int .i64 m, .int .i64 i] [] [] H D) k = (
 let n0 : Int := IntKind.u64.wrap (IntKind.u8.wrap ((↑(l.getD i.toNat 0).toNat : Int) - 48));
 let n1 : Int := IntKind.u64.wrap (9223372036854775808 - n0);
  bif decide (i < m) then bif decide (0 ≤ i) && decide (i < (↑l.length : Int)) then bif !(n1 == n1 && false) then bif decide (n > IntKind.u64.wrap (n1.tdiv 10)) then k AExit.ret (stL 63 [2, 3, 5, 6] [AVal.int .i64 0, AVal.int .i64 4, AVal.bool b, AVal.int .u64 n] [] [] H D) else k AExit.normal (stL 63 [5, 6, 34, 35, 36] [AVal.bool b, AVal.int .u64 (IntKind.u64.wrap (IntKind.u64.wrap (n * 10) + n0)), AVal.list f l.length fun i => [AVal.int .u8 (↑(l.getD i 0).toNat : Int)], AVal.int .i64 m, AVal.int .i64 (IntKind.i64.wrap (i + 1))] [] [] H D) else none else none else k (AExit.exit 0) (stL 63 [2, 3, 5, 6] [AVal.undef, AVal.undef, AVal.bool b, AVal.int .u64 n] [] [] H D)) := by kernel_rfl
theorem num_runs (b f : Bool) (l : Oc) (hl : l.length ≤ 1099511627776) (hd : ∀ c ∈ l, dig c = true) (H : Heap) : ∀ (m i n : Nat), l.length - i ≤ m → i ≤ l.length → n ≤ 9223372036854775808 →
 ((numL n (l.drop i)).1 = true → LoopRuns (lturn Tryz.prog layN1 numFH 135 8 [5,6,34,35,36] [] [2,3,5,6] []) 63 [5,6,34,35,36] [] [2,3,5,6] [] [.bool b, .int .u64 n, byL f l, .int .i64 l.length, .int .i64 i] [] H .ret [.int .i64 0, .int .i64 4, .bool b, .int .u64 (numL n (l.drop i)).2] [] H) ∧
 ((numL n (l.drop i)).1 = false → LoopRuns (lturn Tryz.prog layN1 numFH 135 8 [5,6,34,35,36] [] [2,3,5,6] []) 63 [5,6,34,35,36] [] [2,3,5,6] [] [.bool b, .int .u64 n, byL f l, .int .i64 l.length, .int .i64 i] [] H (.exit 0) [.undef, .undef, .bool b, .int .u64 (numL n (l.drop i)).2] [] H) := by
 intro m
 induction m with
 | zero =>
  intro i n hm hi hn
  have e : l.drop i = [] := List.drop_eq_nil_of_le (by omega)
  rw [e]
  refine ⟨fun h => by simp [numL] at h, fun _ => .stop (by simp) (fun D k => ?_)⟩
  rw [num_step]
  simp (disch := omega) only [dF, cond_false]
  rfl
 | succ m ih =>
  intro i n hm hi hn
  by_cases hlt : i < l.length
  · have key := fun D k => num_step b n f l l.length i H D k
    have ed := drop_cons_of l i 0 hlt
    have hc := hd (l.getD i 0) (by rw [List.getD_eq_getElem?_getD, List.getElem?_eq_getElem hlt]; exact List.getElem_mem _)
    have e2 : IntKind.i64.wrap ((i : Int) + 1) = ((i + 1 : Nat) : Int) := by rw [wrap_of (by omega) (by omega)]; omega
    rw [ed, numL]
    simp only [Int.toNat_natCast, e2] at key
    obtain ⟨c, hcc⟩ : ∃ c, c = l.getD i 0 := ⟨_, rfl⟩
    simp only [← hcc] at key hc ⊢
    unfold dig at hc
    rw [Bool.and_eq_true, decide_eq_true_eq, decide_eq_true_eq] at hc
    have e3 : IntKind.u64.wrap (IntKind.u8.wrap ((c.toNat : Int) - 48)) = ((c.toNat - 48 : Nat) : Int) := by rw [wrapB (by omega) (by omega), wrapU (by omega) (by omega)]; omega
    obtain ⟨d, hd'⟩ : ∃ d, d = c.toNat - 48 := ⟨_, rfl⟩
    rw [← hd'] at e3
    simp only [← hd'] at key ⊢
    simp only [e3] at key
    have e4 : IntKind.u64.wrap (9223372036854775808 - (d : Int)) = 9223372036854775808 - (d : Int) := wrapU (by omega) (by omega)
    simp only [e4, Bool.and_false, Bool.not_false, cond_true] at key
    have e5 : (9223372036854775808 - (d : Int)).tdiv 10 = (9223372036854775808 - (d : Int)) / 10 := Int.tdiv_eq_ediv_of_nonneg (by omega)
    have e6 : decide ((n : Int) > IntKind.u64.wrap ((9223372036854775808 - (d : Int)).tdiv 10)) = decide (n * 10 + d > 9223372036854775808) := by
     rw [e5, wrapU (by omega) (by omega)]
     exact decide_eq_decide.2 (by omega)
    simp only [e6] at key
    simp (disch := omega) only [dT, cond_true, Bool.and_self] at key
    by_cases hov : n * 10 + d > 9223372036854775808
    · simp (disch := omega) only [dT, cond_true] at key ⊢
      exact ⟨fun _ => .stop (by simp) key, fun h => by cases h⟩
    · have e7 : IntKind.u64.wrap (IntKind.u64.wrap ((n : Int) * 10) + (d : Int)) = ((n * 10 + d : Nat) : Int) := by
       rw [wrapU (n := (n : Int) * 10) (by omega) (by omega), wrapU (by omega) (by omega)]; omega
      simp (disch := omega) only [dF, cond_false, e7] at key ⊢
      have := ih (i + 1) (n * 10 + d) (by omega) (by omega) (by omega)
      exact ⟨fun h => .step key (this.1 h), fun h => .step key (this.2 h)⟩
  · have e : l.drop i = [] := List.drop_eq_nil_of_le (by omega)
    rw [e]
    refine ⟨fun h => by simp [numL] at h, fun _ => .stop (by simp) (fun D k => ?_)⟩
    rw [num_step]
    simp (disch := omega) only [dF, cond_false]
    rfl
theorem numSp_ok : SpOK (lturn Tryz.prog layN1 numFH 135 8 [5,6,34,35,36] [] [2,3,5,6] []) 63 [5,6,34,35,36] [] [2,3,5,6] [] numSp := mkL_ok fun a h => by
 have key := num_runs a.b a.f a.l h.2.1 h.2.2.2 a.H _ a.i a.n (Nat.le_refl _) h.1 h.2.2.1
 show ∃ e vs bs H, (∀ k : AExit → List AVal → List (List AVal) → Heap → Ans, cond (numL a.n (a.l.drop a.i)).1 _ _ = k e vs bs H) ∧ _
 cases hb : (numL a.n (a.l.drop a.i)).1 with
 | true => exact ⟨_, _, _, _, fun k => rfl, key.1 hb⟩
 | false => exact ⟨_, _, _, _, fun k => rfl, key.2 hb⟩
noncomputable def layN2 : Lay := layN1.addL 135 numFH
theorem layN2_ok : layN2.OK Tryz.prog := layN1_ok.loop1 (id := 8) (by kernel_rfl) (by kernel_rfl) (by kernel_rfl) numSp_ok
theorem num_fun (s : Oc) (k : Out → Ans) (n0 : Int) (e_n0 : n0 = ((↑s.length : Int)))
 (c1 : Bool) (e_c1 : c1 = (decide (Lib.idxFunc ndR true (ByteArray.mk (Array.mk s)) ≥ 0)))
 (l2 : Oc) (e_l2 : l2 = (decL (fun (r : List AVal) => byteOf r)
  (AVal.list false s.length fun i => [AVal.int .u8 (↑(s.getD i 0).toNat : Int)])))
 (m3 : Nat) (e_m3 : m3 = (l2.length))
 (n4 : Int) (e_n4 : n4 = ((↑(numL (Int.toNat 0) (List.drop (Int.toNat 0) l2)).snd : Int)))
 (l5 : Oc) (e_l5 : l5 = (List.drop (Int.toNat 1) (List.take n0.toNat s)))
 (m6 : Nat) (e_m6 : m6 = (l5.length))
 (n7 : Int) (e_n7 : n7 = ((↑m6 : Int)))
 (c8 : Bool) (e_c8 : c8 = (decide (Lib.idxFunc ndR true (ByteArray.mk (Array.mk l5)) ≥ 0)))
 (l9 : Oc) (e_l9 : l9 = (decL (fun (r : List AVal) => byteOf r)
  (AVal.list false m6 fun (i : Nat) =>
   [AVal.int .u8 (↑((List.drop (Int.toNat 1) (List.take (↑s.length : Int).toNat s)).getD i 0).toNat : Int)])))
 (m10 : Nat) (e_m10 : m10 = (l9.length)) : iFun Tryz.prog (layN2.hd Tryz.prog) layN2.fhs 0 135 [.str s] [] k = (
 let z0 := Out.ret (AVal.tuple [AVal.int .i64 0, AVal.int .i64 4]) [];
 let z1 := Out.ret (AVal.tuple [AVal.int .i64 0, AVal.int .i64 33]) [];
 let z2 := Out.ret (AVal.tuple [AVal.int .i64 0, AVal.int .i64 8]) [];
 let z3 := numL (Int.toNat 0) (List.drop (Int.toNat 0) l9);
  bif ![45].isPrefixOf s then bif s == [] then k z2 else bif decide (0 < n0) || !!c1 then bif bif c1 then true else bif (↑(s.getD 0 0).toNat : Int) == 48 then decide (n0 > 1) else false then k z1 else bif tst ((Int.toNat 0 ≤ m3 ∧ m3 ≤ 1099511627776 ∧ Int.toNat 0 ≤ 9223372036854775808 ∧ Digs l2) ∧ SubTL [AVal.bool false, AVal.int .u64 0, AVal.list false s.length fun i => [AVal.int .u8 (↑(s.getD i 0).toNat : Int)], AVal.int .i64 n0, AVal.int .i64 0] [AVal.bool false, AVal.int .u64 (↑(Int.toNat 0) : Int), byL false l2, AVal.int .i64 (↑m3 : Int), AVal.int .i64 (↑(Int.toNat 0) : Int)] ∧ ([] : List (List AVal)) = [] ∧ ([] : Heap) = []) then bif (numL (Int.toNat 0) (List.drop (Int.toNat 0) l2)).fst then k z0 else bif decide (n4 > 9223372036854775807) then k z0 else k (Out.ret (AVal.tuple [AVal.int .i64 (IntKind.i64.wrap n4), AVal.int .i64 0]) []) else none else none else bif decide (1 ≤ n0) && decide (n0 ≤ n0) then bif l5 == [] then k z2 else bif decide (0 < n7) || !!c8 then bif bif c8 then true else bif (↑(l5.getD 0 0).toNat : Int) == 48 then true else false then k z1 else bif tst ((Int.toNat 0 ≤ m10 ∧ m10 ≤ 1099511627776 ∧ Int.toNat 0 ≤ 9223372036854775808 ∧ Digs l9) ∧ SubTL [AVal.bool true, AVal.int .u64 0, AVal.list false m6 fun i => [AVal.int .u8 (↑((List.drop (Int.toNat 1) (List.take (↑s.length : Int).toNat s)).getD i 0).toNat : Int)], AVal.int .i64 n7, AVal.int .i64 0] [AVal.bool true, AVal.int .u64 (↑(Int.toNat 0) : Int), byL false l9, AVal.int .i64 (↑m10 : Int), AVal.int .i64 (↑(Int.toNat 0) : Int)] ∧ ([] : List (List AVal)) = [] ∧ ([] : Heap) = []) then bif z3.fst then k z0 else k (Out.ret (AVal.tuple [AVal.int .i64 (IntKind.i64.wrap (IntKind.u64.wrap (0 - (↑z3.snd : Int)))), AVal.int .i64 0]) []) else none else none else none) := by
  subst e_n0 e_c1 e_l2 e_m3 e_n4 e_l5 e_m6 e_n7 e_c8 e_l9 e_m10
  kernel_rfl
def numM (s : Oc) : Int × Int :=
 bif [45].isPrefixOf s then
  (bif s.drop 1 == [] then (0, 8) else bif (s.drop 1).any ndC || (s.drop 1).getD 0 0 == 48 then (0, 33) else bif (numL 0 (s.drop 1)).1 then (0, 4) else (-((numL 0 (s.drop 1)).2 : Int), 0))
 else (bif s == [] then (0, 8) else bif s.any ndC || (s.getD 0 0 == 48 && decide (1 < s.length)) then (0, 33) else bif (numL 0 s).1 then (0, 4) else bif decide ((numL 0 s).2 > 9223372036854775807) then (0, 4) else ((numL 0 s).2, 0))
theorem numL_le : ∀ (t : Oc) (n : Nat), n ≤ 9223372036854775808 → (numL n t).2 ≤ 9223372036854775808
 | [], n, h => h
 | c :: t, n, h => by
  rw [numL]
  by_cases hb : n * 10 + (c.toNat - 48) > 9223372036854775808
  · rw [dT hb]; exact h
  · rw [dF hb]; exact numL_le t _ (by omega)
theorem wrapNeg {n : Nat} (h : n ≤ 9223372036854775808) : IntKind.i64.wrap (IntKind.u64.wrap (0 - (n : Int))) = -(n : Int) := by
 simp [IntKind.wrap, IntKind.signed, IntKind.bits]
 omega
theorem idx_any (l : Oc) : decide (Lib.idxFunc ndR true ⟨⟨l⟩⟩ ≥ 0) = l.any ndC := by
 have h := idxF_any l l.length 0 (by omega)
 rw [List.drop_zero] at h
 have hs : (⟨⟨l⟩⟩ : ByteArray).size = l.length := by simp [ByteArray.size]
 unfold Lib.idxFunc
 rw [hs]
 exact h
theorem nd_dig (c : UInt8) : ndC c = !dig c := by
 unfold ndC ndR dig
 rw [Bool.eq_iff_iff]
 simp only [Bool.or_eq_true, decide_eq_true_eq, Bool.not_eq_true', Bool.and_eq_false_iff, decide_eq_false_iff_not]
 omega
theorem digs_of {l : Oc} (h : l.any ndC = false) : Digs l := fun c hc => by
 rw [List.any_eq_false] at h
 have := h c hc
 rw [nd_dig] at this
 simpa using this
theorem num_call (s : Oc) (hs : s.length ≤ 1099511627776) (k : Out → Ans) : iFun Tryz.prog (layN2.hd Tryz.prog) layN2.fhs 0 135 [.str s] [] k = k (.ret (.tuple [.int .i64 (numM s).1, .int .i64 (numM s).2]) []) := by
 have e1 : (s.take ((s.length : Nat) : Int).toNat).drop (Int.toNat 1) = s.drop 1 := by rw [Int.toNat_natCast, List.take_length]; rfl
 have hd : (s.drop 1).length ≤ s.length := by simp
 have key := num_fun s k _ rfl (s.any ndC) (idx_any s).symm s (decL_encL (d := 0) (full := false) decB_enc s).symm _ rfl _ rfl (s.drop 1) e1.symm _ rfl _ rfl ((s.drop 1).any ndC) (idx_any _).symm (s.drop 1) (by rw [e1]; exact (decL_encL (d := 0) (full := false) decB_enc (s.drop 1)).symm) _ rfl
 rw [key]
 clear key
 rw [e1]
 unfold numM
 cases hp : [45].isPrefixOf s with
 | false =>
  simp only [Bool.not_false, cond_true, cond_false]
  cases s with
  | nil => rfl
  | cons c t =>
   have hne : ((c :: t) == []) = false := rfl
   simp only [hne, cond_false]
   have hl : (c :: t).length ≥ 1 := by simp
   generalize c :: t = s at *
   simp (disch := first | omega | decide) only [dT, Bool.true_or, cond_true, eqc, bif_or, bif_and]
   rw [show decide ((s.length : Int) > 1) = decide (1 < s.length) from decide_eq_decide.2 (by omega)]
   cases hb : s.any ndC || (s.getD 0 0 == 48 && decide (1 < s.length)) with
   | true => rfl
   | false =>
    simp only [cond_false]
    rw [Bool.or_eq_false_iff] at hb
    refine (congrArg (fun c => cond c _ none) (tst_true ⟨⟨Nat.zero_le _, hs, Nat.zero_le _, digs_of hb.1⟩, .refl _, by trivial, by trivial⟩)).trans ?_
    simp only [cond_true, Int.toNat_zero, List.drop_zero]
    have hn := numL_le s 0 (by omega)
    cases (numL 0 s).1 with
    | true => rfl
    | false =>
     simp only [cond_false]
     rw [show decide (((numL 0 s).2 : Int) > 9223372036854775807) = decide ((numL 0 s).2 > 9223372036854775807) from decide_eq_decide.2 (by omega)]
     by_cases hg : (numL 0 s).2 > 9223372036854775807
     · rw [dT hg]; rfl
     · rw [dF hg]
       simp only [cond_false]
       rw [wrapI (by omega) (by omega)]
 | true =>
  have hl := pre_len hp
  simp only [List.length_cons, List.length_nil] at hl
  simp only [Bool.not_true, cond_true, cond_false]
  simp (disch := omega) only [dT, Bool.and_self, cond_true]
  generalize s.drop 1 = u at *
  cases u with
  | nil => rfl
  | cons c t =>
   have hne : ((c :: t) == []) = false := rfl
   simp only [hne, cond_false]
   have hl : (c :: t).length ≥ 1 := by simp
   generalize c :: t = s at *
   simp (disch := first | omega | decide) only [dT, Bool.true_or, cond_true, eqc, bif_or, bif_and, Bool.and_true]
   cases hb : s.any ndC || s.getD 0 0 == 48 with
   | true => rfl
   | false =>
    simp only [cond_false]
    rw [Bool.or_eq_false_iff] at hb
    refine (congrArg (fun c => cond c _ none) (tst_true ⟨⟨Nat.zero_le _, by omega, Nat.zero_le _, digs_of hb.1⟩, .refl _, by trivial, by trivial⟩)).trans ?_
    simp only [cond_true, Int.toNat_zero, List.drop_zero]
    have hn := numL_le s 0 (by omega)
    cases (numL 0 s).1 with
    | true => rfl
    | false =>
     simp only [cond_false]
     rw [wrapNeg hn]
def numTold : FSp := mkFS [.s] (fun xs => decide ((aS xs 0).length ≤ 1099511627776)) (fun xs k => k (.ret (.tuple [.int .i64 (numM (aS xs 0)).1, .int .i64 (numM (aS xs 0)).2]) []))
theorem numTold_ok : ∀ xs H k out, numTold xs H k = some out → ∃ o, CallOK Tryz.prog 135 xs H o ∧ k o = some out := mkFS_ok fun ys xs e h => by
 obtain ⟨s, rfl⟩ : ∃ s, xs = [.str s] := ⟨_, e⟩
 exact ⟨_, fun k => rfl, layN2_ok.callF (G := []) rfl (fun k => num_call s (of_decide_eq_true h) k)⟩
end Go.Mu
namespace Go.Mu
open Go Go.Proofs
structure OneR where
 e : Int
 off : Nat
 kind : Int
 text : Oc
 len : Nat
end Go.Mu
namespace Go.Mu
open Go Go.Proofs
section
variable {P : Program}
end
structure WdD where
 kind : Int
 text : Oc
 at_ : Nat
structure WvA where
 w : WdH
 rows : List (List AVal)
 u : Nat
end Go.Mu
namespace Go.Mu
open Go Go.Proofs
theorem rLetter_fun (n : Int) (k : Out → Ans) : iFun Tryz.prog (Lay.nil.hd Tryz.prog) Lay.nil.fhs 0 45 [.int .u8 n] [] k = (
 k
 (Out.ret
 (AVal.bool
 (bif bif decide (n ≥ 97) then decide (n ≤ 122) else false then true
 else bif decide (n ≥ 65) then decide (n ≤ 90) else false))
  [])) := by kernel_rfl
theorem rDigit_fun (n : Int) (k : Out → Ans) : iFun Tryz.prog (Lay.nil.hd Tryz.prog) Lay.nil.fhs 0 46 [.int .u8 n] [] k = (
 k (Out.ret (AVal.bool (bif decide (n ≥ 48) then decide (n ≤ 57) else false)) [])) := by kernel_rfl
def rLtr (n : Int) : Bool := bif bif decide (n ≥ 97) then decide (n ≤ 122) else false then true else bif decide (n ≥ 65) then decide (n ≤ 90) else false
def rDgt (n : Int) : Bool := bif decide (n ≥ 48) then decide (n ≤ 57) else false
theorem rLtr_eq (c : UInt8) : rLtr (c.toNat : Int) = ltr c := by
 have h : ∀ n : Fin 256, rLtr ((UInt8.ofNat n).toNat : Int) = ltr (UInt8.ofNat n) := by decide +kernel
 have := h ⟨c.toNat, c.toNat_lt⟩
 simpa using this
theorem rDgt_eq (c : UInt8) : rDgt (c.toNat : Int) = dig c := by
 have h : ∀ n : Fin 256, rDgt ((UInt8.ofNat n).toNat : Int) = dig (UInt8.ofNat n) := by decide +kernel
 have := h ⟨c.toNat, c.toNat_lt⟩
 simpa using this
def octTold (p : Int → Bool) : FSp := mkFS [.i .u8] (fun _ => true) (fun xs k => k (.ret (.bool (p (aI xs 0))) []))
theorem octTold_ok {f : FuncId} {p : Int → Bool} (h : ∀ n k, iFun Tryz.prog (Lay.nil.hd Tryz.prog) Lay.nil.fhs 0 f [.int .u8 n] [] k = k (.ret (.bool (p n)) [])) : ∀ xs H k out, octTold p xs H k = some out → ∃ o, CallOK Tryz.prog f xs H o ∧ k o = some out := mkFS_ok fun ys xs e hx => by
 obtain ⟨n, rfl⟩ : ∃ n, xs = [.int .u8 n] := ⟨_, e⟩
 exact ⟨_, fun k => rfl, Lay.nil_ok.callF (G := []) rfl (fun k => h n k)⟩
structure SkA where
 s : Oc
 i : Nat
 H : Heap
end Go.Mu
namespace Go.Mu
open Go Go.Proofs
structure HsA where
 s : Oc
 n : Int
 i : Nat
 H : Heap
def anyI (s : Oc) (n : Int) : Bool := s.any (fun d => (d.toNat : Int) == n)
noncomputable def hsSp (R : Oc → Int → Bool) : LSp := mkL (fun vs _ H => HsA.mk (aS vs 0) (aI vs 1) (aI vs 2).toNat H) (fun a => a.i ≤ a.s.length ∧ a.s.length ≤ 1099511627776) (fun a => [.str a.s, .int .u8 a.n, .int .i64 a.i]) (fun _ => []) (fun a => a.H)
 (fun a k => cond (R (a.s.drop a.i) a.n) (k .ret [.bool true] [] a.H) (k (.exit 0) [.undef] [] a.H))
noncomputable def hsFH (R : Oc → Int → Bool) : FH := .of [(2, loopSpec 17 [0,1,5] [] [4] [] (hsSp R))]
theorem hs_step (R : Oc → Int → Bool) (s : Oc) (n i : Int) (H : Heap) (D : Dfs) (k : Kont) : lturn Tryz.prog Lay.nil (hsFH R) 43 2 [0,1,5] [] [4] [] (stL 17 [0,1,5] [.str s, .int .u8 n, .int .i64 i] [] [] H D) k = (
 let c0 : Bool := decide (i < (↑s.length : Int));
  bif c0 then
  bif decide (0 ≤ i) && c0 then
  bif (↑(s.getD i.toNat 0).toNat : Int) == n then k AExit.ret (stL 17 [4] [AVal.bool true] [] [] H D)
  else
  k AExit.normal
  (stL 17 [0, 1, 5] [AVal.str s, AVal.int .u8 n, AVal.int .i64 (IntKind.i64.wrap (i + 1))] [] [] H
  D)
  else none
  else k (AExit.exit 0) (stL 17 [4] [AVal.undef] [] [] H D)) := by kernel_rfl
noncomputable def layH1 (R : Oc → Int → Bool) : Lay := Lay.nil.addL 43 (hsFH R)
theorem hs_fun (R : Oc → Int → Bool) (s : Oc) (n : Int) (k : Out → Ans) : iFun Tryz.prog ((layH1 R).hd Tryz.prog) (layH1 R).fhs 0 43 [.str s, .int .u8 n] [] k = (
 bif
 tst
 ((Int.toNat 0 ≤ s.length ∧ s.length ≤ 1099511627776) ∧
 SubTL [AVal.str s, AVal.int .u8 n, AVal.int .i64 0]
 [AVal.str s, AVal.int .u8 n, AVal.int .i64 (↑(Int.toNat 0) : Int)] ∧
 ([] : List (List AVal)) = [] ∧ ([] : Heap) = []) then
 bif R (List.drop (Int.toNat 0) s) n then k (Out.ret (AVal.bool true) []) else k (Out.ret (AVal.bool false) [])
 else none) := by kernel_rfl
structure RdA where
 b : Bool
 s : Oc
 i : Nat
 H : Heap
structure RnA where
 b : Bool
 s : Oc
 n : Nat
 i : Nat
 H : Heap
theorem hs_runs (s : Oc) (n : Int) (hs : s.length ≤ 1099511627776) (H : Heap) (R : Oc → Int → Bool) : ∀ (m i : Nat), s.length - i ≤ m → i ≤ s.length →
 (anyI (s.drop i) n = true → LoopRuns (lturn Tryz.prog Lay.nil (hsFH R) 43 2 [0,1,5] [] [4] []) 17 [0,1,5] [] [4] [] [.str s, .int .u8 n, .int .i64 (i : Nat)] [] H .ret [.bool true] [] H) ∧
 (anyI (s.drop i) n = false → LoopRuns (lturn Tryz.prog Lay.nil (hsFH R) 43 2 [0,1,5] [] [4] []) 17 [0,1,5] [] [4] [] [.str s, .int .u8 n, .int .i64 (i : Nat)] [] H (.exit 0) [.undef] [] H) := by
 intro m
 induction m with
 | zero =>
  intro i hm hi
  have e : s.drop i = [] := List.drop_eq_nil_of_le (by omega)
  rw [e]
  refine ⟨(fun h => by cases h), fun _ => .stop (by simp) (fun D k => ?_)⟩
  rw [hs_step]
  simp (disch := omega) only [dF, cond_false]
 | succ m ih =>
  intro i hm hi
  have key := fun D k => hs_step R s n i H D k
  by_cases hlt : i < s.length
  · have ed := drop_cons_of s i 0 hlt
    simp (disch := omega) only [dT, cond_true, Bool.and_self, Int.toNat_natCast, wrap_add1] at key
    rw [ed, show anyI (s.getD i 0 :: s.drop (i + 1)) n = (((s.getD i 0).toNat : Int) == n || anyI (s.drop (i + 1)) n) from rfl]
    cases hc : ((s.getD i 0).toNat : Int) == n with
    | true =>
     simp only [hc, cond_true] at key
     exact ⟨fun _ => .stop (by simp) key, fun h => by cases h⟩
    | false =>
     simp only [hc, cond_false] at key
     rw [Bool.false_or]
     have := ih (i + 1) (by omega) (by omega)
     exact ⟨fun h => .step key (this.1 h), fun h => .step key (this.2 h)⟩
  · have e : s.drop i = [] := List.drop_eq_nil_of_le (by omega)
    rw [e]
    refine ⟨(fun h => by cases h), fun _ => .stop (by simp) (fun D k => ?_)⟩
    rw [hs_step]
    simp (disch := omega) only [dF, cond_false]
theorem hsSp_ok : SpOK (lturn Tryz.prog Lay.nil (hsFH anyI) 43 2 [0,1,5] [] [4] []) 17 [0,1,5] [] [4] [] (hsSp anyI) := mkL_ok fun a h => by
 have key := hs_runs a.s a.n h.2 a.H anyI _ a.i (Nat.le_refl _) h.1
 show ∃ e vs bs H, (∀ k : AExit → List AVal → List (List AVal) → Heap → Ans, cond (anyI (a.s.drop a.i) a.n) _ _ = k e vs bs H) ∧ _
 cases hb : anyI (a.s.drop a.i) a.n with
 | true => exact ⟨_, _, _, _, fun k => rfl, key.1 hb⟩
 | false => exact ⟨_, _, _, _, fun k => rfl, key.2 hb⟩
theorem layH1_ok : (layH1 anyI).OK Tryz.prog := Lay.nil_ok.loop1 (id := 2) (by kernel_rfl) (by kernel_rfl) (by kernel_rfl) hsSp_ok
def hasTold (R : Oc → Int → Bool) : FSp := mkFS [.s, .i .u8] (fun xs => decide ((aS xs 0).length ≤ 1099511627776)) (fun xs k => k (.ret (.bool (R (aS xs 0) (aI xs 1))) []))
theorem hasTold_ok : ∀ xs H k out, hasTold anyI xs H k = some out → ∃ o, CallOK Tryz.prog 43 xs H o ∧ k o = some out := mkFS_ok fun ys xs e h => by
 obtain ⟨s, n, rfl⟩ : ∃ s n, xs = [.str s, .int .u8 n] := ⟨_, _, e⟩
 refine ⟨_, fun k => rfl, layH1_ok.callF (G := []) rfl (fun k => (hs_fun anyI s n k).trans ?_)⟩
 refine (congrArg (fun c => cond c _ none) (tst_true ⟨⟨Nat.zero_le _, of_decide_eq_true h⟩, .refl _, rfl, rfl⟩)).trans ?_
 simp only [cond_true, Int.toNat_zero, List.drop_zero]
 show _ = k (.ret (.bool (anyI s n)) [])
 cases anyI s n <;> rfl
theorem begin_take : ∀ (a b : Oc), a.isPrefixOf b = (bif decide ((a.length : Int) ≤ b.length) then b.take a.length == a else false)
 | [], b => by rw [List.isPrefixOf, dT (by simp)]; rfl
 | c :: a, [] => by rw [dF (show ¬ ((c :: a).length : Int) ≤ ([] : Oc).length by simp only [List.length_cons, List.length_nil]; omega)]; rfl
 | c :: a, d :: b => by
  have := begin_take a b
  rw [List.isPrefixOf, this, show decide (((c :: a).length : Int) ≤ (d :: b).length) = decide ((a.length : Int) ≤ b.length) from decide_eq_decide.2 (by simp)]
  cases decide ((a.length : Int) ≤ b.length) with
  | false => simp
  | true =>
   simp only [cond_true, List.length_cons, List.take_succ_cons]
   show (c == d && (b.take a.length == a)) = (d == c && (b.take a.length == a))
   rw [Bool.beq_comm]
end Go.Mu
namespace Go.Mu
open Go Go.Proofs
def ibM (s : Oc) (n : Int) : Int := Lib.indexByte s (UInt8.ofNat n.toNat)
def ibTold : FSp := mkFS [.s, .i .u8] (fun _ => true) (fun xs k => k (.ret (.int .i64 (ibM (aS xs 0) (aI xs 1))) []))
theorem ib_fun (s : Oc) (n : Int) (k : Out → Ans) : iFun Tryz.prog (Lay.nil.hd Tryz.prog) Lay.nil.fhs 0 67 [.str s, .int .u8 n] [] k = (
 k (Out.ret (AVal.int .i64 (Lib.indexByte s n.toNat.toUInt8)) [])) := by kernel_rfl
theorem ibTold_ok : ∀ xs H k out, ibTold xs H k = some out → ∃ o, CallOK Tryz.prog 67 xs H o ∧ k o = some out := mkFS_ok fun ys xs e h => by
 obtain ⟨s, n, rfl⟩ : ∃ s n, xs = [.str s, .int .u8 n] := ⟨_, _, e⟩
 exact ⟨_, fun k => rfl, Lay.nil_ok.callF (G := []) rfl (fun k => ib_fun s n k)⟩
noncomputable def layY1 : Lay := Lay.nil.addF 67 ibTold
theorem layY1_ok : layY1.OK Tryz.prog := Lay.nil_ok.addF ibTold_ok
def smM (n : Int) : Int := bif decide (n ≥ 65) && decide (n ≤ 90) then IntKind.u8.wrap (n + 32) else n
def smTold : FSp := mkFS [.i .u8] (fun _ => true) (fun xs k => k (.ret (.int .u8 (smM (aI xs 0))) []))
theorem smTold_ok : ∀ xs H k out, smTold xs H k = some out → ∃ o, CallOK Tryz.prog 88 xs H o ∧ k o = some out := mkFS_ok fun ys xs e h => by
 obtain ⟨n, rfl⟩ : ∃ n, xs = [.int .u8 n] := ⟨_, e⟩
 refine ⟨_, fun k => rfl, Lay.nil_ok.callF (G := []) rfl (fun k => (small_fun n k).trans ?_)⟩
 show _ = k (.ret (.int .u8 (smM n)) [])
 unfold smM
 rw [bif_and]
 cases decide (n ≥ 65) && decide (n ≤ 90) <;> rfl
noncomputable def layY2 : Lay := layY1.addF 88 smTold
theorem layY2_ok : layY2.OK Tryz.prog := layY1_ok.addF smTold_ok
def nmrM (set s : Oc) : Bool := s.all (fun c => !decide (ibM set (c.toNat : Int) < 0))
def octDg : Oc := [48, 49, 50, 51, 52, 53, 54, 55, 56, 57]
def octHx : Oc := [48, 49, 50, 51, 52, 53, 54, 55, 56, 57, 97, 98, 99, 100, 101, 102, 65, 66, 67, 68, 69, 70]
structure NmA where
 s : Oc
 set : Oc
 n : Int
 i : Nat
 H : Heap
noncomputable def nmrSp (R : Oc → Oc → Bool) : LSp := mkL (fun vs _ H => NmA.mk (aS vs 0) (aS vs 1) (aI vs 2) (aI vs 3).toNat H) (fun a => a.i ≤ a.s.length ∧ a.s.length ≤ 1099511627776 ∧ a.n = a.s.length) (fun a => [.str a.s, .str a.set, .int .i64 a.n, .int .i64 a.i]) (fun _ => []) (fun a => a.H)
 (fun a k => cond (R a.set (a.s.drop a.i)) (k (.exit 0) [.str a.s, .undef] [] a.H) (k .ret [.str a.s, .bool false] [] a.H))
noncomputable def nmrFH (R : Oc → Oc → Bool) : FH := .of [(5, loopSpec 23 [0,5,9,10] [] [0,4] [] (nmrSp R))]
theorem nmr_step (R : Oc → Oc → Bool) (s set : Oc) (n i : Int) (H : Heap) (D : Dfs) (k : Kont) : lturn Tryz.prog layY1 (nmrFH R) 84 5 [0,5,9,10] [] [0,4] [] (stL 23 [0,5,9,10] [.str s, .str set, .int .i64 n, .int .i64 i] [] [] H D) k = (
 bif decide (i < n) then bif decide (0 ≤ i) && decide (i < (↑s.length : Int)) then bif decide (ibM set (↑(s.getD i.toNat 0).toNat : Int) < 0) then k AExit.ret (stL 23 [0, 4] [AVal.str s, AVal.bool false] [] [] H D) else k AExit.normal (stL 23 [0, 5, 9, 10] [AVal.str s, AVal.str set, AVal.int .i64 n, AVal.int .i64 (IntKind.i64.wrap (i + 1))] [] [] H D) else none else k (AExit.exit 0) (stL 23 [0, 4] [AVal.str s, AVal.undef] [] [] H D)) := by kernel_rfl
theorem nmr_runs (s set : Oc) (hs : s.length ≤ 1099511627776) (H : Heap) (R : Oc → Oc → Bool) : ∀ (m i : Nat), s.length - i ≤ m → i ≤ s.length →
 (nmrM set (s.drop i) = true → LoopRuns (lturn Tryz.prog layY1 (nmrFH R) 84 5 [0,5,9,10] [] [0,4] []) 23 [0,5,9,10] [] [0,4] [] [.str s, .str set, .int .i64 s.length, .int .i64 (i : Nat)] [] H (.exit 0) [.str s, .undef] [] H) ∧
 (nmrM set (s.drop i) = false → LoopRuns (lturn Tryz.prog layY1 (nmrFH R) 84 5 [0,5,9,10] [] [0,4] []) 23 [0,5,9,10] [] [0,4] [] [.str s, .str set, .int .i64 s.length, .int .i64 (i : Nat)] [] H .ret [.str s, .bool false] [] H) := by
 intro m
 induction m with
 | zero =>
  intro i hm hi
  have e : s.drop i = [] := List.drop_eq_nil_of_le (by omega)
  rw [e]
  refine ⟨fun _ => .stop (by simp) (fun D k => ?_), (fun h => by cases h)⟩
  rw [nmr_step]
  simp (disch := omega) only [dF, cond_false]
 | succ m ih =>
  intro i hm hi
  have key := fun D k => nmr_step R s set s.length i H D k
  by_cases hlt : i < s.length
  · have ed := drop_cons_of s i 0 hlt
    simp (disch := omega) only [dT, cond_true, Bool.and_self, Int.toNat_natCast, wrap_add1] at key
    rw [ed, show nmrM set (s.getD i 0 :: s.drop (i + 1)) = (!decide (ibM set ((s.getD i 0).toNat : Int) < 0) && nmrM set (s.drop (i + 1))) from rfl]
    cases hc : decide (ibM set ((s.getD i 0).toNat : Int) < 0) with
    | true =>
     simp only [hc, cond_true] at key
     exact ⟨(fun h => by cases h), fun _ => .stop (by simp) key⟩
    | false =>
     simp only [hc, cond_false] at key
     rw [Bool.not_false, Bool.true_and]
     have := ih (i + 1) (by omega) (by omega)
     exact ⟨fun h => .step key (this.1 h), fun h => .step key (this.2 h)⟩
  · have e : s.drop i = [] := List.drop_eq_nil_of_le (by omega)
    rw [e]
    refine ⟨fun _ => .stop (by simp) (fun D k => ?_), (fun h => by cases h)⟩
    rw [nmr_step]
    simp (disch := omega) only [dF, cond_false]
theorem nmrSp_ok : SpOK (lturn Tryz.prog layY1 (nmrFH nmrM) 84 5 [0,5,9,10] [] [0,4] []) 23 [0,5,9,10] [] [0,4] [] (nmrSp nmrM) := mkL_ok fun a h => by
 obtain ⟨s, set, n, i, H⟩ := a
 obtain ⟨h1, h2, h3⟩ := h
 simp only at h1 h2 h3
 subst h3
 have key := nmr_runs s set h2 H nmrM _ i (Nat.le_refl _) h1
 show ∃ e vs bs H', (∀ k : AExit → List AVal → List (List AVal) → Heap → Ans, cond (nmrM set (s.drop i)) _ _ = k e vs bs H') ∧ _
 cases hb : nmrM set (s.drop i) with
 | true => exact ⟨_, _, _, _, fun k => rfl, key.1 hb⟩
 | false => exact ⟨_, _, _, _, fun k => rfl, key.2 hb⟩
noncomputable def layY3 (R : Oc → Oc → Bool) : Lay := layY1.addL 84 (nmrFH R)
theorem nmr_fun (R : Oc → Oc → Bool) (s : Oc) (b : Bool) (k : Out → Ans) : iFun Tryz.prog ((layY3 R).hd Tryz.prog) (layY3 R).fhs 0 84 [.str s, .bool b] [] k = (
 let n0 : Int := (↑s.length : Int);
 let l1 : Oc := List.drop (Int.toNat 0) s;
 let z0 := [48, 49, 50, 51, 52, 53, 54, 55, 56, 57, 97, 98, 99, 100, 101, 102, 65, 66, 67, 68, 69, 70];
 let z1 := [48, 49, 50, 51, 52, 53, 54, 55, 56, 57];
 let z2 := Int.toNat 0 ≤ s.length ∧ s.length ≤ 1099511627776 ∧ n0 = n0;
  bif b then bif tst (z2 ∧ SubTL [AVal.str s, AVal.str z0, AVal.int .i64 n0, AVal.int .i64 0] [AVal.str s, AVal.str z0, AVal.int .i64 n0, AVal.int .i64 (↑(Int.toNat 0) : Int)] ∧ ([] : List (List AVal)) = [] ∧ ([] : Heap) = []) then bif R z0 l1 then k (Out.ret (AVal.bool (decide (n0 ≤ 7))) []) else k (Out.ret (AVal.bool false) []) else none else bif tst (z2 ∧ SubTL [AVal.str s, AVal.str z1, AVal.int .i64 n0, AVal.int .i64 0] [AVal.str s, AVal.str z1, AVal.int .i64 n0, AVal.int .i64 (↑(Int.toNat 0) : Int)] ∧ ([] : List (List AVal)) = [] ∧ ([] : Heap) = []) then bif R z1 l1 then k (Out.ret (AVal.bool (decide (n0 ≤ 7))) []) else k (Out.ret (AVal.bool false) []) else none) := by kernel_rfl
theorem layY3_ok : (layY3 nmrM).OK Tryz.prog := layY1_ok.loop1 (id := 5) (by kernel_rfl) (by kernel_rfl) (by kernel_rfl) nmrSp_ok
def numB (s : Oc) (b : Bool) : Bool := nmrM (bif b then octHx else octDg) s && decide (s.length ≤ 7)
def numrTold : FSp := mkFS [.s, .b] (fun xs => decide ((aS xs 0).length ≤ 1099511627776)) (fun xs k => k (.ret (.bool (numB (aS xs 0) (aB xs 1))) []))
theorem numrTold_ok : ∀ xs H k out, numrTold xs H k = some out → ∃ o, CallOK Tryz.prog 84 xs H o ∧ k o = some out := mkFS_ok fun ys xs e h => by
 obtain ⟨s, b, rfl⟩ : ∃ s b, xs = [.str s, .bool b] := ⟨_, _, e⟩
 replace h : s.length ≤ 1099511627776 := of_decide_eq_true h
 refine ⟨_, fun k => rfl, layY3_ok.callF (G := []) rfl (fun k => (nmr_fun nmrM s b k).trans ?_)⟩
 show _ = k (.ret (.bool (numB s b)) [])
 have e7 : decide ((s.length : Int) ≤ 7) = decide (s.length ≤ 7) := decide_eq_decide.2 (by omega)
 unfold numB
 simp only [e7, Int.toNat_zero, List.drop_zero]
 cases b with
 | true =>
  refine (congrArg (fun c => cond c _ none) (tst_true ⟨⟨Nat.zero_le _, h, trivial⟩, .refl _, trivial, trivial⟩)).trans ?_
  simp only [cond_true]
  show _ = k (.ret (.bool (nmrM octHx s && _)) [])
  unfold octHx
  cases nmrM [48, 49, 50, 51, 52, 53, 54, 55, 56, 57, 97, 98, 99, 100, 101, 102, 65, 66, 67, 68, 69, 70] s <;> rfl
 | false =>
  refine (congrArg (fun c => cond c _ none) (tst_true ⟨⟨Nat.zero_le _, h, trivial⟩, .refl _, trivial, trivial⟩)).trans ?_
  simp only [cond_true, cond_false]
  show _ = k (.ret (.bool (nmrM octDg s && _)) [])
  unfold octDg
  cases nmrM [48, 49, 50, 51, 52, 53, 54, 55, 56, 57] s <;> rfl
def hexT : Oc := [48, 49, 50, 51, 52, 53, 54, 55, 56, 57, 97, 98, 99, 100, 101, 102]
def hexD (c : UInt8) : Int := ibM hexT (smM (c.toNat : Int))
def hexS (n d : Int) : Int := IntKind.i64.wrap (((BitVec.ofInt 64 (IntKind.i64.wrap (n * 16)) ||| BitVec.ofInt 64 d).toNat : Nat) : Int)
def uhM : Int → Oc → Bool × Int
 | n, [] => (true, n)
 | n, c :: l => bif decide (hexD c < 0) then (false, n) else uhM (hexS n (hexD c)) l
def vaS (n : Int) (c : UInt8) : Int := IntKind.i64.wrap (IntKind.i64.wrap (n * 10) + IntKind.i64.wrap (IntKind.u8.wrap ((c.toNat : Int) - 48)))
def vaM (n : Int) (l : Oc) : Int := l.foldl vaS n
structure UhA where
 n : Int
 f : Bool
 l : Oc
 m : Int
 i : Nat
 H : Heap
abbrev UhR := Int → Oc → Bool × Int
noncomputable def uhSp (R : UhR) : LSp := mkL (fun vs _ H => UhA.mk (aI vs 0) (fullOf (vs.getD 1 .undef)) (decL decB (vs.getD 1 .undef)) (aI vs 2) (aI vs 3).toNat H) (fun a => a.i ≤ a.l.length ∧ a.l.length ≤ 1099511627776 ∧ a.m = a.l.length) (fun a => [.int .i64 a.n, encL a.f byteRow 0 a.l, .int .i64 a.m, .int .i64 a.i]) (fun _ => []) (fun a => a.H)
 (fun a k => cond (R a.n (a.l.drop a.i)).1 (k (.exit 1) [.undef, .undef, .int .i64 (R a.n (a.l.drop a.i)).2] [] a.H) (k .ret [.int .i64 0, .int .i64 33, .int .i64 (R a.n (a.l.drop a.i)).2] [] a.H))
noncomputable def uhFH (R : UhR) : FH := .of [(7, loopSpec 33 [4,16,17,18] [] [2,3,4] [] (uhSp R))]
theorem uh_step (R : UhR) (n : Int) (f : Bool) (l : Oc) (m i : Int) (H : Heap) (D : Dfs) (k : Kont) : lturn Tryz.prog layY2 (uhFH R) 53 7 [4,16,17,18] [] [2,3,4] [] (stL 33 [4,16,17,18] [.int .i64 n, encL f byteRow 0 l, .int .i64 m, .int .i64 i] [] [] H D) k = (
 let n0 : Int := ibM [48, 49, 50, 51, 52, 53, 54, 55, 56, 57, 97, 98, 99, 100, 101, 102] (smM (↑(l.getD i.toNat 0).toNat : Int));
  bif decide (i < m) then bif decide (0 ≤ i) && decide (i < (↑l.length : Int)) then bif decide (n0 < 0) then k AExit.ret (stL 33 [2, 3, 4] [AVal.int .i64 0, AVal.int .i64 33, AVal.int .i64 n] [] [] H D) else k AExit.normal (stL 33 [4, 16, 17, 18] [AVal.int .i64 (IntKind.i64.wrap (↑(BitVec.ofInt 64 (IntKind.i64.wrap (n * 16)) ||| BitVec.ofInt 64 n0).toNat : Int)), AVal.list f l.length fun i => [AVal.int .u8 (↑(l.getD i 0).toNat : Int)], AVal.int .i64 m, AVal.int .i64 (IntKind.i64.wrap (i + 1))] [] [] H D) else none else k (AExit.exit 1) (stL 33 [2, 3, 4] [AVal.undef, AVal.undef, AVal.int .i64 n] [] [] H D)) := by kernel_rfl
theorem uh_runs (f : Bool) (l : Oc) (hs : l.length ≤ 1099511627776) (H : Heap) (R : UhR) : ∀ (m i : Nat) (n : Int), l.length - i ≤ m → i ≤ l.length →
 ((uhM n (l.drop i)).1 = true → LoopRuns (lturn Tryz.prog layY2 (uhFH R) 53 7 [4,16,17,18] [] [2,3,4] []) 33 [4,16,17,18] [] [2,3,4] [] [.int .i64 n, encL f byteRow 0 l, .int .i64 l.length, .int .i64 (i : Nat)] [] H (.exit 1) [.undef, .undef, .int .i64 (uhM n (l.drop i)).2] [] H) ∧
 ((uhM n (l.drop i)).1 = false → LoopRuns (lturn Tryz.prog layY2 (uhFH R) 53 7 [4,16,17,18] [] [2,3,4] []) 33 [4,16,17,18] [] [2,3,4] [] [.int .i64 n, encL f byteRow 0 l, .int .i64 l.length, .int .i64 (i : Nat)] [] H .ret [.int .i64 0, .int .i64 33, .int .i64 (uhM n (l.drop i)).2] [] H) := by
 intro m
 induction m with
 | zero =>
  intro i n hm hi
  have e : l.drop i = [] := List.drop_eq_nil_of_le (by omega)
  rw [e]
  refine ⟨fun _ => .stop (by simp) (fun D k => ?_), (fun h => by cases h)⟩
  rw [uh_step]
  simp (disch := omega) only [dF, cond_false]
  rfl
 | succ m ih =>
  intro i n hm hi
  have key := fun D k => uh_step R n f l l.length i H D k
  by_cases hlt : i < l.length
  · have ed := drop_cons_of l i 0 hlt
    simp (disch := omega) only [dT, cond_true, Bool.and_self, Int.toNat_natCast, wrap_add1] at key
    rw [ed, uhM]
    replace key : ∀ (D : Dfs) (k : Kont), lturn Tryz.prog layY2 (uhFH R) 53 7 [4,16,17,18] [] [2,3,4] [] (stL 33 [4,16,17,18] [.int .i64 n, encL f byteRow 0 l, .int .i64 l.length, .int .i64 (i : Nat)] [] [] H D) k = bif decide (hexD (l.getD i 0) < 0) then k .ret (stL 33 [2,3,4] [.int .i64 0, .int .i64 33, .int .i64 n] [] [] H D) else k .normal (stL 33 [4,16,17,18] [.int .i64 (hexS n (hexD (l.getD i 0))), encL f byteRow 0 l, .int .i64 l.length, .int .i64 ((i + 1 : Nat) : Int)] [] [] H D) := key
    cases hc : decide (hexD (l.getD i 0) < 0) with
    | true =>
     simp only [hc, cond_true] at key ⊢
     exact ⟨(fun h => by cases h), fun _ => .stop (by simp) key⟩
    | false =>
     simp only [hc, cond_false] at key ⊢
     have := ih (i + 1) (hexS n (hexD (l.getD i 0))) (by omega) (by omega)
     exact ⟨fun h => .step key (this.1 h), fun h => .step key (this.2 h)⟩
  · have e : l.drop i = [] := List.drop_eq_nil_of_le (by omega)
    rw [e]
    refine ⟨fun _ => .stop (by simp) (fun D k => ?_), (fun h => by cases h)⟩
    rw [uh_step]
    simp (disch := omega) only [dF, cond_false]
    rfl
theorem uhSp_ok : SpOK (lturn Tryz.prog layY2 (uhFH uhM) 53 7 [4,16,17,18] [] [2,3,4] []) 33 [4,16,17,18] [] [2,3,4] [] (uhSp uhM) := mkL_ok fun a h => by
 obtain ⟨n, f, l, m, i, H⟩ := a
 obtain ⟨h1, h2, h3⟩ := h
 simp only at h1 h2 h3
 subst h3
 have key := uh_runs f l h2 H uhM _ i n (Nat.le_refl _) h1
 show ∃ e vs bs H', (∀ k : AExit → List AVal → List (List AVal) → Heap → Ans, cond (uhM n (l.drop i)).1 _ _ = k e vs bs H') ∧ _
 cases hb : (uhM n (l.drop i)).1 with
 | true => exact ⟨_, _, _, _, fun k => rfl, key.1 hb⟩
 | false => exact ⟨_, _, _, _, fun k => rfl, key.2 hb⟩
noncomputable def layY4 (R : UhR) : Lay := layY2.addL 53 (uhFH R)
theorem uh_fun (R : UhR) (s : Oc) (k : Out → Ans) : iFun Tryz.prog ((layY4 R).hd Tryz.prog) (layY4 R).fhs 0 53 [.str s] [] k = (
 let n0 : Int := (↑s.length : Int);
 let l1 : Oc := decL (fun (r : List AVal) => byteOf r) (AVal.list false s.length fun i => [AVal.int .u8 (↑(s.getD i 0).toNat : Int)]);
 let m2 : Nat := l1.length;
  bif s == [] then k (Out.ret (AVal.tuple [AVal.int .i64 0, AVal.int .i64 8]) []) else bif decide (n0 > 8) then k (Out.ret (AVal.tuple [AVal.int .i64 0, AVal.int .i64 5]) []) else bif tst ((Int.toNat 0 ≤ m2 ∧ m2 ≤ 1099511627776 ∧ n0 = (↑m2 : Int)) ∧ SubTL [AVal.int .i64 0, AVal.list false s.length fun i => [AVal.int .u8 (↑(s.getD i 0).toNat : Int)], AVal.int .i64 n0, AVal.int .i64 0] [AVal.int .i64 0, AVal.list false m2 fun i => [AVal.int .u8 (↑((decL (fun (r : List AVal) => byteOf r) (AVal.list false s.length fun i => [AVal.int .u8 (↑(s.getD i 0).toNat : Int)])).getD i 0).toNat : Int)], AVal.int .i64 n0, AVal.int .i64 (↑(Int.toNat 0) : Int)] ∧ ([] : List (List AVal)) = [] ∧ ([] : Heap) = []) then bif (R 0 (List.drop (Int.toNat 0) l1)).fst then k (Out.ret (AVal.tuple [AVal.int .i64 (R 0 (List.drop (Int.toNat 0) l1)).snd, AVal.int .i64 0]) []) else k (Out.ret (AVal.tuple [AVal.int .i64 0, AVal.int .i64 33]) []) else none) := by kernel_rfl
theorem layY4_ok : (layY4 uhM).OK Tryz.prog := layY2_ok.loop1 (id := 7) (by kernel_rfl) (by kernel_rfl) (by kernel_rfl) uhSp_ok
def unhexM (s : Oc) : Int × Int := bif s == [] then (0, 8) else bif decide ((s.length : Int) > 8) then (0, 5) else bif (uhM 0 s).1 then ((uhM 0 s).2, 0) else (0, 33)
def unhexTold : FSp := mkFS [.s] (fun _ => true) (fun xs k => k (.ret (.tuple [.int .i64 (unhexM (aS xs 0)).1, .int .i64 (unhexM (aS xs 0)).2]) []))
theorem bytes_back (s : Oc) : decL (fun (r : List AVal) => byteOf r) (AVal.list false s.length fun i => [AVal.int .u8 ((s.getD i 0).toNat : Int)]) = s := decL_encL (d := 0) (full := false) decB_enc s
theorem unhexTold_ok : ∀ xs H k out, unhexTold xs H k = some out → ∃ o, CallOK Tryz.prog 53 xs H o ∧ k o = some out := mkFS_ok fun ys xs e h => by
 obtain ⟨s, rfl⟩ : ∃ s, xs = [.str s] := ⟨_, e⟩
 refine ⟨_, fun k => rfl, layY4_ok.callF (G := []) rfl (fun k => (uh_fun uhM s k).trans ?_)⟩
 show _ = k (.ret (.tuple [.int .i64 (unhexM s).1, .int .i64 (unhexM s).2]) [])
 unfold unhexM
 simp only [bytes_back]
 cases s == [] with
 | true => rfl
 | false =>
  simp only [cond_false]
  by_cases h8 : (s.length : Int) > 8
  · rw [dT h8]; rfl
  · rw [dF h8]
    simp only [cond_false]
    refine (congrArg (fun c => cond c _ none) (tst_true ⟨⟨Nat.zero_le _, by omega, trivial⟩, .refl _, by trivial⟩)).trans ?_
    simp only [cond_true, Int.toNat_zero, List.drop_zero]
    cases (uhM 0 s).1 <;> rfl
noncomputable def layY5 : Lay := (Lay.nil.addF 53 unhexTold)
theorem layY5_ok : layY5.OK Tryz.prog := Lay.nil_ok.addF unhexTold_ok
noncomputable def vaSp (R : Int → Oc → Int) : LSp := mkL (fun vs _ H => UhA.mk (aI vs 0) (fullOf (vs.getD 1 .undef)) (decL decB (vs.getD 1 .undef)) (aI vs 2) (aI vs 3).toNat H) (fun a => a.i ≤ a.l.length ∧ a.l.length ≤ 1099511627776 ∧ a.m = a.l.length) (fun a => [.int .i64 a.n, encL a.f byteRow 0 a.l, .int .i64 a.m, .int .i64 a.i]) (fun _ => []) (fun a => a.H)
 (fun a k => k (.exit 0) [.int .i64 (R a.n (a.l.drop a.i))] [] a.H)
noncomputable def vaFH (R : Int → Oc → Int) : FH := .of [(6, loopSpec 32 [7,18,19,20] [] [7] [] (vaSp R))]
theorem va_step (R : Int → Oc → Int) (n : Int) (f : Bool) (l : Oc) (m i : Int) (H : Heap) (D : Dfs) (k : Kont) : lturn Tryz.prog layY5 (vaFH R) 85 6 [7,18,19,20] [] [7] [] (stL 32 [7,18,19,20] [.int .i64 n, encL f byteRow 0 l, .int .i64 m, .int .i64 i] [] [] H D) k = (
 bif decide (i < m) then bif decide (0 ≤ i) && decide (i < (↑l.length : Int)) then k AExit.normal (stL 32 [7, 18, 19, 20] [AVal.int .i64 (IntKind.i64.wrap (IntKind.i64.wrap (n * 10) + IntKind.i64.wrap (IntKind.u8.wrap ((↑(l.getD i.toNat 0).toNat : Int) - 48)))), AVal.list f l.length fun i => [AVal.int .u8 (↑(l.getD i 0).toNat : Int)], AVal.int .i64 m, AVal.int .i64 (IntKind.i64.wrap (i + 1))] [] [] H D) else none else k (AExit.exit 0) (stL 32 [7] [AVal.int .i64 n] [] [] H D)) := by kernel_rfl
theorem va_runs (f : Bool) (l : Oc) (hs : l.length ≤ 1099511627776) (H : Heap) (R : Int → Oc → Int) : ∀ (m i : Nat) (n : Int), l.length - i ≤ m → i ≤ l.length →
 LoopRuns (lturn Tryz.prog layY5 (vaFH R) 85 6 [7,18,19,20] [] [7] []) 32 [7,18,19,20] [] [7] [] [.int .i64 n, encL f byteRow 0 l, .int .i64 l.length, .int .i64 (i : Nat)] [] H (.exit 0) [.int .i64 (vaM n (l.drop i))] [] H := by
 intro m
 induction m with
 | zero =>
  intro i n hm hi
  have e : l.drop i = [] := List.drop_eq_nil_of_le (by omega)
  rw [e]
  refine .stop (by simp) (fun D k => ?_)
  rw [va_step]
  simp (disch := omega) only [dF, cond_false]
  rfl
 | succ m ih =>
  intro i n hm hi
  have key := fun D k => va_step R n f l l.length i H D k
  by_cases hlt : i < l.length
  · have ed := drop_cons_of l i 0 hlt
    simp (disch := omega) only [dT, cond_true, Bool.and_self, Int.toNat_natCast, wrap_add1] at key
    rw [ed]
    replace key : ∀ (D : Dfs) (k : Kont), lturn Tryz.prog layY5 (vaFH R) 85 6 [7,18,19,20] [] [7] [] (stL 32 [7,18,19,20] [.int .i64 n, encL f byteRow 0 l, .int .i64 l.length, .int .i64 (i : Nat)] [] [] H D) k = k .normal (stL 32 [7,18,19,20] [.int .i64 (vaS n (l.getD i 0)), encL f byteRow 0 l, .int .i64 l.length, .int .i64 ((i + 1 : Nat) : Int)] [] [] H D) := key
    exact .step key (ih (i + 1) (vaS n (l.getD i 0)) (by omega) (by omega))
  · have e : l.drop i = [] := List.drop_eq_nil_of_le (by omega)
    rw [e]
    refine .stop (by simp) (fun D k => ?_)
    rw [va_step]
    simp (disch := omega) only [dF, cond_false]
    rfl
theorem vaSp_ok : SpOK (lturn Tryz.prog layY5 (vaFH vaM) 85 6 [7,18,19,20] [] [7] []) 32 [7,18,19,20] [] [7] [] (vaSp vaM) := mkL_ok fun a h => by
 obtain ⟨n, f, l, m, i, H⟩ := a
 obtain ⟨h1, h2, h3⟩ := h
 simp only at h1 h2 h3
 subst h3
 exact ⟨_, _, _, _, fun k => rfl, va_runs f l h2 H vaM _ i n (Nat.le_refl _) h1⟩
end Go.Mu
namespace Go.Mu
open Go Go.Proofs
noncomputable def laySm : Lay := Lay.nil.addF 88 smTold
theorem laySm_ok : laySm.OK Tryz.prog := Lay.nil_ok.addF smTold_ok
structure TuA where
 q : Nat
 n : Int
 v : Nat
 rows : List (List AVal)
 i : Nat
def allB (rows : List (List AVal)) : Bool := rows.all isByteRow
def ownL : AVal → Nat
 | .own _ _ n _ _ => n
 | _ => 0
def tuR (rows : List (List AVal)) (i : Nat) : List (List AVal) := rows.take i ++ (rows.drop i).map (fun r => [.int .u8 (smM (intOf (r.getD 0 .undef)))])
noncomputable def tuSp (R : List (List AVal) → Nat → List (List AVal)) : LSp := mkL (fun vs _ H => TuA.mk (ownL (vs.getD 1 .undef)) (aI vs 3) (verO (H.getD 0 (.var []))) (rowsO (H.getD 0 (.var []))) (aI vs 4).toNat) (fun a => a.q = a.rows.length ∧ a.n = a.rows.length ∧ a.i ≤ a.rows.length ∧ a.rows.length ≤ 1099511627776 ∧ allB a.rows = true)
 (fun a => [.func 88 [], .own 0 0 a.q a.v false, .own 0 0 a.q a.v false, .int .i64 a.n, .int .i64 (a.i : Nat)]) (fun _ => []) (fun a => [.arr 1 a.rows a.v])
 (fun a k => k (.exit 0) [.own 0 0 a.q a.v false] [] [.arr 1 (R a.rows a.i) a.v])
noncomputable def tuFH (R : List (List AVal) → Nat → List (List AVal)) : FH := { FH.of [(3, loopSpec 26 [1,5,10,11,12] [] [5] [] (tuSp R))] with own := [9] }
theorem tu_step (R : List (List AVal) → Nat → List (List AVal)) (n v : Nat) (m i : Int) (rows : List (List AVal)) (D : Dfs) (k : Kont) : lturn Tryz.prog laySm (tuFH R) 98 3 [1,5,10,11,12] [] [5] [] (stL 26 [1,5,10,11,12] [.func 88 [], .own 0 0 n v false, .own 0 0 n v false, .int .i64 m, .int .i64 i] [] [] [.arr 1 rows v] D) k = (
 let c0 : Bool := v == v;
 let c1 : Bool := c0 && decide (0 ≤ i) && decide (i < (↑n : Int));
 let m2 : Nat := 0 + i.toNat;
 let c3 : Bool := c0 && decide (m2 < rows.length) && true;
  bif decide (i < m) then bif c1 then bif c3 && isInt IntKind.u8 ((rows.getD m2 []).getD 0 AVal.undef) then bif c1 then bif c3 then k AExit.normal (stL 26 [1, 5, 10, 11, 12] [AVal.func 88 [], AVal.own 0 0 n v false, AVal.own 0 0 n v false, AVal.int .i64 m, AVal.int .i64 (IntKind.i64.wrap (i + 1))] [] [] [Obj.arr 1 (rows.set m2 ((rows.getD m2 []).set 0 (AVal.int .u8 (smM (intOf ((rows.getD m2 []).getD 0 AVal.undef)))))) v] D) else none else none else none else none else k (AExit.exit 0) (stL 26 [5] [AVal.own 0 0 n v false] [] [] [Obj.arr 1 rows v] D)) := by kernel_rfl
noncomputable def layTu (R : List (List AVal) → Nat → List (List AVal)) : Lay := laySm.addL 98 (tuFH R)
theorem lower_fun (R : List (List AVal) → Nat → List (List AVal)) (s : Oc) (k : Out → Ans) : iFun Tryz.prog ((layTu R).hd Tryz.prog) (layTu R).fhs 0 70 [.str s] [] k = (
 let m0 : Nat := ownL (AVal.own 0 0 s.length 0 false);
 let m1 : Nat := (List.map (fun (c : UInt8) => [AVal.int .u8 (↑c.toNat : Int)]) s).length;
 let n2 : Int := (↑s.length : Int);
  bif tst ((m0 = m1 ∧ n2 = (↑m1 : Int) ∧ Int.toNat 0 ≤ m1 ∧ m1 ≤ 1099511627776 ∧ allB (List.map (fun (c : UInt8) => [AVal.int .u8 (↑c.toNat : Int)]) s) = true) ∧ SubTL [AVal.func 88 [], AVal.own 0 0 s.length 0 false, AVal.own 0 0 s.length 0 false, AVal.int .i64 n2, AVal.int .i64 0] [AVal.func 88 [], AVal.own 0 0 m0 0 false, AVal.own 0 0 m0 0 false, AVal.int .i64 n2, AVal.int .i64 (↑(Int.toNat 0) : Int)] ∧ ([] : List (List AVal)) = [] ∧ [Obj.arr 1 (List.map (fun (c : UInt8) => [AVal.int .u8 (↑c.toNat : Int)]) s) 0] = [Obj.arr 1 (List.map (fun (c : UInt8) => [AVal.int .u8 (↑c.toNat : Int)]) s) 0]) then bif decide (0 + m0 ≤ (R (List.map (fun (c : UInt8) => [AVal.int .u8 (↑c.toNat : Int)]) s) (Int.toNat 0)).length) && (List.take m0 (List.drop 0 (R (List.map (fun (c : UInt8) => [AVal.int .u8 (↑c.toNat : Int)]) s) (Int.toNat 0)))).all fun (r : List AVal) => match r with | [v] => isInt IntKind.u8 v | x => false then k (Out.ret (AVal.str (List.map (fun (r : List AVal) => UInt8.ofNat (intOf (r.getD 0 AVal.undef)).toNat) (List.take m0 (List.drop 0 (R (List.map (fun (c : UInt8) => [AVal.int .u8 (↑c.toNat : Int)]) s) (Int.toNat 0)))))) []) else none else none) := by kernel_rfl
def subR (r : List AVal) : List AVal := [.int .u8 (smM (intOf (r.getD 0 .undef)))]
theorem allB_get {rows : List (List AVal)} (h : allB rows = true) {i : Nat} (hi : i < rows.length) : ∃ v, rows.getD i [] = [v] ∧ isInt .u8 v = true := by
 unfold allB at h
 rw [List.all_eq_true] at h
 have hm : rows.getD i [] ∈ rows := by
  rw [List.getD_eq_getElem?_getD, List.getElem?_eq_getElem hi]
  exact List.getElem_mem _
 have := h _ hm
 match hr : rows.getD i [], this with
 | [v], hv => exact ⟨v, rfl, hv⟩
theorem tuR_step {rows : List (List AVal)} {i : Nat} (hi : i < rows.length) : tuR (rows.set i (subR (rows.getD i []))) (i + 1) = tuR rows i := by
 unfold tuR
 have e1 : rows.drop i = rows.getD i [] :: rows.drop (i + 1) := drop_cons_of rows i [] hi
 have e2 : (rows.set i (subR (rows.getD i []))).drop (i + 1) = rows.drop (i + 1) := List.drop_set_of_lt (by omega)
 have e3 : (rows.set i (subR (rows.getD i []))).take (i + 1) = rows.take i ++ [subR (rows.getD i [])] := by
  rw [List.take_add_one, List.take_set_of_le (by omega), List.getElem?_set_self hi]
  rfl
 rw [e1, e2, e3, List.map_cons, List.append_assoc]
 rfl
theorem allB_set {rows : List (List AVal)} (h : allB rows = true) (i : Nat) (n : Int) : allB (rows.set i [.int .u8 n]) = true := by
 unfold allB at h ⊢
 rw [List.all_eq_true] at h ⊢
 intro r hr
 rcases List.mem_or_eq_of_mem_set hr with hr | rfl
 · exact h r hr
 · rfl
noncomputable abbrev tuTurn (R : List (List AVal) → Nat → List (List AVal)) := lturn Tryz.prog laySm (tuFH R) 98 3 [1,5,10,11,12] [] [5] []
theorem tu_runs (R : List (List AVal) → Nat → List (List AVal)) (v : Nat) : ∀ (m i : Nat) (rows : List (List AVal)), rows.length - i ≤ m → i ≤ rows.length → rows.length ≤ 1099511627776 → allB rows = true →
 LoopRuns (tuTurn R) 26 [1,5,10,11,12] [] [5] [] [.func 88 [], .own 0 0 rows.length v false, .own 0 0 rows.length v false, .int .i64 rows.length, .int .i64 (i : Nat)] [] [.arr 1 rows v] (.exit 0) [.own 0 0 rows.length v false] [] [.arr 1 (tuR rows i) v] := by
 intro m
 induction m with
 | zero =>
  intro i rows hm hi hl hb
  have e : tuR rows i = rows := by unfold tuR; rw [List.drop_eq_nil_of_le (by omega), List.take_of_length_le (by omega)]; simp
  rw [e]
  refine .stop (by simp) (fun D k => ?_)
  refine (tu_step R rows.length v rows.length i rows D k).trans ?_
  simp (disch := omega) only [dF, cond_false]
 | succ m ih =>
  intro i rows hm hi hl hb
  have key := fun D k => tu_step R rows.length v rows.length i rows D k
  by_cases hlt : i < rows.length
  · obtain ⟨x, hx, hx2⟩ := allB_get hb hlt
    have e1 : IntKind.i64.wrap ((i : Int) + 1) = ((i + 1 : Nat) : Int) := wrap_add1 (by omega)
    simp (disch := omega) only [dT, cond_true, Bool.and_self, beq_self_eq_true, Int.toNat_natCast, Nat.zero_add, hx, List.getD_cons_zero, hx2, e1, Bool.and_true] at key
    have hs : [x].set 0 (AVal.int .u8 (smM (intOf x))) = subR (rows.getD i []) := by rw [hx]; rfl
    rw [hs] at key
    have ih2 := ih (i + 1) (rows.set i (subR (rows.getD i []))) (by rw [List.length_set]; omega) (by rw [List.length_set]; omega) (by rw [List.length_set]; omega) (allB_set hb _ _)
    rw [tuR_step hlt, List.length_set] at ih2
    exact .step key ih2
  · have e : tuR rows i = rows := by unfold tuR; rw [List.drop_eq_nil_of_le (by omega), List.take_of_length_le (by omega)]; simp
    rw [e]
    refine .stop (by simp) (fun D k => ?_)
    refine (tu_step R rows.length v rows.length i rows D k).trans ?_
    simp (disch := omega) only [dF, cond_false]
theorem tuSp_ok : SpOK (tuTurn tuR) 26 [1,5,10,11,12] [] [5] [] (tuSp tuR) := mkL_ok fun a h => by
 obtain ⟨q, n, v, rows, i⟩ := a
 obtain ⟨h0, h1, h2, h3, h4⟩ := h
 simp only at h0 h1 h2 h3 h4
 subst h0 h1
 exact ⟨_, _, _, _, fun k => rfl, tu_runs tuR v _ i rows (Nat.le_refl _) h2 h3 h4⟩
theorem layTu_ok : (layTu tuR).OK Tryz.prog := laySm_ok.loop1 (id := 3) (by kernel_rfl) (by kernel_rfl) (by kernel_rfl) tuSp_ok
def lowC (c : UInt8) : UInt8 := UInt8.ofNat (smM (c.toNat : Int)).toNat
def lowM (s : Oc) : Oc := s.map lowC
theorem tuR_all (s : Oc) : tuR (s.map fun c => [AVal.int .u8 (c.toNat : Int)]) 0 = s.map fun c => [AVal.int .u8 (smM (c.toNat : Int))] := by
 unfold tuR
 rw [List.take_zero, List.nil_append, List.drop_zero, List.map_map]
 rfl
theorem lower_call (s : Oc) (hs : s.length ≤ 1099511627776) (k : Out → Ans) : iFun Tryz.prog ((layTu tuR).hd Tryz.prog) (layTu tuR).fhs 0 70 [.str s] [] k = k (.ret (.str (lowM s)) []) := by
 refine (lower_fun tuR s k).trans ?_
 have hb : allB (s.map fun c => [AVal.int .u8 (c.toNat : Int)]) = true := by
  unfold allB
  rw [List.all_eq_true]
  intro r hr
  obtain ⟨c, _, rfl⟩ := List.mem_map.1 hr
  rfl
 have hl : (s.map fun c => [AVal.int .u8 (c.toNat : Int)]).length = s.length := List.length_map _
 refine cT (tst_true ⟨⟨by rw [hl]; rfl, by rw [hl], Nat.zero_le _, by rw [hl]; exact hs, hb⟩, .refl _, rfl, rfl⟩) ?_
 have e0 : Int.toNat 0 = 0 := rfl
 rw [e0, tuR_all]
 have hm : ownL (AVal.own 0 0 s.length 0 false) = s.length := rfl
 rw [hm, List.drop_zero]
 have ht : (s.map fun c => [AVal.int .u8 (smM (c.toNat : Int))]).take s.length = s.map fun c => [AVal.int .u8 (smM (c.toNat : Int))] := List.take_of_length_le (by simp)
 rw [ht, dT (by simp)]
 have ha : ((s.map fun c => [AVal.int .u8 (smM (c.toNat : Int))]).all fun (r : List AVal) => match r with | [v] => isInt IntKind.u8 v | x => false) = true := by
  rw [List.all_eq_true]
  intro r hr
  obtain ⟨c, _, rfl⟩ := List.mem_map.1 hr
  rfl
 rw [ha, List.map_map]
 rfl
def lowTold : FSp := mkFS [.s] (fun xs => decide ((aS xs 0).length ≤ 1099511627776)) (fun xs k => k (.ret (.str (lowM (aS xs 0))) []))
theorem lowTold_ok : ∀ xs H k out, lowTold xs H k = some out → ∃ o, CallOK Tryz.prog 70 xs H o ∧ k o = some out := mkFS_ok fun ys xs e h => by
 obtain ⟨s, rfl⟩ : ∃ s, xs = [.str s] := ⟨_, e⟩
 have h2 : s.length ≤ 1099511627776 := of_decide_eq_true h
 exact ⟨_, fun k => rfl, layTu_ok.callF (G := []) rfl (fun k => lower_call s h2 k)⟩
end Go.Mu
namespace Go.Mu
open Go Go.Proofs
def scP (c : UInt8) : Bool := bif bif (c.toNat : Int) == 47 then true else (c.toNat : Int) == 63 then true else (c.toNat : Int) == 35
def sfP (c : UInt8) : Bool := decide (ibM [60, 62, 38, 39, 34, 47, 33, 45, 96, 10, 13, 0] (c.toNat : Int) ≥ 0)
def cpP (c : UInt8) : Bool :=
 bif bif !bif decide (IntKind.u8.wrap ((BitVec.ofInt 8 (c.toNat : Int) ||| BitVec.ofInt 8 32).toNat : Int) ≥ 97) then decide (IntKind.u8.wrap ((BitVec.ofInt 8 (c.toNat : Int) ||| BitVec.ofInt 8 32).toNat : Int) ≤ 122) else false then
  bif decide ((c.toNat : Int) < 48) then true else decide ((c.toNat : Int) > 57)
  else false then decide (ibM [32, 46, 44, 37, 35, 43, 45] (c.toNat : Int) < 0) else false
def scFH : FH := .of [(2, loopSpec 19 [0,1,7,8] [] [4] [] (idxSp wfB decB scP 69))]
theorem sc_step (full : Bool) (l : Oc) (i : Nat) (H : Heap) (D : Dfs) (k : Kont) : lturn Tryz.prog layY1 scFH 97 2 [0,1,7,8] [] [4] [] (stL 19 [0,1,7,8] [encL full byteRow 0 l, .func 69 [], .int .i64 l.length, .int .i64 i] [] [] H D) k =
 cond (decide ((i : Int) < l.length)) (cond (decide ((i : Int) < l.length)) (cond (scP (l.getD (i : Int).toNat 0)) (k .ret (stL 19 [4] [.int .i64 i] [] [] H D)) (k .normal (stL 19 [0,1,7,8] [encL full byteRow 0 l, .func 69 [], .int .i64 l.length, .int .i64 (IntKind.i64.wrap ((i : Int) + 1))] [] [] H D))) none)
  (k (.exit 0) (stL 19 [4] [.undef] [] [] H D)) := by kernel_rfl
noncomputable def lay_sc : Lay := layY1.addL 97 scFH
theorem lay_sc_ok : lay_sc.OK Tryz.prog := layY1_ok.loop1 (id := 2) (by kernel_rfl) (by kernel_rfl) (by kernel_rfl) (idxSp_ok wfB_sub sc_step)
def sfFH : FH := .of [(2, loopSpec 19 [0,1,7,8] [] [4] [] (idxSp wfB decB sfP 75))]
theorem sf_step (full : Bool) (l : Oc) (i : Nat) (H : Heap) (D : Dfs) (k : Kont) : lturn Tryz.prog layY1 sfFH 97 2 [0,1,7,8] [] [4] [] (stL 19 [0,1,7,8] [encL full byteRow 0 l, .func 75 [], .int .i64 l.length, .int .i64 i] [] [] H D) k =
 cond (decide ((i : Int) < l.length)) (cond (decide ((i : Int) < l.length)) (cond (sfP (l.getD (i : Int).toNat 0)) (k .ret (stL 19 [4] [.int .i64 i] [] [] H D)) (k .normal (stL 19 [0,1,7,8] [encL full byteRow 0 l, .func 75 [], .int .i64 l.length, .int .i64 (IntKind.i64.wrap ((i : Int) + 1))] [] [] H D))) none)
  (k (.exit 0) (stL 19 [4] [.undef] [] [] H D)) := by kernel_rfl
noncomputable def lay_sf : Lay := layY1.addL 97 sfFH
theorem lay_sf_ok : lay_sf.OK Tryz.prog := layY1_ok.loop1 (id := 2) (by kernel_rfl) (by kernel_rfl) (by kernel_rfl) (idxSp_ok wfB_sub sf_step)
def cpFH : FH := .of [(2, loopSpec 19 [0,1,7,8] [] [4] [] (idxSp wfB decB cpP 77))]
theorem cp_step (full : Bool) (l : Oc) (i : Nat) (H : Heap) (D : Dfs) (k : Kont) : lturn Tryz.prog layY1 cpFH 97 2 [0,1,7,8] [] [4] [] (stL 19 [0,1,7,8] [encL full byteRow 0 l, .func 77 [], .int .i64 l.length, .int .i64 i] [] [] H D) k =
 cond (decide ((i : Int) < l.length)) (cond (decide ((i : Int) < l.length)) (cond (cpP (l.getD (i : Int).toNat 0)) (k .ret (stL 19 [4] [.int .i64 i] [] [] H D)) (k .normal (stL 19 [0,1,7,8] [encL full byteRow 0 l, .func 77 [], .int .i64 l.length, .int .i64 (IntKind.i64.wrap ((i : Int) + 1))] [] [] H D))) none)
  (k (.exit 0) (stL 19 [4] [.undef] [] [] H D)) := by kernel_rfl
noncomputable def lay_cp : Lay := layY1.addL 97 cpFH
theorem lay_cp_ok : lay_cp.OK Tryz.prog := layY1_ok.loop1 (id := 2) (by kernel_rfl) (by kernel_rfl) (by kernel_rfl) (idxSp_ok wfB_sub cp_step)
noncomputable def lay_sc2 : Lay := lay_sc.addF 70 lowTold
theorem lay_sc2_ok : lay_sc2.OK Tryz.prog := lay_sc_ok.addF lowTold_ok
theorem scheme_fun (s : Oc) (k : Out → Ans) (n0 : Int) (e_n0 : n0 = (ibM s 58))
 (c1 : Bool) (e_c1 : c1 = (decide (0 ≤ n0) && decide (n0 ≤ (↑s.length : Int))))
 (c2 : Bool) (e_c2 : c2 = (decide (n0 < 0)))
 (l3 : Oc) (e_l3 : l3 = (List.drop (Int.toNat 0) (List.take n0.toNat s)))
 (m4 : Nat) (e_m4 : m4 = (l3.length))
 (m5 : Nat) (e_m5 : m5 = (lenL
  (AVal.list false m4 fun (i : Nat) =>
   [AVal.int .u8 (↑((List.drop (Int.toNat 0) (List.take (ibM s 58).toNat s)).getD i 0).toNat : Int)]))) : iFun Tryz.prog (lay_sc2.hd Tryz.prog) lay_sc2.fhs 0 36 [.str s] [] k = (
 let z0 := bif c1 then bif decide (m4 ≤ 1099511627776) then k (Out.ret (AVal.tuple [AVal.str (lowM l3), AVal.bool true]) []) else none else none;
 let z1 := List.drop (Int.toNat 0) (List.take (ibM s 58).toNat s);
 let z2 := Out.ret (AVal.tuple [AVal.str [], AVal.bool false]) [];
 bif c1 || !!c2 then bif wfL (fun (r : List AVal) => match r with | [AVal.int .u8 n] => decide (0 ≤ n) && decide (n < 256) | x => false) (AVal.list false m4 fun i => [AVal.int .u8 (↑(z1.getD i 0).toNat : Int)]) && true && (↑m4 : Int) == (↑m5 : Int) && true && decide (m5 ≤ 1099511627776) && true then bif (decL (fun (r : List AVal) => byteOf r) (AVal.list false m4 fun i => [AVal.int .u8 (↑(z1.getD i 0).toNat : Int)])).any scP then bif bif c2 then true else true then k z2 else z0 else bif bif c2 then true else false then k z2 else z0 else none else none) := by
  subst e_n0 e_c1 e_c2 e_l3 e_m4 e_m5
  kernel_rfl
theorem safe_fun (s : Oc) (k : Out → Ans) : iFun Tryz.prog (lay_sf.hd Tryz.prog) lay_sf.fhs 0 40 [.str s] [] k = (
 let m0 : Nat := lenL (AVal.list false s.length fun i => [AVal.int .u8 (↑(s.getD i 0).toNat : Int)]);
  bif wfL (fun (r : List AVal) => match r with | [AVal.int .u8 n] => decide (0 ≤ n) && decide (n < 256) | x => false) (AVal.list false s.length fun i => [AVal.int .u8 (↑(s.getD i 0).toNat : Int)]) && true && (↑s.length : Int) == (↑m0 : Int) && true && decide (m0 ≤ 1099511627776) && true then bif (decL (fun (r : List AVal) => byteOf r) (AVal.list false s.length fun i => [AVal.int .u8 (↑(s.getD i 0).toNat : Int)])).any sfP then k (Out.ret (AVal.bool false) []) else k (Out.ret (AVal.bool true) []) else none) := by kernel_rfl
noncomputable def lay_cp2 : Lay := (lay_cp.addF 70 lowTold).addF 125 idxTold
theorem lay_cp2_ok : lay_cp2.OK Tryz.prog := (lay_cp_ok.addF lowTold_ok).addF idxTold_ok
theorem plain_fun (s : Oc) (k : Out → Ans) (c0 : Bool) (e_c0 : c0 = (decide ((lowM s).length < 4294967281)))
 (m1 : Nat) (e_m1 : m1 = (lenL (AVal.list false (lowM s).length fun i => [AVal.int .u8 (↑((lowM s).getD i 0).toNat : Int)])))
 (c2 : Bool) (e_c2 : c2 = (bif !decide (Lib.index (lowM s) [101, 120, 112, 114, 101, 115, 115, 105, 111, 110] ≥ 0) then
  !decide (Lib.index (lowM s) [117, 114, 108] ≥ 0)
 else false)) : iFun Tryz.prog (lay_cp2.hd Tryz.prog) lay_cp2.fhs 0 41 [.str s] [] k = (
 bif decide ((↑s.length : Int) > 4096) then k (Out.ret (AVal.bool false) []) else bif decide (s.length ≤ 1099511627776) then bif c0 then bif c0 then bif wfL (fun (r : List AVal) => match r with | [AVal.int .u8 n] => decide (0 ≤ n) && decide (n < 256) | x => false) (AVal.list false (lowM s).length fun i => [AVal.int .u8 (↑((lowM s).getD i 0).toNat : Int)]) && true && (↑(lowM s).length : Int) == (↑m1 : Int) && true && decide (m1 ≤ 1099511627776) && true then bif (decL (fun (r : List AVal) => byteOf r) (AVal.list false (lowM s).length fun i => [AVal.int .u8 (↑((lowM s).getD i 0).toNat : Int)])).any cpP then k (Out.ret (AVal.bool (bif c2 then false else false)) []) else k (Out.ret (AVal.bool (bif c2 then true else false)) []) else none else none else none else none) := by
 subst e_c0 e_m1 e_c2
 kernel_rfl
theorem ixG {l : Oc} (hl : l.length ≤ 1099511627776) : (wfL (fun (r : List AVal) => match r with | [AVal.int .u8 n] => decide (0 ≤ n) && decide (n < 256) | x => false) (AVal.list false l.length fun i => [AVal.int .u8 ((l.getD i 0).toNat : Int)]) && true && ((l.length : Int) == ((lenL (AVal.list false l.length fun i => [AVal.int .u8 ((l.getD i 0).toNat : Int)]) : Nat) : Int)) && true && decide (lenL (AVal.list false l.length fun i => [AVal.int .u8 ((l.getD i 0).toNat : Int)]) ≤ 1099511627776) && true) = true := by
 show (wfL wfB (encL false byteRow 0 l) && true && ((l.length : Int) == l.length) && true && decide (l.length ≤ 1099511627776) && true) = true
 rw [wfL_encL wfB_enc, dT hl]
 simp
def schemeM (s : Oc) : Oc × Bool := bif decide (ibM s 58 < 0) || (s.take (ibM s 58).toNat).any scP then ([], false) else (lowM (s.take (ibM s 58).toNat), true)
def safeM (s : Oc) : Bool := !s.any sfP
def plainM (s : Oc) : Bool := decide (s.length ≤ 4096) && (!decide (Lib.index (lowM s) [101, 120, 112, 114, 101, 115, 115, 105, 111, 110] ≥ 0) && !decide (Lib.index (lowM s) [117, 114, 108] ≥ 0) && !(lowM s).any cpP)
theorem ib_hi (s : Oc) (n : Int) : ibM s n < s.length := by
 unfold ibM
 have h := Lib.indexByte_ge s (UInt8.ofNat n.toNat)
 generalize hx : Lib.indexByte s (UInt8.ofNat n.toNat) = x at h
 have : ∀ (l : Oc) (c : UInt8), Lib.indexByte l c < l.length := by
  intro l c
  induction l with
  | nil => show (-1 : Int) < 0; decide
  | cons b l ih =>
   rw [Lib.indexByte, List.length_cons]
   split
   · omega
   · split <;> omega
 rw [← hx]; exact this s _
theorem scheme_call (s : Oc) (hs : s.length ≤ 1099511627776) (k : Out → Ans) : iFun Tryz.prog (lay_sc2.hd Tryz.prog) lay_sc2.fhs 0 36 [.str s] [] k = k (.ret (.tuple [.str (schemeM s).1, .bool (schemeM s).2]) []) := by
 refine (scheme_fun s k _ rfl _ rfl _ rfl _ rfl _ rfl _ rfl).trans ?_
 have hlt := ib_hi s 58
 have hl : (List.drop (Int.toNat 0) (List.take (ibM s 58).toNat s)).length ≤ 1099511627776 := by simp; omega
 have e0 : List.drop (Int.toNat 0) (List.take (ibM s 58).toNat s) = List.take (ibM s 58).toNat s := rfl
 unfold schemeM
 by_cases h : ibM s 58 < 0
 · rw [dT h, dF (show ¬ 0 ≤ ibM s 58 by omega)]
   simp only [Bool.false_and, Bool.not_true, Bool.not_false, Bool.or_true, Bool.true_or, cond_true]
   refine (congrArg (fun c => cond c _ none) (ixG hl)).trans ?_
   simp only [cond_true]
   generalize List.any _ _ = b
   cases b <;> rfl
 · rw [dF h, dT (show 0 ≤ ibM s 58 by omega), dT (show ibM s 58 ≤ (s.length : Int) by omega)]
   simp only [Bool.and_self, Bool.true_or, cond_true, Bool.false_or]
   refine (congrArg (fun c => cond c _ none) (ixG hl)).trans ?_
   have hl2 : (List.take (ibM s 58).toNat s).length ≤ 1099511627776 := hl
   simp only [cond_true, bytes_back, e0, dT hl2]
   cases (List.take (ibM s 58).toNat s).any scP <;> rfl
def schTold : FSp := mkFS [.s] (fun xs => decide ((aS xs 0).length ≤ 1099511627776)) (fun xs k => k (.ret (.tuple [.str (schemeM (aS xs 0)).1, .bool (schemeM (aS xs 0)).2]) []))
theorem schTold_ok : ∀ xs H k out, schTold xs H k = some out → ∃ o, CallOK Tryz.prog 36 xs H o ∧ k o = some out := mkFS_ok fun ys xs e h => by
 obtain ⟨s, rfl⟩ : ∃ s, xs = [.str s] := ⟨_, e⟩
 exact ⟨_, fun k => rfl, lay_sc2_ok.callF (G := []) rfl (fun k => scheme_call s (of_decide_eq_true h) k)⟩
theorem safe_call (s : Oc) (hs : s.length ≤ 1099511627776) (k : Out → Ans) : iFun Tryz.prog (lay_sf.hd Tryz.prog) lay_sf.fhs 0 40 [.str s] [] k = k (.ret (.bool (safeM s)) []) := by
 refine (safe_fun s k).trans ?_
 refine (congrArg (fun c => cond c _ none) (ixG hs)).trans ?_
 simp only [cond_true, bytes_back]
 unfold safeM
 cases s.any sfP <;> rfl
def safTold : FSp := mkFS [.s] (fun xs => decide ((aS xs 0).length ≤ 1099511627776)) (fun xs k => k (.ret (.bool (safeM (aS xs 0))) []))
theorem safTold_ok : ∀ xs H k out, safTold xs H k = some out → ∃ o, CallOK Tryz.prog 40 xs H o ∧ k o = some out := mkFS_ok fun ys xs e h => by
 obtain ⟨s, rfl⟩ : ∃ s, xs = [.str s] := ⟨_, e⟩
 exact ⟨_, fun k => rfl, lay_sf_ok.callF (G := []) rfl (fun k => safe_call s (of_decide_eq_true h) k)⟩
theorem plain_call (s : Oc) (hs : s.length ≤ 1099511627776) (k : Out → Ans) : iFun Tryz.prog (lay_cp2.hd Tryz.prog) lay_cp2.fhs 0 41 [.str s] [] k = k (.ret (.bool (plainM s)) []) := by
 refine (plain_fun s k _ rfl _ rfl _ rfl).trans ?_
 have hl : (lowM s).length = s.length := List.length_map _
 unfold plainM
 by_cases h : s.length ≤ 4096
 · rw [dF (show ¬ (s.length : Int) > 4096 by omega), dT hs, dT (show (lowM s).length < 4294967281 by omega), dT h]
   simp only [cond_false, cond_true, Bool.true_and]
   refine (congrArg (fun c => cond c _ none) (ixG (by omega))).trans ?_
   simp only [cond_true, bytes_back, bif_and]
   generalize (!decide (Lib.index (lowM s) [101, 120, 112, 114, 101, 115, 115, 105, 111, 110] ≥ 0) && !decide (Lib.index (lowM s) [117, 114, 108] ≥ 0)) = b
   cases (lowM s).any cpP <;> cases b <;> rfl
 · rw [dT (show (s.length : Int) > 4096 by omega), dF h]; rfl
def plaTold : FSp := mkFS [.s] (fun xs => decide ((aS xs 0).length ≤ 1099511627776)) (fun xs k => k (.ret (.bool (plainM (aS xs 0))) []))
theorem plaTold_ok : ∀ xs H k out, plaTold xs H k = some out → ∃ o, CallOK Tryz.prog 41 xs H o ∧ k o = some out := mkFS_ok fun ys xs e h => by
 obtain ⟨s, rfl⟩ : ∃ s, xs = [.str s] := ⟨_, e⟩
 exact ⟨_, fun k => rfl, lay_cp2_ok.callF (G := []) rfl (fun k => plain_call s (of_decide_eq_true h) k)⟩
end Go.Mu
namespace Go.Mu
open Go Go.Proofs
abbrev b0P (ad b : AVal) (O : Obj) : Heap := [.var [ad, b], .note bdT 2, O, .note bT 0]
structure b0H where
 x : Bld
abbrev b0H.heap (x : b0H) : Heap := b0P x.x.ad x.x.b (.arr 1 x.x.rows x.x.v)
def b0H.dec (H : Heap) : b0H := ⟨bld H 0 2⟩
theorem b0_ws0 (O : Obj) (k : Out → Ans) : iFun Tryz.prog (layW0.hd Tryz.prog) layW0.fhs 0 49 [.ptr (.hp 0) 0, .str []] (b0P .nilptr .nilX O) k = (
 k
 (Out.ret (AVal.tuple [AVal.int .i64 0, AVal.nilIface])
  [Obj.var [AVal.ptr (Oid.hp 0) 0, AVal.nilX], Obj.note 55 2, O, Obj.note 5 0])) := by kernel_rfl
theorem b0_ws1 (O : Obj) (k : Out → Ans) : iFun Tryz.prog (layW0.hd Tryz.prog) layW0.fhs 0 49 [.ptr (.hp 0) 0, .str []] (b0P (.ptr (.hp 0) 0) .nilX O) k = (
 k
 (Out.ret (AVal.tuple [AVal.int .i64 0, AVal.nilIface])
  [Obj.var [AVal.ptr (Oid.hp 0) 0, AVal.nilX], Obj.note 55 2, O, Obj.note 5 0])) := by kernel_rfl
theorem b0_ws2 (l : Oc) (n v : Nat) (rows : List (List AVal)) (k : Out → Ans) : iFun Tryz.prog (Lay.nil.hd Tryz.prog) Lay.nil.fhs 0 49 [.ptr (.hp 0) 0, .str l] (b0P .nilptr (.own 2 0 n v false) (.arr 1 rows v)) k = (
 let m0 : Nat := n + (List.map (fun (c : UInt8) => [AVal.int .u8 (↑c.toNat : Int)]) l).length;
 let m1 : Nat := v + 1;
  bif v == v && n == rows.length && decide ((2 * m0 + 1000) * 1 ≤ 281474976710656) && true then
  k
  (Out.ret (AVal.tuple [AVal.int .i64 (↑l.length : Int), AVal.nilIface])
  [Obj.var [AVal.ptr (Oid.hp 0) 0, AVal.own 2 0 m0 m1 false], Obj.note 55 2,
  Obj.arr 1 (rows.append (List.map (fun (c : UInt8) => [AVal.int .u8 (↑c.toNat : Int)]) l)) m1,
  Obj.note 5 0])
  else none) := by kernel_rfl
theorem b0_ws3 (l : Oc) (n v : Nat) (rows : List (List AVal)) (k : Out → Ans) : iFun Tryz.prog (Lay.nil.hd Tryz.prog) Lay.nil.fhs 0 49 [.ptr (.hp 0) 0, .str l] (b0P (.ptr (.hp 0) 0) (.own 2 0 n v false) (.arr 1 rows v)) k = (
 let m0 : Nat := n + (List.map (fun (c : UInt8) => [AVal.int .u8 (↑c.toNat : Int)]) l).length;
 let m1 : Nat := v + 1;
  bif v == v && n == rows.length && decide ((2 * m0 + 1000) * 1 ≤ 281474976710656) && true then
  k
  (Out.ret (AVal.tuple [AVal.int .i64 (↑l.length : Int), AVal.nilIface])
  [Obj.var [AVal.ptr (Oid.hp 0) 0, AVal.own 2 0 m0 m1 false], Obj.note 55 2,
  Obj.arr 1 (rows.append (List.map (fun (c : UInt8) => [AVal.int .u8 (↑c.toNat : Int)]) l)) m1,
  Obj.note 5 0])
  else none) := by kernel_rfl
theorem b0_wb2 (c : UInt8) (n v : Nat) (rows : List (List AVal)) (k : Out → Ans) : iFun Tryz.prog (Lay.nil.hd Tryz.prog) Lay.nil.fhs 0 50 [.ptr (.hp 0) 0, .int .u8 c.toNat] (b0P .nilptr (.own 2 0 n v false) (.arr 1 rows v)) k = (
 let m0 : Nat := n + 1;
 let m1 : Nat := v + 1;
  bif v == v && n == rows.length && decide ((2 * m0 + 1000) * 1 ≤ 281474976710656) && true then
  k
  (Out.ret AVal.nilIface
  [Obj.var [AVal.ptr (Oid.hp 0) 0, AVal.own 2 0 m0 m1 false], Obj.note 55 2,
  Obj.arr 1 (rows.append [[AVal.int .u8 (↑c.toNat : Int)]]) m1, Obj.note 5 0])
  else none) := by kernel_rfl
theorem b0_wb3 (c : UInt8) (n v : Nat) (rows : List (List AVal)) (k : Out → Ans) : iFun Tryz.prog (Lay.nil.hd Tryz.prog) Lay.nil.fhs 0 50 [.ptr (.hp 0) 0, .int .u8 c.toNat] (b0P (.ptr (.hp 0) 0) (.own 2 0 n v false) (.arr 1 rows v)) k = (
 let m0 : Nat := n + 1;
 let m1 : Nat := v + 1;
  bif v == v && n == rows.length && decide ((2 * m0 + 1000) * 1 ≤ 281474976710656) && true then
  k
  (Out.ret AVal.nilIface
  [Obj.var [AVal.ptr (Oid.hp 0) 0, AVal.own 2 0 m0 m1 false], Obj.note 55 2,
  Obj.arr 1 (rows.append [[AVal.int .u8 (↑c.toNat : Int)]]) m1, Obj.note 5 0])
  else none) := by kernel_rfl
theorem b0_ws (x : b0H) (l : Oc) (hx : x.x.can 0 2) (h : x.x.t.length + l.length ≤ 1099511627776) : CallOK Tryz.prog 49 [.ptr (.hp 0) 0, .str l] x.heap (.ret (.tuple [.int .i64 l.length, .nilIface]) ({ x with x := x.x.add 0 2 l } : b0H).heap) := by
 obtain ⟨⟨ad, b, rows, v⟩⟩ := x
 obtain ⟨h1, h2, h3⟩ := hx
 unfold Bld.add Bld.t
 simp only [Bld.t] at h h1 h2 h3 ⊢
 generalize bytesOf rows = text at *
 subst h2 h3
 cases text with
 | nil =>
  cases l with
  | nil =>
   refine layW0_ok.call (fun k => ?_)
   rcases h1 with rfl | rfl
   · exact b0_ws0 (.arr 1 [] v) k
   · exact b0_ws1 (.arr 1 [] v) k
  | cons c t =>
   refine relAt_ok (i := 0) (c := 1) (j := 2) ?_
   simp only [List.length_nil] at h
   refine Lay.nil_ok.call (fun k => ?_)
   have e3 : wsV [] (c :: t) v = v + 1 + 1 := rfl
   rw [e3]
   generalize hl : c :: t = l at *
   have e4 : bfB 2 ([] ++ l) (v + 1 + 1) = .own 2 0 l.length (v + 1 + 1) false := by rw [← hl]; rfl
   rw [e4]
   rcases h1 with rfl | rfl
   · rw [show relAt 0 1 2 (b0P .nilptr (bfB 2 [] v) (.arr 1 (([] : Oc).map byteRow) v)) = b0P .nilptr (.own 2 0 0 (v + 1) false) (.arr 1 [] (v + 1)) from rfl, b0_ws2]
     simp (disch := omega) only [e_map, List.length_map, dT, beq_self_eq_true, Bool.and_true, cond_true, List.append_eq, List.nil_append, Nat.zero_add, List.length_nil, Nat.mul_one, List.map_nil]
   · rw [show relAt 0 1 2 (b0P (.ptr (.hp 0) 0) (bfB 2 [] v) (.arr 1 (([] : Oc).map byteRow) v)) = b0P (.ptr (.hp 0) 0) (.own 2 0 0 (v + 1) false) (.arr 1 [] (v + 1)) from rfl, b0_ws3]
     simp (disch := omega) only [e_map, List.length_map, dT, beq_self_eq_true, Bool.and_true, cond_true, List.append_eq, List.nil_append, Nat.zero_add, List.length_nil, Nat.mul_one, List.map_nil]
 | cons c t =>
  refine Lay.nil_ok.call (fun k => ?_)
  have e3 : wsV (c :: t) l v = v + 1 := rfl
  have e4 : bfB 2 ((c :: t) ++ l) (v + 1) = .own 2 0 ((c :: t) ++ l).length (v + 1) false := rfl
  have e5 : bfB 2 (c :: t) v = .own 2 0 (c :: t).length v false := rfl
  rw [e3, e4, e5]
  generalize c :: t = m at *
  rcases h1 with rfl | rfl
  · rw [b0_ws2]
    simp (disch := omega) only [e_map, List.length_map, dT, beq_self_eq_true, Bool.and_true, cond_true, List.append_eq, List.length_append, Nat.mul_one]
  · rw [b0_ws3]
    simp (disch := omega) only [e_map, List.length_map, dT, beq_self_eq_true, Bool.and_true, cond_true, List.append_eq, List.length_append, Nat.mul_one]
theorem b0_wb (x : b0H) (c : UInt8) (hx : x.x.can 0 2) (h : x.x.t.length ≤ 1073741824) : CallOK Tryz.prog 50 [.ptr (.hp 0) 0, .int .u8 c.toNat] x.heap (.ret .nilIface ({ x with x := x.x.add 0 2 [c] } : b0H).heap) := by
 obtain ⟨⟨ad, b, rows, v⟩⟩ := x
 obtain ⟨h1, h2, h3⟩ := hx
 unfold Bld.add Bld.t
 simp only [Bld.t] at h h1 h2 h3 ⊢
 generalize bytesOf rows = text at *
 subst h2 h3
 have e6 : [c].map byteRow = [[.int .u8 c.toNat]] := rfl
 rw [e6]
 cases text with
 | nil =>
  refine relAt_ok (i := 0) (c := 1) (j := 2) ?_
  refine Lay.nil_ok.call (fun k => ?_)
  have e3 : wsV [] [c] v = v + 1 + 1 := rfl
  have e4 : bfB 2 ([] ++ [c]) (v + 1 + 1) = .own 2 0 1 (v + 1 + 1) false := rfl
  rw [e3, e4]
  rcases h1 with rfl | rfl
  · rw [show relAt 0 1 2 (b0P .nilptr (bfB 2 [] v) (.arr 1 (([] : Oc).map byteRow) v)) = b0P .nilptr (.own 2 0 0 (v + 1) false) (.arr 1 [] (v + 1)) from rfl, b0_wb2]
    simp only [beq_self_eq_true]
    rfl
  · rw [show relAt 0 1 2 (b0P (.ptr (.hp 0) 0) (bfB 2 [] v) (.arr 1 (([] : Oc).map byteRow) v)) = b0P (.ptr (.hp 0) 0) (.own 2 0 0 (v + 1) false) (.arr 1 [] (v + 1)) from rfl, b0_wb3]
    simp only [beq_self_eq_true]
    rfl
 | cons d t =>
  refine Lay.nil_ok.call (fun k => ?_)
  have e3 : wsV (d :: t) [c] v = v + 1 := rfl
  have e4 : bfB 2 ((d :: t) ++ [c]) (v + 1) = .own 2 0 ((d :: t) ++ [c]).length (v + 1) false := rfl
  have e5 : bfB 2 (d :: t) v = .own 2 0 (d :: t).length v false := rfl
  rw [e3, e4, e5]
  generalize d :: t = m at *
  rcases h1 with rfl | rfl
  · rw [b0_wb2]
    simp (disch := omega) only [e_map, List.length_map, dT, beq_self_eq_true, Bool.and_true, cond_true, List.append_eq, List.length_append, Nat.mul_one, List.length_cons, List.length_nil]
  · rw [b0_wb3]
    simp (disch := omega) only [e_map, List.length_map, dT, beq_self_eq_true, Bool.and_true, cond_true, List.append_eq, List.length_append, Nat.mul_one, List.length_cons, List.length_nil]
theorem b0_str (x : b0H) (hx : x.x.can 0 2) (h : x.x.t.length ≤ 1099511627776) : CallOK Tryz.prog 51 [.ptr (.hp 0) 0] x.heap (.ret (.str x.x.t) ({ x with x := x.x.dead } : b0H).heap) := by
 obtain ⟨⟨ad, b, rows, v⟩⟩ := x
 obtain ⟨h1, h2, h3⟩ := hx
 unfold Bld.dead Bld.t
 simp only [Bld.t] at h h1 h2 h3 ⊢
 generalize bytesOf rows = text at *
 subst h2 h3
 cases text with
 | nil => exact str_ok0 (cs := [ad, .nilX]) rfl rfl
 | cons c t => exact str_ok (i := 0) (off := 0) (j := 2) (u := v) (cs := [ad, .own 2 0 (c :: t).length v false]) (l := c :: t) rfl rfl rfl rfl (by simp) h
noncomputable def b0_wsTold : FSp := mkF (fun xs H => (b0H.dec H, aS xs 1)) (fun x => x.1.x.can 0 2 ∧ x.1.x.t.length + x.2.length ≤ 1099511627776) (fun x => [.ptr (.hp 0) 0, .str x.2]) (fun x => x.1.heap) (fun x k => k (.ret (.tuple [.int .i64 x.2.length, .nilIface]) ({ x.1 with x := x.1.x.add 0 2 x.2 } : b0H).heap))
noncomputable def b0_wbTold : FSp := mkF (fun xs H => (b0H.dec H, UInt8.ofNat (aI xs 1).toNat)) (fun x => x.1.x.can 0 2 ∧ x.1.x.t.length ≤ 1073741824) (fun x => [.ptr (.hp 0) 0, .int .u8 x.2.toNat]) (fun x => x.1.heap) (fun x k => k (.ret .nilIface ({ x.1 with x := x.1.x.add 0 2 [x.2] } : b0H).heap))
noncomputable def b0_strTold : FSp := mkF (fun xs H => b0H.dec H) (fun x => x.x.can 0 2 ∧ x.x.t.length ≤ 1099511627776) (fun x => [.ptr (.hp 0) 0]) (fun x => x.heap) (fun x k => k (.ret (.str x.x.t) ({ x with x := x.x.dead } : b0H).heap))
noncomputable def b0_lay (L : Lay) : Lay := ((L.addF 49 b0_wsTold).addF 50 b0_wbTold).addF 51 b0_strTold
theorem b0_ok {L : Lay} (h : L.OK Tryz.prog) : (b0_lay L).OK Tryz.prog :=
 ((h.addF (mkF_ok fun x h => ⟨_, fun k => rfl, b0_ws x.1 x.2 h.1 h.2⟩)).addF (mkF_ok fun x h => ⟨_, fun k => rfl, b0_wb x.1 x.2 h.1 h.2⟩)).addF (mkF_ok fun x h => ⟨_, fun k => rfl, b0_str x h.1 h.2⟩)
end Go.Mu
namespace Go.Mu
open Go Go.Proofs Go.RowKit
section
variable {P : Program} {w w' : World} {E : Env} {H : Heap}
def ba (s : Oc) : ByteArray := ⟨⟨s⟩⟩
theorem ba_size (s : Oc) : (ba s).size = s.length := rfl
theorem ba_eq {b : ByteArray} {s : Oc} (h : b.data.toList = s) : b = ba s := by
 subst h
 cases b with | mk d => cases d with | mk l => rfl
end
end Go.Mu
namespace Go.Mu
open Go Go.Proofs Go.RowKit Go.Shelf
def repB (s : Oc) : Oc := repF s.length ⟨s.toArray⟩
end Go.Mu
namespace Go.Mu
open Go Go.Proofs
noncomputable def layPl : Lay := Lay.nil.addF 67 ibTold
theorem pln_fun (n : Int) (k : Out → Ans) : iFun Tryz.prog (layPl.hd Tryz.prog) layPl.fhs 0 132 [.int .i64 n] [] k = (
 let n0 : Int := IntKind.u8.wrap (↑(BitVec.ofInt 8 (IntKind.u8.wrap n) ||| BitVec.ofInt 8 32).toNat : Int);
  k
  (Out.ret
  (AVal.bool
  (bif decide (n < 128) then
  bif
  bif bif decide (n0 ≥ 97) then decide (n0 ≤ 122) else false then true
  else bif decide (n ≥ 48) then decide (n ≤ 57) else false then
  true
  else decide (ibM [32, 95, 46, 44] (IntKind.u8.wrap n) ≥ 0)
  else false))
   [])) := by kernel_rfl
def plnTold (Q : Int → Bool) : FSp := mkFS [.i .i64] (fun xs => true) (fun xs k => k (.ret (.bool (Q (aI xs 0))) []))
end Go.Mu
namespace Go.Mu
open Go Go.Proofs
noncomputable def layY6 (R : Int → Oc → Int) : Lay := layY5.addL 85 (vaFH R)
theorem va_fun (R : Int → Oc → Int) (s : Oc) (b : Bool) (k : Out → Ans) : iFun Tryz.prog ((layY6 R).hd Tryz.prog) (layY6 R).fhs 0 85 [.str s, .bool b] [] k = (
 let l0 : Oc := decL (fun (r : List AVal) => byteOf r) (AVal.list false s.length fun i => [AVal.int .u8 (↑(s.getD i 0).toNat : Int)]);
 let m1 : Nat := l0.length;
 let n2 : Int := (↑s.length : Int);
  bif b then k (Out.ret (AVal.int .i64 (unhexM s).fst) []) else bif tst ((Int.toNat 0 ≤ m1 ∧ m1 ≤ 1099511627776 ∧ n2 = (↑m1 : Int)) ∧ SubTL [AVal.int .i64 0, AVal.list false s.length fun i => [AVal.int .u8 (↑(s.getD i 0).toNat : Int)], AVal.int .i64 n2, AVal.int .i64 0] [AVal.int .i64 0, AVal.list false m1 fun i => [AVal.int .u8 (↑((decL (fun (r : List AVal) => byteOf r) (AVal.list false s.length fun i => [AVal.int .u8 (↑(s.getD i 0).toNat : Int)])).getD i 0).toNat : Int)], AVal.int .i64 n2, AVal.int .i64 (↑(Int.toNat 0) : Int)] ∧ ([] : List (List AVal)) = [] ∧ ([] : Heap) = []) then k (Out.ret (AVal.int .i64 (R 0 (List.drop (Int.toNat 0) l0))) []) else none) := by kernel_rfl
def Leaf (F : (Out → Ans) → Ans) : Prop := ∃ (t : Oc) (e : Int), t.length ≤ 4 ∧ ∀ k, F k = k (.ret (.tuple [.str t, .int .i64 e]) [])
theorem leaf_bif {b : Bool} {F G : (Out → Ans) → Ans} (h1 : Leaf F) (h2 : Leaf G) : Leaf (fun k => bif b then F k else G k) := by
 cases b
 · exact h2
 · exact h1
theorem leaf_k (t : Oc) (e : Int) (h : t.length ≤ 4) : Leaf (fun k => k (.ret (.tuple [.str t, .int .i64 e]) [])) := ⟨t, e, h, fun k => rfl⟩
theorem encode_leaf (n : Int) : Leaf (fun k => iFun Tryz.prog (Lay.nil.hd Tryz.prog) Lay.nil.fhs 0 86 [.int .i64 n] [] k) := by
 have e := funext (encode_fun n)
 rw [show (fun k => iFun Tryz.prog (Lay.nil.hd Tryz.prog) Lay.nil.fhs 0 86 [.int .i64 n] [] k) = _ from e]
 dsimp only
 repeat' (first | exact leaf_k _ _ (by simp) | refine leaf_bif ?_ ?_)
noncomputable def encS' (n : Int) : Oc := Classical.choose (encode_leaf n)
noncomputable def encE (n : Int) : Int := Classical.choose (Classical.choose_spec (encode_leaf n))
theorem encS_len (n : Int) : (encS' n).length ≤ 4 := (Classical.choose_spec (Classical.choose_spec (encode_leaf n))).1
theorem encode_is (n : Int) (k : Out → Ans) : iFun Tryz.prog (Lay.nil.hd Tryz.prog) Lay.nil.fhs 0 86 [.int .i64 n] [] k = k (.ret (.tuple [.str (encS' n), .int .i64 (encE n)]) []) := (Classical.choose_spec (Classical.choose_spec (encode_leaf n))).2 k
noncomputable def encTold : FSp := mkFS [.i .i64] (fun _ => true) (fun xs k => k (.ret (.tuple [.str (encS' (aI xs 0)), .int .i64 (encE (aI xs 0))]) []))
theorem encTold_ok : ∀ xs H k out, encTold xs H k = some out → ∃ o, CallOK Tryz.prog 86 xs H o ∧ k o = some out := mkFS_ok fun ys xs e h => by
 obtain ⟨n, rfl⟩ : ∃ n, xs = [.int .i64 n] := ⟨_, e⟩
 exact ⟨_, fun k => rfl, Lay.nil_ok.callF (G := []) rfl (fun k => encode_is n k)⟩
def valA (s : Oc) (b : Bool) : Int := bif b then (unhexM s).1 else vaM 0 s
theorem layY6_ok : (layY6 vaM).OK Tryz.prog := layY5_ok.loop1 (id := 6) (by kernel_rfl) (by kernel_rfl) (by kernel_rfl) vaSp_ok
def valTold : FSp := mkFS [.s, .b] (fun xs => decide ((aS xs 0).length ≤ 1099511627776)) (fun xs k => k (.ret (.int .i64 (valA (aS xs 0) (aB xs 1))) []))
theorem valTold_ok : ∀ xs H k out, valTold xs H k = some out → ∃ o, CallOK Tryz.prog 85 xs H o ∧ k o = some out := mkFS_ok fun ys xs e h => by
 obtain ⟨s, b, rfl⟩ : ∃ s b, xs = [.str s, .bool b] := ⟨_, _, e⟩
 replace h : s.length ≤ 1099511627776 := of_decide_eq_true h
 refine ⟨_, fun k => rfl, layY6_ok.callF (G := []) rfl (fun k => (va_fun vaM s b k).trans ?_)⟩
 show _ = k (.ret (.int .i64 (valA s b)) [])
 unfold valA
 simp only [bytes_back]
 cases b with
 | true => rfl
 | false =>
  simp only [cond_false]
  refine (congrArg (fun c => cond c _ none) (tst_true ⟨⟨Nat.zero_le _, h, trivial⟩, .refl _, by trivial⟩)).trans ?_
  simp only [cond_true, Int.toNat_zero, List.drop_zero]
noncomputable def layY7 : Lay := (((Lay.nil.addF 67 ibTold).addF 84 numrTold).addF 85 valTold).addF 86 encTold
theorem layY7_ok : layY7.OK Tryz.prog := (((Lay.nil_ok.addF ibTold_ok).addF numrTold_ok).addF valTold_ok).addF encTold_ok
theorem rone_fun (s : Oc) (k : Out → Ans) (n0 : Int) (e_n0 : n0 = ((↑s.length : Int)))
 (c1 : Bool) (e_c1 : c1 = (s == []))
 (n2 : Int) (e_n2 : n2 = (if 16 < n0 then 16 else n0))
 (n3 : Int) (e_n3 : n3 = (ibM (List.drop (Int.toNat 0) (List.take n2.toNat s)) 59))
 (c4 : Bool) (e_c4 : c4 = (decide (1 ≤ n3) && decide (n3 ≤ n0)))
 (l5 : Oc) (e_l5 : l5 = (List.drop (Int.toNat 1) (List.take n3.toNat s)))
 (m6 : Nat) (e_m6 : m6 = (l5.length))
 (n7 : Int) (e_n7 : n7 = ((↑m6 : Int)))
 (c8 : Bool) (e_c8 : c8 = (decide (1 ≤ n7)))
 (c9 : Bool) (e_c9 : c9 = (decide (n7 ≥ 1)))
 (l10 : Oc) (e_l10 : l10 = (List.drop (Int.toNat 1) (List.take n7.toNat l5)))
 (m11 : Nat) (e_m11 : m11 = (l10.length))
 (n12 : Int) (e_n12 : n12 = ((↑m11 : Int)))
 (c13 : Bool) (e_c13 : c13 = (l10 == []))
 (c14 : Bool) (e_c14 : c14 = (!c13))
 (l15 : Oc) (e_l15 : l15 = (List.drop (Int.toNat 1) (List.take n12.toNat l10)))
 (c16 : Bool) (e_c16 : c16 = (decide (l15.length ≤ 1099511627776)))
 (n17 : Int) (e_n17 : n17 = (valA l15 true))
 (c18 : Bool) (e_c18 : c18 = (decide (m11 ≤ 1099511627776)))
 (n19 : Int) (e_n19 : n19 = (valA l10 false)) : iFun Tryz.prog (layY7.hd Tryz.prog) layY7.fhs 0 48 [.str s] [] k = (
 let z0 := Out.ret (AVal.tuple [AVal.str [], AVal.int .i64 0]) [];
 let z1 := Out.ret (AVal.tuple [AVal.str [239, 191, 189], AVal.int .i64 (IntKind.i64.wrap (n3 + 1))]) [];
  bif decide (0 < n0) || !!c1 then bif bif c1 then true else (↑(s.getD 0 0).toNat : Int) != 38 then k z0 else bif decide (0 ≤ n2) && decide (n2 ≤ n0) then bif decide (n3 < 0) then k z0 else bif c4 then bif l5 == [97, 109, 112] then k (Out.ret (AVal.tuple [AVal.str [38], AVal.int .i64 (IntKind.i64.wrap (n3 + 1))]) []) else bif l5 == [108, 116] then k (Out.ret (AVal.tuple [AVal.str [60], AVal.int .i64 (IntKind.i64.wrap (n3 + 1))]) []) else bif l5 == [103, 116] then k (Out.ret (AVal.tuple [AVal.str [62], AVal.int .i64 (IntKind.i64.wrap (n3 + 1))]) []) else bif l5 == [113, 117, 111, 116] then k (Out.ret (AVal.tuple [AVal.str [34], AVal.int .i64 (IntKind.i64.wrap (n3 + 1))]) []) else bif l5 == [97, 112, 111, 115] then k (Out.ret (AVal.tuple [AVal.str [39], AVal.int .i64 (IntKind.i64.wrap (n3 + 1))]) []) else bif c4 then bif c8 || !c9 then bif !bif c9 then List.drop (Int.toNat 0) (List.take (Int.toNat 1) l5) == [35] else false then bif decide (0 < n7) || true then bif decide (m6 ≤ 1099511627776) then k z0 else none else none else bif c8 && decide (n7 ≤ n7) then bif decide (0 < n12) || !c14 then bif bif c14 then IntKind.u8.wrap (↑(BitVec.ofInt 8 (↑(l10.getD 0 0).toNat : Int) ||| BitVec.ofInt 8 32).toNat : Int) == 120 else false then bif decide (1 ≤ n12) && decide (n12 ≤ n12) then bif c16 then bif bif l15 == [] then true else !numB l15 true then k z0 else bif c16 then bif bif encE n17 != 0 then true else n17 == 0 then k z1 else k (Out.ret (AVal.tuple [AVal.str (encS' n17), AVal.int .i64 (IntKind.i64.wrap (n3 + 1))]) []) else none else none else none else bif c18 then bif bif c13 then true else !numB l10 false then k z0 else bif c18 then bif bif encE n19 != 0 then true else n19 == 0 then k z1 else k (Out.ret (AVal.tuple [AVal.str (encS' n19), AVal.int .i64 (IntKind.i64.wrap (n3 + 1))]) []) else none else none else none else none else none else none else none else none else none) := by
  subst e_n0 e_c1 e_n2 e_n3 e_c4 e_l5 e_m6 e_n7 e_c8 e_c9 e_l10 e_m11 e_n12 e_c13 e_c14 e_l15 e_c16 e_n17 e_c18 e_n19
  kernel_rfl
end Go.Mu
