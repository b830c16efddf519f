/-
  Lemmas on the given program (part 4).
-/
import Derived.Test.YtlobblkhninckaaGreatDoorFL3
import Derived.Shelf.LaysM
import Derived.Shelf.Strings.BuilderRune
import Derived.Shelf.Strings.BuilderK
import Derived.Shelf.Unicode.Decode
import Derived.Shelf.Unicode.DecodeAny
import Derived.Test.YtlobblkhninckaaGreatDoorProg
import Derived.RangeFuncNested
import Derived.RangeFuncBound
import Derived.RangeFuncCalls
import Derived.RangeFuncLeaves
import Derived.Shelf.Abstract
import Derived.Shelf.RegionOpen
import Derived.WalkKit
import Derived.OwnWalkIn
import Derived.TacticsInMore
import Derived.LoopNIn
import Derived.LoopIn
import Derived.Lib.QuoteLoop
import Derived.Lib.TrimU
import Derived.Shelf.Strings.MapGrows
import Derived.RangeFuncBox
import Derived.Maps.AppendAt
import Derived.KernelRfl
import Derived.Shelf.Strings.Shaped
import Derived.ProofKit
import Derived.Lib.UnsafeStr
import Derived.Shelf.RegionOpenPlain
import Derived.Shelf.GgClosure.StringsIndexFunc
import Derived.Lib.TrimUEq
import Derived.Shelf.Strings.OnBuilder
import Derived.Shelf.Strings.Split
import Derived.Shelf.Strings.Cut
import Derived.Lib.RuneBytes
import Derived.Lib.MapLaws
set_option linter.unusedVariables false
set_option linter.unusedSimpArgs false
set_option maxRecDepth 100000
namespace Go.Proofs
open Go.Shelf
def Tryz.uRen : Ren := {
 f := fun x => match x with
  | 168 => 65
  | 169 => 38
  | 197 => 125
  | 240 => 66
  | 242 => 100
  | 260 => 139
  | 276 => 101
  | 278 => 126
  | n => n,
 t := fun x => match x with
  | 0 => 0
  | 3 => 3
  | 4 => 4
  | 5 => 5
  | 9 => 9
  | 20 => 20
  | 21 => 21
  | 37 => 69
  | 46 => 88
  | 51 => 127
  | 70 => 68
  | 72 => 71
  | 75 => 73
  | 80 => 77
  | 105 => 125
  | 119 => 139
  | 127 => 86
  | 138 => 141
  | 139 => 142
  | 164 => 107
  | n => n,
 g := fun x => match x with
  | 3 => 1
  | 4 => 2
  | n => n }
theorem Tryz.uRen_168 : Lays.n168 Tryz.prog Tryz.uRen := {
 mixed := by kernel_rfl
 f168 := Tryz.func65.trans (congrArg some (by kernel_rfl))
 f240 := Tryz.func66.trans (congrArg some (by kernel_rfl))
 f242 := Tryz.func100.trans (congrArg some (by kernel_rfl))
 f276 := Tryz.func101.trans (congrArg some (by kernel_rfl))
 f278 := Tryz.func126.trans (congrArg some (by kernel_rfl))
 t0 := Tryz.underlying0
 a0 := Tryz.isAgg0
 z0 := Tryz.sizeOf0
 v0 := Tryz.zeroValue0
 t3 := Tryz.underlying3
 a3 := Tryz.isAgg3
 z3 := Tryz.sizeOf3
 v3 := Tryz.zeroValue3
 t4 := Tryz.underlying4
 a4 := Tryz.isAgg4
 z4 := Tryz.sizeOf4
 v4 := Tryz.zeroValue4
 t5 := Tryz.underlying5
 a5 := Tryz.isAgg5
 z5 := Tryz.sizeOf5
 v5 := Tryz.zeroValue5
 t9 := Tryz.underlying9
 a9 := Tryz.isAgg9
 z9 := Tryz.sizeOf9
 v9 := Tryz.zeroValue9
 t20 := Tryz.underlying20
 a20 := Tryz.isAgg20
 z20 := Tryz.sizeOf20
 v20 := Tryz.zeroValue20
 t21 := Tryz.underlying21
 a21 := Tryz.isAgg21
 z21 := Tryz.sizeOf21
 v21 := Tryz.zeroValue21
 t37 := Tryz.underlying69
 a37 := Tryz.isAgg69
 z37 := Tryz.sizeOf69
 v37 := Tryz.zeroValue69
 t46 := Tryz.underlying88
 a46 := Tryz.isAgg88
 z46 := Tryz.sizeOf88
 v46 := Tryz.zeroValue88
 t51 := Tryz.underlying127
 a51 := Tryz.isAgg127
 z51 := Tryz.sizeOf127
 v51 := Tryz.zeroValue127
 t70 := Tryz.underlying68
 a70 := Tryz.isAgg68
 z70 := Tryz.sizeOf68
 v70 := Tryz.zeroValue68
 t72 := Tryz.underlying71
 a72 := Tryz.isAgg71
 z72 := Tryz.sizeOf71
 v72 := Tryz.zeroValue71
 t75 := Tryz.underlying73
 a75 := Tryz.isAgg73
 z75 := Tryz.sizeOf73
 v75 := Tryz.zeroValue73
 t164 := Tryz.underlying107
 a164 := Tryz.isAgg107
 z164 := Tryz.sizeOf107
 v164 := Tryz.zeroValue107
}
theorem Tryz.uRen_169 : Lays.n169 Tryz.prog Tryz.uRen := {
 mixed := by kernel_rfl
 f169 := Tryz.func38.trans (congrArg some (by kernel_rfl))
 t0 := Tryz.underlying0
 a0 := Tryz.isAgg0
 z0 := Tryz.sizeOf0
 v0 := Tryz.zeroValue0
 t3 := Tryz.underlying3
 a3 := Tryz.isAgg3
 z3 := Tryz.sizeOf3
 v3 := Tryz.zeroValue3
 t9 := Tryz.underlying9
 a9 := Tryz.isAgg9
 z9 := Tryz.sizeOf9
 v9 := Tryz.zeroValue9
 t37 := Tryz.underlying69
 a37 := Tryz.isAgg69
 z37 := Tryz.sizeOf69
 v37 := Tryz.zeroValue69
 t70 := Tryz.underlying68
 a70 := Tryz.isAgg68
 z70 := Tryz.sizeOf68
 v70 := Tryz.zeroValue68
 t72 := Tryz.underlying71
 a72 := Tryz.isAgg71
 z72 := Tryz.sizeOf71
 v72 := Tryz.zeroValue71
 t127 := Tryz.underlying86
 a127 := Tryz.isAgg86
 z127 := Tryz.sizeOf86
 v127 := Tryz.zeroValue86
}
theorem Tryz.uRen_197 : Lays.n197 Tryz.prog Tryz.uRen := {
 mixed := by kernel_rfl
 f197 := Tryz.func125.trans (congrArg some (by kernel_rfl))
 f260 := Tryz.func139.trans (congrArg some (by kernel_rfl))
 t0 := Tryz.underlying0
 a0 := Tryz.isAgg0
 z0 := Tryz.sizeOf0
 v0 := Tryz.zeroValue0
 t3 := Tryz.underlying3
 a3 := Tryz.isAgg3
 z3 := Tryz.sizeOf3
 v3 := Tryz.zeroValue3
 t4 := Tryz.underlying4
 a4 := Tryz.isAgg4
 z4 := Tryz.sizeOf4
 v4 := Tryz.zeroValue4
 t5 := Tryz.underlying5
 a5 := Tryz.isAgg5
 z5 := Tryz.sizeOf5
 v5 := Tryz.zeroValue5
 t9 := Tryz.underlying9
 a9 := Tryz.isAgg9
 z9 := Tryz.sizeOf9
 v9 := Tryz.zeroValue9
 t21 := Tryz.underlying21
 a21 := Tryz.isAgg21
 z21 := Tryz.sizeOf21
 v21 := Tryz.zeroValue21
 t46 := Tryz.underlying88
 a46 := Tryz.isAgg88
 z46 := Tryz.sizeOf88
 v46 := Tryz.zeroValue88
 t105 := Tryz.underlying125
 a105 := Tryz.isAgg125
 z105 := Tryz.sizeOf125
 v105 := Tryz.zeroValue125
 t119 := Tryz.underlying139
 a119 := Tryz.isAgg139
 z119 := Tryz.sizeOf139
 t138 := Tryz.underlying141
 a138 := Tryz.isAgg141
 z138 := Tryz.sizeOf141
 v138 := Tryz.zeroValue141
 t139 := Tryz.underlying142
 a139 := Tryz.isAgg142
 z139 := Tryz.sizeOf142
 v139 := Tryz.zeroValue142
 g3 := by kernel_rfl
 g4 := by kernel_rfl
}
theorem Tryz.uExtra : Builder.Extra Tryz.prog Tryz.uRen where
 sizeBuilder := by kernel_rfl
 liesBuilder := by kernel_rfl
 t5 := Tryz.underlying5
 a5 := Tryz.isAgg5
 z5 := Tryz.sizeOf5
 v5 := Tryz.zeroValue5
 infoByte := by kernel_rfl
 cellsByte := by kernel_rfl
 sizeByte := by kernel_rfl
 neB5 := by decide
end Go.Proofs
namespace Go.Proofs
open Go.RowKit Go.Shelf
attribute [local go_sem] Oper.semAt_some
theorem uB_kept {T e : TypeId} {B b k : Nat} {bs : List Value} {W W' : World} {o : Obj} (h : Lib.IsBuilderF T e B b bs W) (hg : W.grownBy W' (some k)) (hk : k ≠ b) (ho : W.heap[k]? = some o) (hx : ∀ c fz, o ≠ .cells c e fz) : Lib.IsBuilderF T e B b bs W' := by
 have one : ∀ p, Lib.BuilderAtF T e B b p bs W → Lib.BuilderAtF T e B b p bs W' := fun p h => by
  have hlt := h.lt
  obtain ⟨hB, v, hb, hown, hne⟩ := h
  have hv : v.ownBlock ≠ some k := fun hv => by
   obtain ⟨c, fz, hc⟩ := Lib.ownsRowF_kind hown k hv
   rw [ho] at hc
   exact hx c fz (Option.some.inj hc)
  exact ⟨hB, v, (hg.block b hlt (fun e => hk (Option.some.inj e).symm)).trans hb, hown.kept hg (Or.inr hv), hne⟩
 exact h.elim (fun x => .inl (one _ x)) (fun x => .inr (one _ x))
theorem uEach (s : ByteArray) (w : World) : CallsIn Fence.wide 3 Tryz.prog 64 #[.string s] w fun e w' => e = .returned (.func (.func 98) #[] #[.pointer (some ⟨w.heap.size, 0, none⟩)]) ∧ w' = w.alloc (.cells #[.string s] 9) := by
 refine callsIn_of_wp Tryz.func64 rfl trivial ?_ rfl
 simp only [Tryz.ntmps64, List.size_toArray, List.length_cons, List.length_nil, Nat.reduceAdd, Nat.reduceSub, Array.replicate_succ, Array.replicate_zero, List.push_toArray, List.append_toArray, List.nil_append, List.cons_append]
 gi_wp2
 go_ret
 exact ⟨rfl, rfl⟩
theorem decGo_le (t : ByteArray) : (Lib.decodeGo t).1 ≤ 1114111 := by
 unfold Lib.decodeGo
 split
 · show 65533 ≤ 1114111; omega
 · exact Lib.rune_le t 0
def decC (t : ByteArray) : Int := if (Lib.decodeGo t).1 = 65533 ∧ (Lib.decodeGo t).2 < 2 then -1 else (Lib.decodeGo t).1
def DecAt (W : World) (t : ByteArray) : Prop := Calls Tryz.prog 125 #[.string t] W fun e W' => e = .returned (.tuple #[.int .i32 (Lib.decodeGo t).1, .int .i64 (Lib.decodeGo t).2]) ∧ Below W.heap.size W W'
theorem uDecode (t : ByteArray) (W : World) (hd : DecAt W t) : CallsIn Fence.wide 2 Tryz.prog 99 #[.string t] W fun e W' => e = .returned (.tuple #[.int .i64 (decC t), .int .i64 (Lib.decodeGo t).2]) ∧ Below W.heap.size W W' := by
 refine callsIn_of_wp Tryz.func99 rfl trivial ?_ rfl
 simp only [Tryz.ntmps99, List.size_toArray, List.length_cons, List.length_nil, Nat.reduceAdd, Nat.reduceSub, Array.replicate_succ, Array.replicate_zero, List.push_toArray, List.append_toArray, List.nil_append, List.cons_append]
 unfold DecAt at hd
 generalize hx : ((Lib.decodeGo t).1 : Int) = x at hd
 generalize hy : ((Lib.decodeGo t).2 : Int) = y at hd ⊢
 have hC : decC t = if x = 65533 ∧ y < 2 then -1 else x := by unfold decC; rw [← hx, ← hy]; congr 1; simp only [eq_iff_iff]; omega
 rw [hC]
 by_cases h1 : x = 65533
 · by_cases h2 : y < 2
   · rw [if_pos ⟨h1, h2⟩]
     subst h1
     gi_wp2_with (refine ⟨trivial, ?_⟩; gi_at_call 125; refine (callsIn_wide.2 hd).mono ?_; rintro e W1 ⟨rfl, hb⟩)
     gi_wp2
     go_ret2
     exact ⟨rfl, hb⟩
   · rw [if_neg (fun h => h2 h.2)]
     subst h1
     gi_wp2_with (refine ⟨trivial, ?_⟩; gi_at_call 125; refine (callsIn_wide.2 hd).mono ?_; rintro e W1 ⟨rfl, hb⟩)
     gi_wp2
     go_ret2
     exact ⟨rfl, hb⟩
 · rw [if_neg (fun h => h1 h.1)]
   gi_wp2_with (refine ⟨trivial, ?_⟩; gi_at_call 125; refine (callsIn_wide.2 hd).mono ?_; rintro e W1 ⟨rfl, hb⟩)
   gi_wp2
   go_ret2
   have hle := decGo_le t
   have hw : wrap64 x = x := by simp [wrap64]; omega
   exact ⟨by simp [hw], hb⟩
def repC (t : ByteArray) : Int := if (Lib.decodeGo t).1 = 0 then 65533 else (Lib.decodeGo t).1
def repF : Nat → ByteArray → List UInt8
 | 0, _ => []
 | m + 1, t => if t.size = 0 then [] else Lib.encodeRune (repC t) ++ repF m (t.extract (Lib.decodeGo t).2 t.size)
def chF : Nat → ByteArray → List Int
 | 0, _ => []
 | m + 1, t => if t.size = 0 then [] else repC t :: chF m (t.extract (Lib.decodeGo t).2 t.size)
theorem repF_ch : ∀ m t, repF m t = (chF m t).flatMap Lib.encodeRune
 | 0, _ => rfl
 | m + 1, t => by
  rw [repF, chF]
  split
  · rfl
  · rw [List.flatMap_cons, repF_ch m]
theorem enc_len (l : List Int) : (l.flatMap Lib.encodeRune).length ≤ 4 * l.length := by
 induction l with
 | nil => simp
 | cons c l ih =>
  have hcl := (Lib.runeCells_le c).2
  rw [Lib.runeCells_length] at hcl
  rw [List.flatMap_cons, List.length_append, List.length_cons]
  omega
def strSz (W : World) (B : Nat) : Nat := match W.cell? ⟨B, 0, none⟩ with
 | some (.string t) => t.size
 | _ => 0
abbrev strO (t : ByteArray) : Obj := .cells #[.string t] 9 (0, 0)
set_option maxHeartbeats 1000000 in
theorem uEach1 (l Bs N : Nat) (J : List Int → World → Prop) (good : ByteArray → Prop) (hgood : ∀ t, good t → t.size ≠ 0 → good (t.extract (Lib.decodeGo t).2 t.size))
 (hdec : ∀ t W acc, good t → t.size ≠ 0 → J acc W → DecAt W t) (hJd : ∀ acc W W', J acc W → Below W.heap.size W W' → J acc W')
 (hJs : ∀ acc W t t', J acc W → W.heap[Bs]? = some (strO t) → J acc (W.setCell ⟨Bs, 0, none⟩ (.string t')))
 (hY : ∀ acc W c t, J acc W → W.heap[Bs]? = some (strO t) → acc.length ≤ N → 0 < c → c ≤ 1114111 → YieldAt Fence.wide 2 Tryz.prog l #[.int .i64 c] W fun e W' => e = .returned (.bool true) ∧ J (acc ++ [c]) W' ∧ W'.heap[Bs]? = some (strO t))
 (s : ByteArray) (W : World) (hBs : W.heap[Bs]? = some (strO s)) (hg : good s) (h0 : J [] W) (hs : s.size ≤ N) :
 CallsIn Fence.wide 3 Tryz.prog 98 #[.func (.yield l) #[] #[], .pointer (some ⟨Bs, 0, none⟩)] W fun e W' => (∃ v, e = .returned v) ∧ J (chF s.size s) W' := by
 refine callsIn_of_wp Tryz.func98 rfl trivial ?_ rfl
 simp only [Tryz.ntmps98, List.size_toArray, List.length_cons, List.length_nil, Nat.reduceAdd, Nat.reduceSub, Array.replicate_succ, Array.replicate_zero, List.push_toArray, List.append_toArray, List.nil_append, List.cons_append]
 gi_wp2
 gi_loopw [] (fun wr => ∃ (acc : List Int) (rest : ByteArray) (fuel : Nat), wr.heap[Bs]? = some (strO rest) ∧ J acc wr ∧ good rest ∧ acc ++ chF fuel rest = chF s.size s ∧ rest.size ≤ fuel ∧ acc.length + rest.size ≤ s.size)
  (fun wr => strSz wr Bs)
 case atStart =>
  exact ⟨[], s, s.size, hBs, h0, hg, rfl, Nat.le_refl _, by simp⟩
 case round =>
  obtain ⟨acc, rest, fuel, hb, hJ, hgr, hacc, hfu, hlen⟩ := hrel
  have hcell : wr.cell? ⟨Bs, 0, none⟩ = some (.string rest) := by simp [World.cell?, hb]
  have hfr : wr.frozen? ⟨Bs, 0, none⟩ = false := by simp [World.frozen?, hb]
  by_cases hz : rest.size = 0
  · obtain rfl : rest = ⟨#[]⟩ := ByteArray.ext (Array.eq_empty_of_size_eq_zero hz)
    have hrr : acc = chF s.size s := by
     rw [← hacc]
     cases fuel with
     | zero => rw [chF, List.append_nil]
     | succ m => rw [chF, if_pos hz, List.append_nil]
    gi_wp2
    go_end0
    exact ⟨⟨_, rfl⟩, by rw [← hrr]; exact hJ⟩
  · have hemp : rest.toList.isEmpty = false := by
     rw [Go.ByteArray.toList_eq]
     cases hr : rest.data.toList with
     | cons c t => rfl
     | nil =>
      exfalso; apply hz
      show rest.data.size = 0
      rw [← Array.length_toList, hr]; rfl
    have hpos : 0 < rest.size := Nat.pos_of_ne_zero hz
    have hdG : Lib.decodeGo rest = Utf8.decode rest 0 := by unfold Lib.decodeGo; rw [if_neg hz]
    have hw1 : 1 ≤ (Utf8.decode rest 0).2 := Lib.width_pos rest 0
    have hw2 : (Utf8.decode rest 0).2 ≤ rest.size := Lib.width_le rest hpos
    have hr1 := decGo_le rest
    obtain ⟨f, rfl⟩ : ∃ f, fuel = f + 1 := ⟨fuel - 1, by omega⟩
    have hsz : (rest.extract (Utf8.decode rest 0).2 rest.size).size = rest.size - (Utf8.decode rest 0).2 := by simp
    have hg2 := hgood rest hgr hz
    rw [chF, if_neg hz] at hacc
    rw [hdG] at hacc hg2
    have h1 : 1 ≤ (3 : Nat) - 1 := by omega
    have hblt : Bs < wr.heap.size := (Array.getElem?_eq_some_iff.1 hb).1
    have hmu : strSz wr Bs = rest.size := by unfold strSz; rw [hcell]
    by_cases hc : decC rest ≤ 0
    · have hC : repC rest = 65533 := by
       unfold decC at hc; unfold repC
       split at hc
       · rename_i h; rw [h.1]; rfl
       · rw [if_pos (by omega)]
      rw [hC] at hacc
      gi_wp2_with (refine ⟨trivial, ?_⟩; gi_at_call 99; refine (uDecode rest wr (hdec rest wr acc hgr hz hJ)).mono ?_; rintro e W2 ⟨rfl, hb2⟩; obtain ⟨fn, tmps, assign, body, hy, hR⟩ := hY acc W2 65533 rest (hJd _ _ _ hJ hb2) ((hb2.block Bs hblt).trans hb) (by omega) (by omega) (by omega))
      refine hR.mono ?_
      rintro e W3 ⟨rfl, hJ3, hb3⟩
      have hcell3 : W3.cell? ⟨Bs, 0, none⟩ = some (.string rest) := by simp [World.cell?, hb3]
      have hfr3 : W3.frozen? ⟨Bs, 0, none⟩ = false := by simp [World.frozen?, hb3]
      have hnew : ∀ t', (W3.setCell ⟨Bs, 0, none⟩ (.string t')).heap[Bs]? = some (strO t') := fun t' => by simp [World.setCell, Array.getElem?_modify, hb3]
      have hcn : ∀ t', strSz (W3.setCell ⟨Bs, 0, none⟩ (.string t')) Bs = t'.size := fun t' => by unfold strSz World.cell?; rw [hnew]; rfl
      gi_wp2
      refine ⟨⟨acc ++ [65533], _, f, hnew _, hJs _ _ _ _ hJ3 hb3, hg2, by rw [List.append_assoc]; exact hacc, by omega, by rw [List.length_append, List.length_singleton]; omega⟩, ?_⟩
      rw [hcn, hmu]
      omega
    · have hC : repC rest = decC rest := by
       unfold decC at hc ⊢; unfold repC
       split at hc
       · omega
       · rename_i h; rw [if_neg h, if_neg (by omega)]
      have hC2 : decC rest ≤ 1114111 := by rw [← hC]; unfold repC; split <;> omega
      rw [hC] at hacc
      gi_wp2_with (refine ⟨trivial, ?_⟩; gi_at_call 99; refine (uDecode rest wr (hdec rest wr acc hgr hz hJ)).mono ?_; rintro e W2 ⟨rfl, hb2⟩; obtain ⟨fn, tmps, assign, body, hy, hR⟩ := hY acc W2 (decC rest) rest (hJd _ _ _ hJ hb2) ((hb2.block Bs hblt).trans hb) (by omega) (by omega) (by omega))
      refine hR.mono ?_
      rintro e W3 ⟨rfl, hJ3, hb3⟩
      have hcell3 : W3.cell? ⟨Bs, 0, none⟩ = some (.string rest) := by simp [World.cell?, hb3]
      have hfr3 : W3.frozen? ⟨Bs, 0, none⟩ = false := by simp [World.frozen?, hb3]
      have hnew : ∀ t', (W3.setCell ⟨Bs, 0, none⟩ (.string t')).heap[Bs]? = some (strO t') := fun t' => by simp [World.setCell, Array.getElem?_modify, hb3]
      have hcn : ∀ t', strSz (W3.setCell ⟨Bs, 0, none⟩ (.string t')) Bs = t'.size := fun t' => by unfold strSz World.cell?; rw [hnew]; rfl
      gi_wp2
      refine ⟨⟨acc ++ [decC rest], _, f, hnew _, hJs _ _ _ _ hJ3 hb3, hg2, by rw [List.append_assoc]; exact hacc, by omega, by rw [List.length_append, List.length_singleton]; omega⟩, ?_⟩
      rw [hcn, hmu]
      omega
theorem wpIn_eachU {g : Operand} {ps : Array Tmp} {assign body : Code} {Q : Exit → Act → World → Prop} {a : Act} {w : World} (Bs : Nat) (hg : a.eval g = .func (.func 98) #[] #[.pointer (some ⟨Bs, 0, none⟩)]) (hps : ps.size = 1)
 (good : ByteArray → Prop) (hgood : ∀ t, good t → t.size ≠ 0 → good (t.extract (Lib.decodeGo t).2 t.size)) (s : ByteArray) (hgs : good s) (hBs : w.heap[Bs]? = some (strO s))
 (I : List Int → World → Prop) (hdec : ∀ t W acc, good t → t.size ≠ 0 → I acc W → DecAt W t) (hId : ∀ acc A B, I acc A → Below A.heap.size A B → I acc B)
 (hIs : ∀ acc A t t', I acc A → A.heap[Bs]? = some (strO t) → I acc (A.setCell ⟨Bs, 0, none⟩ (.string t')))
 (hIp : ∀ acc A l r r', I acc A → w.heap.size ≤ l → A.heap[l]? = some (.loop r) → I acc (A.putObj l (.loop r'))) (h0 : I [] w) (a₁ : Int → Act)
 (hassign : ∀ (l : Nat) (c : Int) (W : World) (K : Act → World → Prop), K (a₁ c) W → assign.wpIn (Fence.wide.inRound l) 2 Tryz.prog (Exit.then K (fun _ _ _ => False)) { tmps := (ps.zip #[Value.int .i64 c]).foldl (fun t (p, v) => t.setIfInBounds p v) a.tmps, defers := [] } W)
 (hbody : ∀ (l : Nat) (acc : List Int) (c : Int) (W : World), I acc W → acc.length ≤ s.size → 0 < c → c ≤ 1114111 → body.wpIn (Fence.wide.inRound l) 2 Tryz.prog
  (fun e _ W' => e = .normal ∧ I (acc ++ [c]) W' ∧ (∀ t, W.heap[Bs]? = some (strO t) → W'.heap[Bs]? = some (strO t)) ∧ ∀ k o, w.heap.size ≤ k → W.heap[k]? = some o → o.isCells = false → W'.heap[k]? = some o) (a₁ c) W)
 (hdone : ∀ (D : Nat) (W : World), w.heap.size ≤ D → I (chF s.size s) W → W.heap[D]? = some (.deferred (some [])) → Q .normal { a with defers := { target := .collected D, args := #[] } :: a.defers } W) :
 (Code.rangeFunc g ps assign body).wpIn Fence.wide 4 Tryz.prog Q a w := by
 refine wpIn_rangeFunc ?_
 intro fn hfn
 have hBlt : Bs < w.heap.size := (Array.getElem?_eq_some_iff.1 hBs).1
 have hro : Fence.wide.round = none := rfl
 rw [hro]
 obtain ⟨rec, hrec⟩ : ∃ rec : LoopState → Option Code → Loop, rec = fun st pe => { state := st, pending := pe, fn, tmps := a.tmps, params := ps, assign, body, defers := w.heap.size } := ⟨_, rfl⟩
 obtain ⟨W1, hW1⟩ : ∃ W1, (w.alloc (.deferred (some []))).alloc (.loop (rec .ready none)) = W1 := ⟨_, rfl⟩
 have hL1 : W1.heap[w.heap.size + 1]? = some (.loop (rec .ready none)) := by
  rw [← hW1]; have := World.alloc_heap_new (w.alloc (.deferred (some []))) (.loop (rec .ready none)); rwa [World.size_alloc] at this
 have hK1 : W1.heap[w.heap.size]? = some (.deferred (some [])) := by
  rw [← hW1]; exact (Below.heap_alloc _ _ _ (by simp)).trans (World.alloc_heap_new w _)
 have hb1 : Below w.heap.size w W1 := by
  rw [← hW1]; exact ((Below.refl _ w).alloc (Nat.le_refl _) _).alloc (by simp) _
 have hI1 : I [] W1 := hId _ _ _ h0 hb1
 have hBs1 : W1.heap[Bs]? = some (strO s) := (hb1.block Bs hBlt).trans hBs
 have eg := enters_of (P := Tryz.prog) Tryz.func98 (by kernel_rfl) rfl
 refine ⟨w.heap.size + 1, [{ target := .collected w.heap.size, args := #[] }], W1, { target := .fn (.func 98) #[.pointer (some ⟨Bs, 0, none⟩)], args := #[.func (.yield (w.heap.size + 1)) #[] #[]] }, W1, 98,
  #[.func (.yield (w.heap.size + 1)) #[] #[], .pointer (some ⟨Bs, 0, none⟩)], W1, ?_, ?_, ?_, ?_, fun _ => by omega, ?_⟩
 · rw [← hW1, hrec]; exact run_enterLoop_outer _ _ _ _ _
 · simp only [resolve, hg]
   simp [go_sem]
 · intro f' hf'; trivial
 · simp [invoke, go_sem, eg]
 · refine (uEach1 (w.heap.size + 1) Bs s.size (fun acc W => I acc W ∧ W.heap[w.heap.size + 1]? = some (.loop (rec .ready none)) ∧ W.heap[w.heap.size]? = some (.deferred (some []))) good hgood (fun t W acc hgt h0 hJ => hdec t W acc hgt h0 hJ.1)
    (fun acc A B hJ hb => ⟨hId _ _ _ hJ.1 hb, (hb.block _ (Array.getElem?_eq_some_iff.1 hJ.2.1).1).trans hJ.2.1, (hb.block _ (Array.getElem?_eq_some_iff.1 hJ.2.2).1).trans hJ.2.2⟩)
    (fun acc A t t' hJ hA => ⟨hIs _ _ _ _ hJ.1 hA, (Below.heap_setCell _ _ _ _ (by show w.heap.size + 1 ≠ Bs; omega)).trans hJ.2.1, (Below.heap_setCell _ _ _ _ (by show w.heap.size ≠ Bs; omega)).trans hJ.2.2⟩)
    ?_ s W1 hBs1 hgs ⟨hI1, hL1, hK1⟩ (Nat.le_refl _)).mono ?_
   · rintro acc W c t ⟨hi, hl, hk⟩ hbt hlen hc0 hc1
     have hlt : w.heap.size + 1 < W.heap.size := (Array.getElem?_eq_some_iff.1 hl).1
     have hy := run_yield (P := Tryz.prog) (args := #[Value.int .i64 c]) hl (by rw [hrec]; exact hps.symm)
     rw [hrec] at hy
     refine ⟨fn, _, assign, body, hy, roundIn_of_wpIn trivial (hassign _ c W _ ⟨_, run_beginRound hl (by rw [hrec]), ?_⟩)⟩
     have hl2 : (W.putObj (w.heap.size + 1) (.loop { rec .ready none with state := .busy })).heap[w.heap.size + 1]? = some (.loop { rec .ready none with state := .busy }) := World.putObj_heap_same hlt
     have hk2 : (W.putObj (w.heap.size + 1) (.loop { rec .ready none with state := .busy })).heap[w.heap.size]? = some (.deferred (some [])) := (World.putObj_heap_other (by omega)).trans hk
     have hb2 : (W.putObj (w.heap.size + 1) (.loop { rec .ready none with state := .busy })).heap[Bs]? = some (strO t) := (World.putObj_heap_other (by omega)).trans hbt
     refine wpIn_mono (hbody _ acc c _ (hIp _ _ _ _ _ hi (by omega) hl) hlen hc0 hc1) ?_
     rintro e a3 W3 ⟨rfl, hi3, hb3, hoth⟩
     have hl3 := hoth _ _ (by omega) hl2 rfl
     have hk3 := hoth _ _ (Nat.le_refl _) hk2 rfl
     have hr := run_endRound (P := Tryz.prog) none hl3
     refine ⟨_, _, hr, rfl, ⟨hIp _ _ _ _ _ hi3 (by omega) hl3, ?_, (World.putObj_heap_other (by omega)).trans hk3⟩, (World.putObj_heap_other (by omega)).trans (hb3 t hb2)⟩
     rw [World.putObj_heap_same (Array.getElem?_eq_some_iff.1 hl3).1, hrec]
     rfl
   · rintro e W2 ⟨⟨v, rfl⟩, hi, hl, hk⟩
     refine ⟨none, _, run_endLoop (P := Tryz.prog) hl (by rw [hrec]; simp) |>.trans (by rw [hrec]), hdone _ _ (Nat.le_refl _) (hIp _ _ _ _ _ hi (by omega) hl) ((World.putObj_heap_other (by omega)).trans hk)⟩
set_option maxHeartbeats 2000000 in
theorem uRepair (good : ByteArray → Prop) (hgood : ∀ t, good t → t.size ≠ 0 → good (t.extract (Lib.decodeGo t).2 t.size)) (s : ByteArray) (w : World) (hg : good s) (hs : s.size ≤ 17592186044416)
 (hdec : ∀ t W, good t → t.size ≠ 0 → Below w.heap.size w W → DecAt W t) :
 Calls Tryz.prog 35 #[.string s] w fun e w' => e = .returned (.string ⟨(repF s.size s).toArray⟩) ∧ Below w.heap.size w w' := by
 rw [repF_ch]
 refine (callsIn_wide (n := 4)).1 ?_
 refine callsIn_of_wp_marks Tryz.func35 rfl trivial ?_ rfl
 simp only [Tryz.ntmps35, List.size_toArray, List.length_cons, List.length_nil, Nat.reduceAdd, Nat.reduceSub, Array.replicate_succ, Array.replicate_zero, List.push_toArray, List.append_toArray, List.nil_append, List.cons_append]
 gi_wp2_with (refine ⟨trivial, ?_⟩; gi_at_call 64; refine (uEach s _).mono ?_; rintro e w' ⟨rfl, rfl⟩)
 obtain ⟨w0, hw0⟩ : ∃ w0, (w.alloc (Obj.cells #[Value.pointer none, Value.slice none 0 0] 71)).alloc (Obj.cells #[Value.string s] 9) = w0 := ⟨_, rfl⟩
 rw [hw0]
 have hsz0 : w0.heap.size = w.heap.size + 2 := by rw [← hw0]; simp
 have hBs0 : w0.heap[w.heap.size + 1]? = some (strO s) := by
  rw [← hw0]
  have := World.alloc_heap_new (w.alloc (Obj.cells #[Value.pointer none, Value.slice none 0 0] 71)) (strO s)
  rwa [World.size_alloc] at this
 have hb0 : Below w.heap.size w w0 := by rw [← hw0]; exact ((Below.refl _ w).alloc (Nat.le_refl _) _).alloc (by simp) _
 have hI0 : Lib.IsBuilderF 71 5 w.heap.size w.heap.size (Lib.byteCells []) w0 := by
  rw [← hw0]
  exact (Lib.IsBuilderF.of (Lib.fresh_isBuilder 71 5 w)).alloc _
 refine wpIn_eachU (w.heap.size + 1) rfl rfl good hgood s hg hBs0 (fun acc W => Lib.IsBuilderF 71 5 w.heap.size w.heap.size (Lib.byteCells (acc.flatMap Lib.encodeRune)) W ∧ Below w.heap.size w W) (fun t W acc hgt h0 hJ => hdec t W hgt h0 hJ.2)
  (fun acc A B hJ hb => ⟨hJ.1.below hb, hJ.2.trans (hb.mono hJ.2.size)⟩)
  (fun acc A t t' hJ hA => ⟨uB_kept hJ.1 (k := w.heap.size + 1) ⟨rfl, rfl, rfl, by simp [World.setCell], fun k _ hk => Below.heap_setCell _ _ _ _ (fun e => hk (by simp [e]))⟩ (by omega) hA (fun c fz h => by cases h), hJ.2.setCell (p := ⟨w.heap.size + 1, 0, none⟩) (by show w.heap.size ≤ w.heap.size + 1; omega) _⟩)
  (fun acc A l r r' hJ hl hA => ⟨uB_kept hJ.1 (grownBy_putObj' A l _) (by omega) hA (fun c fz h => by cases h), hJ.2.grown (grownBy_putObj' A l _) hJ.2.size (fun k e => by cases e; omega)⟩)
  ⟨hI0, hb0⟩ (fun c => { tmps := #[.string s, undef, .string ⟨#[]⟩, .pointer (some ⟨w.heap.size, 0, none⟩), .int .i64 c, .string s, .func (.func 98) #[] #[.pointer (some ⟨w.heap.size + 1, 0, none⟩)], .int .i64 c, undef, undef, undef, undef], defers := [] }) ?assign ?body ?done
 case assign =>
  intro l c W K hK
  gi_wp2
  exact hK
 case body =>
  rintro l acc c W ⟨hi, hb⟩ hlen hc0 hc1
  have hsz : w.heap.size ≤ W.heap.size := hb.size
  have hd : 1 ≤ (2 : Nat) - 1 := by omega
  gi_wp2_with (refine ⟨trivial, ?_⟩; gi_at_call 65; refine (CallsIn.inRound l (callsIn_wide.2 (Any.Builder_WriteRune_k Tryz.uRen_168 Tryz.uExtra w.heap.size w.heap.size _ c (by omega) (by omega) W hi (by rw [Lib.byteCells_length]; have := enc_len acc; omega) hsz))).mono ?_; rintro e W1 ⟨rfl, h1, b1, k1⟩)
  refine ⟨⟨by rw [Lib.byteCells_append (acc.flatMap Lib.encodeRune), Lib.byteCells_encodeRune]; exact .inr h1, hb.trans b1⟩, fun t ht => k1 _ _ ht (by simp) (fun c fz h => by cases h), fun k o hk ho hc => k1 _ _ ho (by simp; omega) (fun c fz h => by subst h; cases hc)⟩
 case done =>
  rintro D W hD ⟨hi, hb⟩ hK
  gi_wp2_with (refine ⟨trivial, ?_⟩; gi_at_call 38; refine (callsIn_wide.2 (Any.Builder_String_any_k Tryz.uRen_169 Tryz.uExtra w.heap.size w.heap.size _ W hi hb.size)).mono ?_; rintro e W1 ⟨rfl, _, b1, k1⟩)
  have hK1 := k1 D _ hK (by simp; omega) (fun c fz h => by cases h)
  refine ⟨by simp, .inl ⟨_, _, rfl, run_takeDeferred hK1, ?_⟩⟩
  refine ⟨_, results_tmp rfl _ _ _, rfl, ?_⟩
  exact (hb.trans b1).grown (grownBy_putObj' W1 D _) (hb.trans b1).size (fun k e => by cases e; omega)
theorem dec_cons (c : UInt8) (l : List UInt8) (h : c.toNat < 128) : Lib.decodeGo ⟨(c :: l).toArray⟩ = (c.toNat, 1) := by
 have hsz : (⟨(c :: l).toArray⟩ : ByteArray).size = l.length + 1 := by simp [ByteArray.size]
 have hp : 0 < (⟨(c :: l).toArray⟩ : ByteArray).size := by omega
 have hx : (⟨(c :: l).toArray⟩ : ByteArray)[0]'hp = c := rfl
 unfold Lib.decodeGo
 rw [if_neg (by omega), decode_ascii _ 0 hp (by rw [hx]; exact h), hx]
theorem ext_cons (c : UInt8) (l : List UInt8) : (⟨(c :: l).toArray⟩ : ByteArray).extract 1 (⟨(c :: l).toArray⟩ : ByteArray).size = ⟨l.toArray⟩ := by
 apply ByteArray.ext
 rw [ByteArray.data_extract]
 apply Array.ext'
 simp [ByteArray.size]
theorem repF_ascii : ∀ (l : List UInt8) (m : Nat), l.length ≤ m → (∀ c ∈ l, 1 ≤ c.toNat ∧ c.toNat < 128) → repF m ⟨l.toArray⟩ = l
 | [], m, _, _ => by
  cases m with
  | zero => rfl
  | succ m => rw [repF, if_pos (by rfl)]
 | c :: l, m, hm, h => by
  obtain ⟨m, rfl⟩ : ∃ q, m = q + 1 := ⟨m - 1, by rw [List.length_cons] at hm; omega⟩
  obtain ⟨h1, h2⟩ := h c (by simp)
  have hsz : (⟨(c :: l).toArray⟩ : ByteArray).size = l.length + 1 := by simp [ByteArray.size]
  have ih := repF_ascii l m (by rw [List.length_cons] at hm; omega) (fun d hd => h d (by simp [hd]))
  rw [repF, if_neg (by omega), dec_cons c l h2, ext_cons, ih]
  have hC : repC ⟨(c :: l).toArray⟩ = (c.toNat : Int) := by unfold repC; rw [dec_cons c l h2, if_neg (by show c.toNat ≠ 0; omega)]
  rw [hC]
  unfold Lib.encodeRune
  rw [Lib.encodeRuneZ_one (by omega) (by omega)]
  show [((c.toNat : Int)).toNat.toUInt8] ++ l = c :: l
  rw [Int.toNat_natCast]
  show [UInt8.ofNat c.toNat] ++ l = _
  rw [UInt8.ofNat_toNat]; rfl
end Go.Proofs
namespace Go.Proofs
open Go.RowKit Go.Maps Go.Shelf
attribute [local go_sem] Oper.semAt_some
theorem ownsRow_of {W W' : World} {base : Nat} {e : TypeId} {size : Nat} {v : Value} {k : Nat} {xs : List Value} (h : W.ownsRow base e size v k xs) (hb : ∀ j, j < W.heap.size → W'.heap[j]? = W.heap[j]?) : W'.ownsRow base e size v k xs := by
 refine ⟨h.1, ?_⟩
 rcases h.2 with hn | ⟨g, cap, cur, hv, hbg, hgb, rest⟩
 · exact .inl hn
 · exact .inr ⟨g, cap, cur, hv, hbg, (hb g (Array.getElem?_eq_some_iff.1 hgb).1).trans hgb, rest⟩
theorem Tryz.infoI : (Tryz.prog.info? 3).map (fun i => (i.zero, i.size, i.bytes)) = some (some (.int .i64 0), 1, 8) := by kernel_rfl
set_option maxHeartbeats 2000000 in
theorem uAppendSeq (nb Bs : Nat) (s : ByteArray) (w0 w : World) (hnb : nb ≤ Bs) (hb : Below nb w0 w) (hnw : nb ≤ w.heap.size) (hBs : w.heap[Bs]? = some (strO s)) (hs : s.size ≤ 17592186044415)
 (hdec : ∀ t W, t.size ≠ 0 → Below nb w0 W → DecAt W t) :
 CallsIn Fence.wide 4 Tryz.prog 127 #[.slice none 0 0, .func (.func 98) #[] #[.pointer (some ⟨Bs, 0, none⟩)]] w fun e w' => ∃ v, e = .returned v ∧
  w'.ownsRow nb 3 1 v (chF s.size s).length ((chF s.size s).map (Value.int .i64)) ∧ Below nb w0 w' := by
 have hBlt : Bs < w.heap.size := (Array.getElem?_eq_some_iff.1 hBs).1
 refine callsIn_of_wp_marks Tryz.func127 rfl trivial ?_ rfl
 simp only [Tryz.ntmps127, List.size_toArray, List.length_cons, List.length_nil, Nat.reduceAdd, Nat.reduceSub, Array.replicate_succ, Array.replicate_zero, List.push_toArray, List.append_toArray, List.nil_append, List.cons_append]
 gi_wp2
 obtain ⟨W0, hW0⟩ : ∃ W0, w.alloc (Obj.cells #[Value.slice none 0 0] 89) = W0 := ⟨_, rfl⟩
 rw [hW0]
 have hsz0 : W0.heap.size = w.heap.size + 1 := by rw [← hW0]; simp
 have hbx0 : Boxed W0 w.heap.size 89 (.slice none 0 0) := by rw [← hW0]; exact Boxed.new w _ _
 have hBs0 : W0.heap[Bs]? = some (strO s) := by rw [← hW0]; exact (Below.heap_alloc _ _ Bs hBlt).trans hBs
 have hb0 : Below nb w0 W0 := by rw [← hW0]; exact hb.alloc hnw _
 refine wpIn_eachU Bs rfl rfl (fun _ => True) (fun _ _ _ => trivial) s trivial hBs0
  (fun acc W => ∃ v, Boxed W w.heap.size 89 v ∧ W.ownsRow nb 3 1 v acc.length (acc.map (Value.int .i64)) ∧ Below nb w0 W) (fun t W acc _ h0 ⟨_, _, _, h⟩ => hdec t W h0 h)
  (fun acc A B ⟨v, h1, h2, h3⟩ hh => ?_) (fun acc A t t' ⟨v, h1, h2, h3⟩ hA => ?_) (fun acc A l r r' ⟨v, h1, h2, h3⟩ hl hA => ?_) ⟨_, hbx0, ⟨rfl, .inl ⟨rfl, rfl⟩⟩, hb0⟩
  (fun c => { tmps := #[.slice none 0 0, .func (.func 98) #[] #[.pointer (some ⟨Bs, 0, none⟩)], .pointer (some ⟨w.heap.size, 0, none⟩), undef, .slice none 0 0, .int .i64 c, .func (.func 98) #[] #[.pointer (some ⟨Bs, 0, none⟩)], .int .i64 c, undef, undef, undef, undef, undef], defers := [] }) ?assign ?body ?done
 · exact ⟨v, (hh.block _ h1.lt).trans h1, ownsRow_of h2 (fun j hj => hh.block j hj), h3.trans (hh.mono (by have := h1.lt; omega))⟩
 · have hx : Boxed A Bs 9 (.string t) := hA
   exact ⟨v, (Below.heap_setCell _ _ _ _ (by show w.heap.size ≠ Bs; omega)).trans h1, h2.kept (grownBy_setCell' A Bs _) (.inr (hx.not_row (by decide) h2).symm), h3.setCell (p := ⟨Bs, 0, none⟩) hnb _⟩
 · exact ⟨v, h1.kept (grownBy_putObj' A l _) (fun e => by cases e; omega), ownsRow_putObj h2 _ hA rfl, h3.grown (grownBy_putObj' A l _) (by have := h1.lt; omega) (fun k e => by cases e; omega)⟩
 case assign =>
  intro l c W K hK
  gi_wp2
  exact hK
 case body =>
  rintro l acc c W ⟨v, h1, h2, h3⟩ hlen hc0 hc1
  obtain ⟨i0, hi, hz0, hz1, hz2⟩ := info_parts Tryz.infoI
  have hnW : nb ≤ W.heap.size := by have := h1.lt; omega
  have hcl := h1.cell
  have hfr := h1.frozen
  gi_wp2_with (gi_at_builtin; refine wpListIn_append_own _ rfl _ _ 89 rfl nb 3 i0 (.int .i64 0) 1 8 Tryz.underlying89 hi hz0 hz1 hz2 rfl (by decide) _ _ _ rfl (h2.alloc _) ⟨W.heap.size, 0, none⟩ 1 1 [.int .i64 c] rfl rfl (cell_one_new _ _ _) (by simp [Value.oneCell']) (by unfold maxLen; omega) (by omega) (by simp; omega) ?_; intro v' w3 hown' hg3 hnil3; obtain ⟨g', cap', rfl⟩ := ownsRow_succ hown'; obtain ⟨k1, k2, k3, k4, k5⟩ := Boxed.appended h1 (by decide) h2 hnW hnw hown' hg3; have hc3 := k1.cell; have hf3 := k1.frozen)
  refine ⟨⟨_, k2, by simpa using k3, h3.trans k5⟩, fun t ht => ?_, fun k o hk ho hc => k4.same k o ho hc⟩
  have hx : Boxed W Bs 9 (.string t) := ht
  have hx3 : Boxed w3 Bs 9 (.string t) := (hx.alloc _).kept hg3 (hx.not_row (by decide) h2)
  exact (Below.heap_setCell _ _ _ _ (by show Bs ≠ w.heap.size; omega)).trans hx3
 case done =>
  rintro D W hD ⟨v, h1, h2, h3⟩ hK
  have hcl := h1.cell
  have hfr := h1.frozen
  have h4 := ownsRow_putObj h2 (.deferred none) hK rfl
  have fin : Below nb w0 (W.putObj D (.deferred none)) := h3.grown (grownBy_putObj' W D _) (by have := h1.lt; omega) (fun k e => by cases e; omega)
  rcases h2.2 with ⟨rfl, h0⟩ | ⟨g, cap, cur, rfl, h0⟩
  · gi_wp2
    refine ⟨by simp, .inl ⟨_, _, rfl, run_takeDeferred hK, ?_⟩⟩
    exact ⟨_, results_tmp rfl _ _ _, _, rfl, (by simpa using h4), fin⟩
  · gi_wp2
    refine ⟨by simp, .inl ⟨_, _, rfl, run_takeDeferred hK, ?_⟩⟩
    exact ⟨_, results_tmp rfl _ _ _, _, rfl, (by simpa using h4), fin⟩
set_option maxHeartbeats 1000000 in
theorem uCollect (nb Bs : Nat) (s : ByteArray) (w0 w : World) (hnb : nb ≤ Bs) (hb : Below nb w0 w) (hnw : nb ≤ w.heap.size) (hBs : w.heap[Bs]? = some (strO s)) (hs : s.size ≤ 17592186044415)
 (hdec : ∀ t W, t.size ≠ 0 → Below nb w0 W → DecAt W t) :
 CallsIn Fence.wide 5 Tryz.prog 102 #[.func (.func 98) #[] #[.pointer (some ⟨Bs, 0, none⟩)]] w fun e w' => ∃ v, e = .returned v ∧
  w'.ownsRow nb 3 1 v (chF s.size s).length ((chF s.size s).map (Value.int .i64)) ∧ Below nb w0 w' := by
 refine callsIn_of_wp Tryz.func102 rfl trivial ?_ rfl
 simp only [Tryz.ntmps102, List.size_toArray, List.length_cons, List.length_nil, Nat.reduceAdd, Nat.reduceSub, Array.replicate_succ, Array.replicate_zero, List.push_toArray, List.append_toArray, List.nil_append, List.cons_append]
 gi_wp2_with (refine ⟨trivial, ?_⟩; gi_at_call 127; refine (uAppendSeq nb Bs s w0 w hnb hb hnw hBs hs hdec).mono ?_; rintro e w' ⟨v, rfl, h1, h2⟩)
 go_ret
 exact ⟨_, rfl, h1, h2⟩
theorem uEach5 (s : ByteArray) (w : World) : CallsIn Fence.wide 5 Tryz.prog 64 #[.string s] w fun e w' => e = .returned (.func (.func 98) #[] #[.pointer (some ⟨w.heap.size, 0, none⟩)]) ∧ w' = w.alloc (.cells #[.string s] 9) := by
 refine callsIn_of_wp Tryz.func64 rfl trivial ?_ rfl
 simp only [Tryz.ntmps64, List.size_toArray, List.length_cons, List.length_nil, Nat.reduceAdd, Nat.reduceSub, Array.replicate_succ, Array.replicate_zero, List.push_toArray, List.append_toArray, List.nil_append, List.cons_append]
 gi_wp2
 go_ret
 exact ⟨rfl, rfl⟩
set_option maxHeartbeats 1000000 in
theorem uChars (s : ByteArray) (w : World) (hs : s.size ≤ 17592186044415) (hdec : ∀ t W, t.size ≠ 0 → Below w.heap.size w W → DecAt W t) :
 Calls Tryz.prog 67 #[.string s] w fun e w' => ∃ v, e = .returned v ∧
  w'.ownsRow w.heap.size 3 1 v (chF s.size s).length ((chF s.size s).map (Value.int .i64)) ∧ Below w.heap.size w w' := by
 refine (callsIn_wide (n := 6)).1 ?_
 refine callsIn_of_wp Tryz.func67 rfl trivial ?_ rfl
 simp only [Tryz.ntmps67, List.size_toArray, List.length_cons, List.length_nil, Nat.reduceAdd, Nat.reduceSub, Array.replicate_succ, Array.replicate_zero, List.push_toArray, List.append_toArray, List.nil_append, List.cons_append]
 gi_wp2_with (first
  | (refine ⟨trivial, ?_⟩; gi_at_call 64; refine (uEach5 s _).mono ?_; rintro e w' ⟨rfl, rfl⟩)
  | (refine ⟨trivial, ?_⟩; gi_at_call 102; refine (uCollect w.heap.size w.heap.size s w _ (Nat.le_refl _) ((Below.refl _ w).alloc (Nat.le_refl _) _) (by simp) (World.alloc_heap_new w _) hs hdec).mono ?_; rintro e w' ⟨v, rfl, h1, h2⟩))
 go_ret
 exact ⟨_, rfl, h1, h2⟩
end Go.Proofs
namespace Go.Mu
open Go Go.Proofs
def blk (c : UInt8) : Bool := c == 32 || c == 9 || c == 10 || c == 12 || c == 13
end Go.Mu
namespace Go.Proofs
open Go.Shelf
def Tryz.idxRen : Ren := {
 f := fun x => match x with
  | 219 => 141
  | 217 => 128
  | 225 => 152
  | 224 => 153
  | 267 => 154
  | 266 => 140
  | 314 => 158
  | n => n,
 t := fun x => match x with
  | 9 => 9
  | 3 => 3
  | 4 => 4
  | 5 => 5
  | 46 => 88
  | 146 => 145
  | 51 => 127
  | n => n,
 g := fun x => match x with
  | 1 => 0
  | n => n }
theorem Tryz.idxLays : Lays.n219 Tryz.prog Tryz.idxRen := {
 mixed := by kernel_rfl
 f217 := Tryz.func128.trans (congrArg some (by kernel_rfl))
 f219 := Tryz.func141.trans (congrArg some (by kernel_rfl))
 f224 := Tryz.func153.trans (congrArg some (by kernel_rfl))
 f225 := Tryz.func152.trans (congrArg some (by kernel_rfl))
 f266 := Tryz.func140.trans (congrArg some (by kernel_rfl))
 f267 := Tryz.func154.trans (congrArg some (by kernel_rfl))
 f314 := Tryz.func158.trans (congrArg some (by kernel_rfl))
 t3 := Tryz.underlying3
 a3 := Tryz.isAgg3
 z3 := Tryz.sizeOf3
 v3 := Tryz.zeroValue3
 t4 := Tryz.underlying4
 a4 := Tryz.isAgg4
 z4 := Tryz.sizeOf4
 v4 := Tryz.zeroValue4
 t5 := Tryz.underlying5
 a5 := Tryz.isAgg5
 z5 := Tryz.sizeOf5
 v5 := Tryz.zeroValue5
 t9 := Tryz.underlying9
 a9 := Tryz.isAgg9
 z9 := Tryz.sizeOf9
 v9 := Tryz.zeroValue9
 t46 := Tryz.underlying88
 a46 := Tryz.isAgg88
 z46 := Tryz.sizeOf88
 v46 := Tryz.zeroValue88
 t51 := Tryz.underlying127
 a51 := Tryz.isAgg127
 z51 := Tryz.sizeOf127
 v51 := Tryz.zeroValue127
 t146 := Tryz.underlying145
 a146 := Tryz.isAgg145
 z146 := Tryz.sizeOf145
 v146 := Tryz.zeroValue145
 g1 := by kernel_rfl }
end Go.Proofs
namespace Go.Mu
open Go Go.Proofs
variable {P : Program}
theorem CallOK.same {f : FuncId} {xs : List AVal} {H : Heap} {v : AVal} (h : ∀ w E (cs : List Value), Sim w E H → cs.length = xs.length → (∀ j, j < xs.length → Rep w E H (xs.getD j .undef) (cs.getD j undef)) → ∃ c, Calls P f cs.toArray w (fun e w' => e = .returned c ∧ w' = w) ∧ Rep w E H v c) : CallOK P f xs H (.ret v H) := by
 intro w E cs sim hl hr
 obtain ⟨c, h1, h2⟩ := h w E cs sim hl hr
 refine Calls.mono h1 (fun e w' hp => ?_)
 obtain ⟨rfl, rfl⟩ := hp
 exact ⟨E, .refl, sim, h2⟩
theorem idx_ok (a b : List UInt8) (ha : a.length < 4294967281) : CallOK Tryz.prog 141 [.str a, .str b] [] (.ret (.int .i64 (Lib.index a b)) []) := by
 refine CallOK.same (fun w E cs sim hl hr => ?_)
 obtain ⟨x, y, rfl⟩ : ∃ x y, cs = [x, y] := by
  match cs, hl with
  | [x, y], _ => exact ⟨x, y, rfl⟩
 obtain ⟨s, e1, rfl⟩ := rep_str (hr 0 (by simp))
 obtain ⟨t, e2, rfl⟩ := rep_str (hr 1 (by simp))
 replace e1 : x = .string s := e1
 replace e2 : y = .string t := e2
 subst e1 e2
 obtain ⟨_, m, hm⟩ := sim.glob.1 0 .i64 (by rfl)
 exact ⟨_, Any.stringslite_Index Tryz.idxLays s t m w (by simpa using ha) hm, .pure _ _ (.int _ _)⟩
noncomputable def idxTold : FSp := fun xs H k => match xs, H with
 | [.str a, .str b], [] => cond (decide (a.length < 4294967281)) (k (.ret (.int .i64 (Lib.index a b)) [])) none
 | _, _ => none
theorem idxTold_ok (xs : List AVal) (H : Heap) (k : Out → Ans) (out : Out) (ho : idxTold xs H k = some out) : ∃ o, CallOK Tryz.prog 141 xs H o ∧ k o = some out := by
 unfold idxTold at ho
 split at ho
 · rw [Bool.cond_eq_ite] at ho
   split at ho
   · rename_i hc
     exact ⟨_, idx_ok _ _ (of_decide_eq_true hc), ho⟩
   · simp at ho
 · simp at ho
end Go.Mu
namespace Go.Mu
open Go Go.Proofs
def trimsA (s : List UInt8) : Bool := decide (1 < s.length) && s.getD 0 0 == 45 && blk (s.getD 1 0)
theorem hA (u : List UInt8) : (decide ((u.length : Int) > 1) && u.getD 0 0 == 45 && blk (u.getD 1 0)) = trimsA u := by
 unfold trimsA
 rw [show decide ((u.length : Int) > 1) = decide (1 < u.length) from decide_eq_decide.2 (by omega)]
end Go.Mu
namespace Go.Mu
open Go Go.Proofs
section
variable {P : Program} {w w' : World} {E E' : Env} {H H' : Heap}
theorem Post.pre {E1 : Env} {H1 : Heap} {o : Out} (ev : Evo No w E H w E1 H1) {e : Ending} {w' : World} (h : Post w E1 H1 o e w') : Post w E H o e w' := by
 cases o with
 | ret v H' =>
  cases e with
  | returned c => obtain ⟨E', g1, g2, g3⟩ := h; exact ⟨E', ev.trans g1 (fun x hx => hx.elim), g2, g3⟩
  | panicked _ => exact h.elim
  | outgrown => exact h.elim
 | panic p H' =>
  cases e with
  | returned _ => exact h.elim
  | panicked ch => obtain ⟨E', c, g0, g1, g2, g3⟩ := h; exact ⟨E', c, g0, ev.trans g1 (fun x hx => hx.elim), g2, g3⟩
  | outgrown => exact h.elim
theorem kill (hs : Sim w E H) {j sz u : Nat} {rows : List (List AVal)} (hj : H[j]? = some (.arr sz rows u)) (hsz : w'.heap.size = w.heap.size) (hb : ∀ b, b ≠ E.φ j ∨ E.cap j = 0 → w'.heap[b]? = w.heap[b]?) (h1 : w'.tape = w.tape) (h2 : w'.os = w.os) (h3 : w'.output = w.output) :
 Evo No w E H w' { E with cap := upd E.cap j 0 } (H.set j (.arr sz [] (u + 1))) ∧ Sim w' { E with cap := upd E.cap j 0 } (H.set j (.arr sz [] (u + 1))) := by
 have hlt := get_lt hj
 have hi := fun l => isVar_setArr (new := []) (u' := u + 1) hj l
 have ha := fun l => arrInfo_setArr (new := []) (u' := u + 1) hj l
 have ce : ∀ l, l ≠ j → upd E.cap j 0 l = E.cap l := fun l hl => upd_other _ _ hl
 have hnv : isVar H j = false := by simp [isVar, hj]
 have hlive : ∀ l, live { E with cap := upd E.cap j 0 } (H.set j (.arr sz [] (u + 1))) l → live E H l ∧ l ≠ j := fun l hl => by
  by_cases e : l = j
  · subst e
    rcases hl with hl | ⟨_, hl⟩
    · rw [hi, hnv] at hl; cases hl
    · simp at hl
  · refine ⟨?_, e⟩
    simp only [live, hi, ha, if_neg e, ce l e] at hl
    exact hl
 have same : ∀ l, live E H l → l ≠ j → w'.heap[E.φ l]? = w.heap[E.φ l]? := fun l hl hne => by
  by_cases hc : E.cap j = 0
  · exact hb _ (.inr hc)
  · exact hb _ (.inl (fun e => hne (hs.inj l j hl (.inr ⟨⟨sz, u, arr_of_get hj⟩, hc⟩) e)))
 have imm : ∀ b, E.imm b → w'.heap[b]? = w.heap[b]? := fun b hbi => by
  by_cases hc : E.cap j = 0
  · exact hb _ (.inr hc)
  · exact hb _ (.inl (fun e => (hs.apart j (.inr ⟨⟨sz, u, arr_of_get hj⟩, hc⟩)).1 (e ▸ hbi)))
 have ev : Evo No w E H w' { E with cap := upd E.cap j 0 } (H.set j (.arr sz [] (u + 1))) := by
  refine ⟨by omega, fun b _ _ hk => ?_, fun b hbi => ⟨hbi, imm b hbi⟩, fun b hbi => .inl hbi, fun l hl => ⟨by rw [hi]; exact hl, rfl⟩, fun l sz' u' hl => ?_, fun l hl => .inr ⟨(hlive l hl).1, rfl⟩, by simp, h1, h2, h3⟩
  · by_cases hc : E.cap j = 0
    · exact hb _ (.inr hc)
    · exact hb _ (.inl (fun e => hk j (.inr ⟨⟨sz, u, arr_of_get hj⟩, hc⟩) e.symm))
  · by_cases e : l = j
    · subst e
      rw [arr_of_get hj] at hl
      simp only [Option.some.injEq, Prod.mk.injEq] at hl
      obtain ⟨rfl, rfl⟩ := hl
      exact ⟨u + 1, by rw [ha, if_pos rfl], by omega, fun h => by omega⟩
    · exact ⟨u', by rw [ha, if_neg e]; exact hl, Nat.le_refl _, fun _ => ⟨ce l e, fun _ => rfl⟩⟩
 have hse := ev.sees
 refine ⟨ev, fun b hbi => by rw [hsz]; exact hs.immLt b hbi, fun l cs hc => ?_, fun l sz' rw' u' hc => ?_, fun l hl => ⟨(hs.apart l (hlive l hl).1).1, by rw [hsz]; exact (hs.apart l (hlive l hl).1).2⟩, fun x y hx hy he => hs.inj x y (hlive x hx).1 (hlive y hy).1 he, fun m t n hm hl => ?_, hs.glob.mono hse.imm⟩
 · by_cases e : l = j
   · subst e; rw [List.getElem?_set_self hlt] at hc; simp at hc
   · rw [List.getElem?_set_ne (Ne.symm e)] at hc
     exact (hs.var l cs hc).mono hse (same l (.inl (var_of_get hc)) e)
 · by_cases e : l = j
   · subst e
     rw [List.getElem?_set_self hlt] at hc
     simp only [Option.some.injEq, Obj.arr.injEq] at hc
     obtain ⟨rfl, rfl, rfl⟩ := hc
     exact ⟨(hs.arr l sz rows u hj).1, Nat.zero_le _, fun r hr => by simp at hr, fun hcap => by simp at hcap⟩
   · rw [List.getElem?_set_ne (Ne.symm e)] at hc
     obtain ⟨g1, g2, g3, g4⟩ := hs.arr l sz' rw' u' hc
     refine ⟨g1, by simp only [ce l e]; exact g2, g3, fun hcap => ?_⟩
     simp only [ce l e] at hcap ⊢
     exact (g4 hcap).mono hse (same l (.inr ⟨⟨sz', u', arr_of_get hc⟩, hcap⟩) e)
 · obtain ⟨g1, g2⟩ := hlive _ hl
   exact (hs.note m t n (get_set_note (fun t n e => by cases e) hm) g1).same (same _ g1 g2)
def isNilL : AVal → Bool
 | .nilX => true
 | .list true 0 _ => true
 | _ => false
theorem isNilL_rep {v : AVal} {c : Value} (h : isNilL v = true) (r : Rep w E H v c) : ∃ a, c = .slice a 0 0 := by
 unfold isNilL at h
 split at h
 · exact ⟨none, rep_nilX r⟩
 · obtain ⟨ad, cap, rfl, hle, hfull, _⟩ := rep_list r
   have := hfull rfl
   subst this
   exact ⟨ad, rfl⟩
 · cases h
theorem relink (hs : Sim w E H) {i c j sz u : Nat} {cs : List AVal} {nx : AVal} {rows : List (List AVal)} (hi : H[i]? = some (.var cs)) (hc : cs[c]? = some nx) (hnx : isNilL nx = true) (hj : H[j]? = some (.arr sz rows u)) :
 Evo No w E H w { E with cap := upd E.cap j 0 } ((H.set j (.arr sz [] (u + 1))).set i (.var (cs.set c (.own j 0 0 (u + 1) false)))) ∧ Sim w { E with cap := upd E.cap j 0 } ((H.set j (.arr sz [] (u + 1))).set i (.var (cs.set c (.own j 0 0 (u + 1) false)))) := by
 obtain ⟨ev, sim⟩ := kill (w' := w) hs hj rfl (fun _ _ => rfl) rfl rfl rfl
 have hij : i ≠ j := fun e => by subst e; rw [hi] at hj; cases hj
 have hi1 : (H.set j (.arr sz [] (u + 1)))[i]? = some (.var cs) := by rw [List.getElem?_set_ne (Ne.symm hij)]; exact hi
 obtain ⟨k1, k2⟩ := set_same_var (new := cs.set c (.own j 0 0 (u + 1) false)) hi1
 have hinfo : arrInfo ((H.set j (.arr sz [] (u + 1))).set i (.var (cs.set c (.own j 0 0 (u + 1) false)))) j = some (sz, u + 1) := by
  rw [k2, arrInfo_setArr hj, if_pos rfl]
 have hse : Sees w { E with cap := upd E.cap j 0 } (H.set j (.arr sz [] (u + 1))) w { E with cap := upd E.cap j 0 } ((H.set j (.arr sz [] (u + 1))).set i (.var (cs.set c (.own j 0 0 (u + 1) false)))) :=
  ⟨fun b hb => ⟨hb, rfl⟩, fun k hk => ⟨by rw [k1]; exact hk, rfl⟩, fun k sz' u' hk => ⟨u', by rw [k2]; exact hk, Nat.le_refl _, fun _ => ⟨rfl, fun _ => rfl⟩⟩⟩
 have sim2 := sim.set (w' := w) (k := i) (obj := .var (cs.set c (.own j 0 0 (u + 1) false))) k1 k2 hse (Nat.le_refl _) (fun _ _ _ => rfl) (fun cs' e => by
  cases e
  obtain ⟨ds, ty, fr, b1, b2, b3, b4⟩ := sim.var i cs hi1
  refine ⟨ds, ty, fr, b1, by simpa using b2, by simpa using b3, fun m v hm => ?_⟩
  replace hm : (cs.set c (.own j 0 0 (u + 1) false))[m]? = some v := hm
  rw [List.getElem?_set] at hm
  by_cases e : c = m
  · subst e
    have hlt : c < cs.length := (List.getElem?_eq_some_iff.1 hc).1
    simp only [if_true, if_pos hlt, Option.some.injEq] at hm
    subst hm
    obtain ⟨x, x1, x2, x3⟩ := b4 c _ hc
    obtain ⟨ad, rfl⟩ := isNilL_rep hnx x3
    exact ⟨_, x1, x2, .own j 0 0 (u + 1) false ad 0 sz (u + 1) hinfo (Nat.le_refl _) (fun _ => ⟨Nat.le_refl _, fun _ => rfl, fun _ _ => by simp, by simp, fun h => by simp at h⟩)⟩
  · rw [if_neg e] at hm
    obtain ⟨x, x1, x2, x3⟩ := b4 m v hm
    exact ⟨x, x1, x2, x3.mono hse⟩) (fun _ _ _ e => by cases e) (fun _ _ e => by cases e) (fun _ _ h => h)
 refine ⟨ev.trans (Y := No) ⟨Nat.le_refl _, fun _ _ _ _ => rfl, fun b hb => ⟨hb, rfl⟩, fun b hb => .inl hb, fun k hk => ⟨by rw [k1]; exact hk, rfl⟩, fun k sz' u' hk => ⟨u', by rw [k2]; exact hk, Nat.le_refl _, fun _ => ⟨rfl, fun _ => rfl⟩⟩, fun k hk => .inr ⟨(live_congr k1 k2 k).1 hk, rfl⟩, by simp, rfl, rfl, rfl⟩ (fun x hx => hx.elim), sim2⟩
def relAt (i c j : Nat) (H : Heap) : Heap := match H[i]?, H[j]? with
 | some (.var cs), some (.arr sz rows u) => match cs[c]? with
  | some x => cond (isNilL x) ((H.set j (.arr sz [] (u + 1))).set i (.var (cs.set c (.own j 0 0 (u + 1) false)))) H
  | _ => H
 | _, _ => H
theorem CallOK.relink {f : FuncId} {xs : List AVal} {o : Out} {i c j sz u : Nat} {cs : List AVal} {nx : AVal} {rows : List (List AVal)} (hi : H[i]? = some (.var cs)) (hc : cs[c]? = some nx) (hnx : isNilL nx = true) (hj : H[j]? = some (.arr sz rows u))
 (h : CallOK P f xs ((H.set j (.arr sz [] (u + 1))).set i (.var (cs.set c (.own j 0 0 (u + 1) false)))) o) : CallOK P f xs H o := by
 intro w E ys sim hlen hr
 obtain ⟨ev, sim2⟩ := Mu.relink sim hi hc hnx hj
 exact Calls.mono (h w _ ys sim2 hlen (fun m hm => (hr m hm).mono ev.sees)) (fun e w' hp => hp.pre ev)
end
theorem relAt_ok {P : Program} {f : FuncId} {xs : List AVal} {H : Heap} {o : Out} {i c j : Nat} (h : CallOK P f xs (relAt i c j H) o) : CallOK P f xs H o := by
 unfold relAt at h
 split at h
 · rename_i h1 h2
   split at h
   · rename_i x h3
     rw [Bool.cond_eq_ite] at h
     split at h
     · rename_i h4
       exact CallOK.relink h1 h3 h4 h2 h
     · exact h
   · exact h
 · exact h
theorem freeze_other {w : World} {g n b : Nat} (h : b ≠ g) : (w.freeze ⟨g, 0, none⟩ n).heap[b]? = w.heap[b]? := by
 unfold World.freeze
 split
 · rfl
 · simp [Array.getElem?_modify, Ne.symm h]
theorem freeze_size {w : World} {g n : Nat} : (w.freeze ⟨g, 0, none⟩ n).heap.size = w.heap.size := by
 unfold World.freeze
 split
 · rfl
 · simp
theorem freeze_rest {w : World} {g n : Nat} : (w.freeze ⟨g, 0, none⟩ n).tape = w.tape ∧ (w.freeze ⟨g, 0, none⟩ n).os = w.os ∧ (w.freeze ⟨g, 0, none⟩ n).output = w.output := by
 unfold World.freeze
 split <;> exact ⟨rfl, rfl, rfl⟩
theorem str_walk {w w1 : World} {b off n cap : Nat} {ad : Option Addr} {pv : Option Addr} {s : ByteArray} (hc : w.cell? ⟨b, off + 1, none⟩ = some (.slice ad n cap))
 (hSD : (Builtin.unsafeSliceData_ #[69] 86 #[.slice ad n cap]).run Tryz.prog w.drew = .ok (.pointer pv) w.drew)
 (hUS : (Builtin.unsafeString_ #[86, 3] 9 #[.pointer pv, .int .i64 n]).run Tryz.prog w.drew = .ok (.string s) w1) :
 Calls Tryz.prog 38 #[.pointer (some ⟨b, off, none⟩)] w fun e w' => e = .returned (.string s) ∧ w' = w1 := by
 have c1 : w.drew.cell? ⟨b, off + 1, none⟩ = some (.slice ad n cap) := hc
 have mixed : Tryz.prog.follows Departure.mixedOrders = true := by kernel_rfl
 go_enter Tryz.func38, Tryz.ntmps38
 go_wp2
 go_region_o
 all_goals (go_wp2; go_ret; exact ⟨rfl, rfl⟩)
end Go.Mu
namespace Go.Mu
open Go Go.Proofs
abbrev bT : Nat := 5
theorem str_ok {H : Heap} {i off j u : Nat} {cs : List AVal} {l : List UInt8} (hi : H[i]? = some (.var cs)) (hc : cs[off + 1]? = some (.own j 0 l.length u false)) (hj : H[j]? = some (.arr 1 (l.map byteRow) u)) (hn : H[j + 1]? = some (.note bT 0)) (h0 : l ≠ []) (hb : l.length ≤ 1099511627776) :
 CallOK Tryz.prog 38 [.ptr (.hp i) off] H (.ret (.str l) (H.set j (.arr 1 [] (u + 1)))) := by
 intro w E ys sim hlen hr
 obtain ⟨y, rfl⟩ : ∃ y, ys = [y] := by
  match ys, hlen with
  | [y], _ => exact ⟨y, rfl⟩
 obtain ⟨e0, hv⟩ := rep_ptrH (hr 0 (by simp))
 replace e0 : y = .pointer (some ⟨E.φ i, off, none⟩) := e0
 subst e0
 obtain ⟨ds, ty, fr, b1, b2, b3, b4⟩ := sim.var i cs hi
 obtain ⟨c, c1, c2, c3⟩ := b4 (off + 1) _ hc
 obtain ⟨ad, cap, sz', u', rfl, ha, hle, hsh⟩ := rep_own c3
 rw [arr_of_get hj] at ha
 simp only [Option.some.injEq, Prod.mk.injEq] at ha
 obtain ⟨rfl, rfl⟩ := ha
 obtain ⟨s1, s2, s3, s4, s5⟩ := hsh rfl
 have hl0 : l.length ≠ 0 := by simpa using h0
 have hcap : E.cap j ≠ 0 := by omega
 have had := s5 hcap (.inl hl0)
 simp only [Nat.zero_mul] at had
 subst had
 obtain ⟨a1, a2, a3, a4⟩ := sim.arr j 1 _ u hj
 obtain ⟨es, ety, efr, g1, g2, g3, g4⟩ := a4 hcap
 have hlv : live E H j := .inr ⟨⟨1, u, arr_of_get hj⟩, hcap⟩
 obtain ⟨ns, nfr, n1, n2⟩ := sim.note (j + 1) bT 0 hn hlv
 simp only [Nat.add_sub_cancel] at n1
 rw [g1] at n1
 simp only [Option.some.injEq, Obj.cells.injEq] at n1
 obtain ⟨rfl, rfl, rfl⟩ := n1
 have hcell : w.cell? ⟨E.φ i, off + 1, none⟩ = some (.slice (some ⟨E.φ j, 0, none⟩) l.length cap) := by
  simp only [World.cell?, b1]; exact c1
 have hbytes : ∀ (k : Nat) (x : UInt8), l[k]? = some x → w.drew.cell? ((⟨E.φ j, 0, none⟩ : Addr).add k) = some (.int .u8 x.toNat) := fun k x hx => by
  obtain ⟨d, d1, d2, d3⟩ := g4 k (.int .u8 x.toNat) (by
   unfold cellAt
   simp only [Nat.div_one, Nat.mod_one, List.getElem?_map, hx, Option.map_some, Option.bind_some]
   rfl)
  have hd : d = .int .u8 x.toNat := by
   cases d3 with
   | pure _ _ h => cases h; rfl
  subst hd
  have : w.drew.heap[E.φ j]? = some (.cells es bT efr) := g1
  simp only [World.cell?, addr_add, Nat.zero_add, this]
  exact d1
 have hkl : l.length ≤ es.size := by simp at a2; omega
 have walk := str_walk (w := w) (b := E.φ i) (off := off) (pv := some ⟨E.φ j, 0, none⟩) (s := ⟨l.toArray⟩) (w1 := w.drew.freeze ⟨E.φ j, 0, none⟩ l.length) hcell
  (Lib.run_unsafeSliceData_row _ _ _ _ _ _ (show cap ≠ 0 by omega))
  (Lib.run_unsafeString_row (w := w.drew) 86 3 9 bT (by kernel_rfl) (by kernel_rfl) (E.φ j) es.size (by
   have : w.drew.heap[E.φ j]? = some (.cells es bT efr) := g1
   simp [World.shape?, this]) l h0 hkl (by omega) hbytes)
 refine Calls.mono walk (fun e w' hp => ?_)
 obtain ⟨rfl, rfl⟩ := hp
 obtain ⟨f1, f2, f3⟩ := freeze_rest (w := w.drew) (g := E.φ j) (n := l.length)
 obtain ⟨ev, sim'⟩ := kill (w' := w.drew.freeze ⟨E.φ j, 0, none⟩ l.length) sim hj freeze_size (fun b hb => by
  rcases hb with hb | hb
  · exact freeze_other (w := w.drew) hb
  · exact absurd hb hcap) f1 f2 f3
 exact ⟨_, ev, sim', .pure _ _ (by have := RepP.str (w := w.drew.freeze ⟨E.φ j, 0, none⟩ l.length) (imm := E.imm) ⟨l.toArray⟩; simpa using this)⟩
def bytesOf (rows : List (List AVal)) : List UInt8 := rows.map byteOf
theorem byteOf_row (c : UInt8) : byteOf (byteRow c) = c := by
 simp [byteOf, byteRow, intOf]
theorem bytesOf_map (l : List UInt8) : bytesOf (l.map byteRow) = l := by
 unfold bytesOf
 rw [List.map_map]
 conv => rhs; rw [← List.map_id l]
 exact List.map_congr_left (fun a _ => byteOf_row a)
theorem str_ok0 {H : Heap} {i off : Nat} {cs : List AVal} (hi : H[i]? = some (.var cs)) (hc : cs[off + 1]? = some .nilX) :
 CallOK Tryz.prog 38 [.ptr (.hp i) off] H (.ret (.str []) H) := by
 intro w E ys sim hlen hr
 obtain ⟨y, rfl⟩ : ∃ y, ys = [y] := by
  match ys, hlen with
  | [y], _ => exact ⟨y, rfl⟩
 obtain ⟨e0, hv⟩ := rep_ptrH (hr 0 (by simp))
 replace e0 : y = .pointer (some ⟨E.φ i, off, none⟩) := e0
 subst e0
 obtain ⟨ds, ty, fr, b1, b2, b3, b4⟩ := sim.var i cs hi
 obtain ⟨c, c1, c2, c3⟩ := b4 (off + 1) _ hc
 obtain rfl := rep_nilX c3
 have hcell : w.cell? ⟨E.φ i, off + 1, none⟩ = some (.slice none 0 0) := by
  simp only [World.cell?, b1]; exact c1
 have walk := str_walk (w := w) (b := E.φ i) (off := off) (pv := none) (s := .empty) (w1 := w.drew) hcell
  (Lib.run_unsafeSliceData_nil _ _ _ _ _) (Lib.run_unsafeString_none _ _ _ _ _)
 refine Calls.mono walk (fun e w' hp => ?_)
 obtain ⟨rfl, rfl⟩ := hp
 have ev : Evo No w E H w.drew E H := ⟨Nat.le_refl _, fun _ _ _ _ => rfl, fun b hb => ⟨hb, rfl⟩, fun b hb => .inl hb, fun k hk => ⟨hk, rfl⟩, fun k sz u hk => ⟨u, hk, Nat.le_refl _, fun _ => ⟨rfl, fun _ => rfl⟩⟩, fun k hk => .inr ⟨hk, rfl⟩, Nat.le_refl _, rfl, rfl, rfl⟩
 exact ⟨E, ev, sim.keep ev.sees (fun _ _ => rfl) (Nat.le_refl _), .pure _ _ (by have := RepP.str (w := w.drew) (imm := E.imm) .empty; simpa using this)⟩
end Go.Mu
set_option maxHeartbeats 2000000
namespace Go.Mu
open Go Go.Proofs
structure ItemD where
 kind : Int
 text : List UInt8
 at_ : Int
def bfB (j : Nat) (text : List UInt8) (v : Nat) : AVal := match text with
 | [] => .nilX
 | c :: t => .own j 0 (c :: t).length v false
noncomputable def layW0 : Lay := Lay.nil.addL 36 { nils := [14] }
structure SpH where
 U0 : Obj
 U1 : Obj
 U2 : Obj
 s : List UInt8
 o : AVal
 ad : AVal
 b : AVal
 a : Int
 tr : Bool
 O : Obj
 rows : List (List AVal)
 v : Nat
def wsV (text l : List UInt8) (v : Nat) : Nat := bif text == [] then (bif l == [] then v else v + 2) else v + 1
theorem layW0_ok : layW0.OK Tryz.prog := Lay.nil_ok.addN (by kernel_rfl)
theorem e_map (l : List UInt8) : List.map (fun c : UInt8 => [AVal.int .u8 (c.toNat : Int)]) l = l.map byteRow := rfl
end Go.Mu
namespace Go.Mu
open Go Go.Proofs
structure WdH where
 U0 : Obj
 U1 : Obj
 U2 : Obj
 s : List UInt8
 base : Int
 a : Int
 o : AVal
 O : Obj
end Go.Mu
namespace Go.Mu
open Go Go.Proofs
abbrev bdT : Nat := 71
structure Bld where
 ad : AVal
 b : AVal
 rows : List (List AVal)
 v : Nat
def Bld.can (i j : Nat) (x : Bld) : Prop := (x.ad = .nilptr ∨ x.ad = .ptr (.hp i) 0) ∧ x.rows = (bytesOf x.rows).map byteRow ∧ x.b = bfB j (bytesOf x.rows) x.v
abbrev Bld.t (x : Bld) : List UInt8 := bytesOf x.rows
def Bld.add (i j : Nat) (x : Bld) (l : List UInt8) : Bld := ⟨.ptr (.hp i) 0, bfB j (x.t ++ l) (wsV x.t l x.v), x.rows ++ l.map byteRow, wsV x.t l x.v⟩
theorem Bld.add_t (i j : Nat) (x : Bld) (l : List UInt8) : (Bld.add i j x l).t = x.t ++ l := by
 show bytesOf (x.rows ++ l.map byteRow) = _
 have := bytesOf_map l
 unfold bytesOf at this
 show (x.rows ++ l.map byteRow).map byteOf = x.rows.map byteOf ++ l
 rw [List.map_append, this]
theorem Bld.add_can {i j : Nat} {x : Bld} (h : x.can i j) (l : List UInt8) : (Bld.add i j x l).can i j := by
 refine ⟨.inr rfl, ?_, ?_⟩
 · show (Bld.add i j x l).rows = ((Bld.add i j x l).t).map byteRow
   rw [Bld.add_t, List.map_append, ← h.2.1]; rfl
 · show (Bld.add i j x l).b = bfB j ((Bld.add i j x l).t) _
   rw [Bld.add_t]; rfl
def Bld.dead (x : Bld) : Bld := { x with rows := [], v := bif x.t == [] then x.v else x.v + 1 }
def Bld.new : Bld := ⟨.nilptr, .nilX, [], 0⟩
theorem Bld.new_can (i j : Nat) : Bld.new.can i j := ⟨.inl rfl, rfl, rfl⟩
abbrev bld (H : Heap) (i j : Nat) : Bld := ⟨(cellsO (H.getD i (.var []))).getD 0 .undef, (cellsO (H.getD i (.var []))).getD 1 .undef, rowsO (H.getD j (.var [])), verO (H.getD j (.var []))⟩
end Go.Mu
namespace Go.Mu
open Go Go.Proofs
structure b7H where
 P0 : Obj
 P1 : Obj
 P2 : Obj
 P3 : Obj
 P4 : Obj
 P5 : Obj
 P6 : Obj
 x : Bld
end Go.Mu
namespace Go.Mu
open Go Go.Proofs
structure StA where
 w : WdH
 x : Bld
 at_ : Nat
 i : Nat
structure StR where
 e : Int
 fin : Bool
 off : Nat
 text : List UInt8
 upto_ : Nat
 x : Bld
structure StQ where
 e : Int
 off : Nat
 text : List UInt8
 upto_ : Nat
end Go.Mu
namespace Go.Mu
open Go Go.Proofs
theorem small_fun (n : Int) (k : Out → Ans) : iFun Tryz.prog (Lay.nil.hd Tryz.prog) Lay.nil.fhs 0 132 [.int .u8 n] [] k = (
 bif bif decide (n ≥ 65) then decide (n ≤ 90) else false then
 k (Out.ret (AVal.int .u8 (IntKind.u8.wrap (n + 32))) [])
 else k (Out.ret (AVal.int .u8 n) [])) := by kernel_rfl
theorem encode_fun (n : Int) (k : Out → Ans) : iFun Tryz.prog (Lay.nil.hd Tryz.prog) Lay.nil.fhs 0 116 [.int .i64 n] [] k = (
 let c0 : Bool := bif decide (n < 0) then true else decide (n > 1114111);
 let n1 : Int := IntKind.u32.wrap (IntKind.i32.wrap n);
 let n2 : Int := IntKind.u8.wrap (IntKind.i32.wrap n);
 let l3 : List UInt8 := [byteOf [AVal.int .u8 (IntKind.u8.wrap (↑(BitVec.ofInt 8 128 ||| BitVec.ofInt 8 (IntKind.u8.wrap (↑(BitVec.ofInt 8 n2 &&& BitVec.ofInt 8 63).toNat : Int))).toNat : Int))]];
 let c4 : Bool := decide (n1 < 55296);
 let z5 := IntKind.u8.wrap ((IntKind.i32.wrap n).fdiv 64);
 let l5 : List UInt8 := byteOf [AVal.int .u8 (IntKind.u8.wrap (↑(BitVec.ofInt 8 128 ||| BitVec.ofInt 8 (IntKind.u8.wrap (↑(BitVec.ofInt 8 z5 &&& BitVec.ofInt 8 63).toNat : Int))).toNat : Int))] :: l3;
 let z4 := IntKind.u8.wrap ((IntKind.i32.wrap n).fdiv 4096);
 let z1 := bif bif decide (n1 > 65535) then decide (n1 ≤ 1114111) else false then k (Out.ret (AVal.tuple [AVal.str (byteOf [AVal.int .u8 (IntKind.u8.wrap (↑(BitVec.ofInt 8 240 ||| BitVec.ofInt 8 (IntKind.u8.wrap ((IntKind.i32.wrap n).fdiv 262144))).toNat : Int))] :: byteOf [AVal.int .u8 (IntKind.u8.wrap (↑(BitVec.ofInt 8 128 ||| BitVec.ofInt 8 (IntKind.u8.wrap (↑(BitVec.ofInt 8 z4 &&& BitVec.ofInt 8 63).toNat : Int))).toNat : Int))] :: l5), AVal.int .i64 0]) []) else k (Out.ret (AVal.tuple [AVal.str [byteOf [AVal.int .u8 239], byteOf [AVal.int .u8 191], byteOf [AVal.int .u8 189]], AVal.int .i64 0]) []);
 let z2 := Out.ret (AVal.tuple [AVal.str (byteOf [AVal.int .u8 (IntKind.u8.wrap (↑(BitVec.ofInt 8 224 ||| BitVec.ofInt 8 z4).toNat : Int))] :: l5), AVal.int .i64 0]) [];
 let z0 := bif decide (n1 ≤ 127) then k (Out.ret (AVal.tuple [AVal.str [byteOf [AVal.int .u8 n2]], AVal.int .i64 0]) []) else bif decide (n1 ≤ 2047) then k (Out.ret (AVal.tuple [AVal.str (byteOf [AVal.int .u8 (IntKind.u8.wrap (↑(BitVec.ofInt 8 192 ||| BitVec.ofInt 8 z5).toNat : Int))] :: l3), AVal.int .i64 0]) []) else bif c4 then bif c4 then k z2 else z1 else bif bif decide (57343 < n1) then decide (n1 ≤ 65535) else false then k z2 else z1;
 let z3 := Out.ret (AVal.tuple [AVal.str [], AVal.int .i64 4]) [];
  bif bif decide (0 ≤ IntKind.i32.wrap n) then decide (IntKind.i32.wrap n < 55296) else false then bif bif c0 then true else false then k z3 else z0 else bif bif decide (57343 < IntKind.i32.wrap n) then decide (IntKind.i32.wrap n ≤ 1114111) else false then bif bif c0 then true else false then k z3 else z0 else bif bif c0 then true else true then k z3 else z0) := by kernel_rfl
end Go.Mu
namespace Go.Mu
open Go Go.Proofs Go.Shelf Go.RowKit
variable {P : Program}
theorem CallOK.below {f : FuncId} {xs : List AVal} {H : Heap} {v : AVal} (h : ∀ w E (cs : List Value), Sim w E H → cs.length = xs.length → (∀ j, j < xs.length → Rep w E H (xs.getD j .undef) (cs.getD j undef)) → ∃ c, Calls P f cs.toArray w (fun e w' => e = .returned c ∧ Below w.heap.size w w') ∧ Rep w E H v c) : CallOK P f xs H (.ret v H) := by
 intro w E cs sim hl hr
 obtain ⟨c, h1, h2⟩ := h w E cs sim hl hr
 refine Calls.mono h1 (fun e w' hp => ?_)
 obtain ⟨rfl, hb⟩ := hp
 have ev : Evo No w E H w' E H := ⟨hb.size, fun b hb' _ _ => hb.block b hb', fun b hb' => ⟨hb', hb.block b (sim.immLt b hb')⟩, fun b hb' => .inl hb', fun k hk => ⟨hk, rfl⟩, fun k sz u hk => ⟨u, hk, Nat.le_refl _, fun _ => ⟨rfl, fun _ => rfl⟩⟩, fun k hk => .inr ⟨hk, rfl⟩, Nat.le_refl _, hb.tape, hb.os, hb.output⟩
 exact ⟨E, ev, sim.keep ev.sees (fun k hk => hb.block _ (sim.apart k hk).2) hb.size, h2.mono ev.sees⟩
end Go.Mu
namespace Go.Mu
open Go Go.Proofs
theorem wrapU {n : Int} (h1 : 0 ≤ n) (h2 : n ≤ 18446744073709551615) : IntKind.u64.wrap n = n := by
 simp [IntKind.wrap, IntKind.signed, IntKind.bits]
 omega
theorem wrapB {n : Int} (h1 : 0 ≤ n) (h2 : n ≤ 255) : IntKind.u8.wrap n = n := by
 simp [IntKind.wrap, IntKind.signed, IntKind.bits]
 omega
abbrev byL (f : Bool) (l : List UInt8) : AVal := .list f l.length (fun i => byteRow (l.getD i 0))
structure NuA where
 b : Bool
 n : Nat
 f : Bool
 l : List UInt8
 i : Nat
 H : Heap
end Go.Mu
namespace Go.Mu
open Go Go.Proofs
structure OneR where
 e : Int
 off : Nat
 kind : Int
 text : List UInt8
 len : Nat
end Go.Mu
namespace Go.Mu
open Go Go.Proofs
section
variable {P : Program}
end
structure WdD where
 kind : Int
 text : List UInt8
 at_ : Nat
structure WvA where
 w : WdH
 rows : List (List AVal)
 u : Nat
end Go.Mu
namespace Go.Mu
open Go Go.Proofs
structure SkA where
 s : List UInt8
 i : Nat
 H : Heap
end Go.Mu
namespace Go.Mu
open Go Go.Proofs
structure HsA where
 s : List UInt8
 n : Int
 i : Nat
 H : Heap
structure RdA where
 b : Bool
 s : List UInt8
 i : Nat
 H : Heap
structure RnA where
 b : Bool
 s : List UInt8
 n : Nat
 i : Nat
 H : Heap
end Go.Mu
namespace Go.Mu
open Go Go.Proofs
def ibM (s : List UInt8) (n : Int) : Int := Lib.indexByte s (UInt8.ofNat n.toNat)
def ibTold : FSp := mkFS [.s, .i .u8] (fun _ => true) (fun xs k => k (.ret (.int .i64 (ibM (aS xs 0) (aI xs 1))) []))
theorem ib_fun (s : List UInt8) (n : Int) (k : Out → Ans) : iFun Tryz.prog (Lay.nil.hd Tryz.prog) Lay.nil.fhs 0 103 [.str s, .int .u8 n] [] k = (
 k (Out.ret (AVal.int .i64 (Lib.indexByte s n.toNat.toUInt8)) [])) := by kernel_rfl
theorem ibTold_ok : ∀ xs H k out, ibTold xs H k = some out → ∃ o, CallOK Tryz.prog 103 xs H o ∧ k o = some out := mkFS_ok fun ys xs e h => by
 obtain ⟨s, n, rfl⟩ : ∃ s n, xs = [.str s, .int .u8 n] := ⟨_, _, e⟩
 exact ⟨_, fun k => rfl, Lay.nil_ok.callF (G := []) rfl (fun k => ib_fun s n k)⟩
noncomputable def layY1 : Lay := Lay.nil.addF 103 ibTold
theorem layY1_ok : layY1.OK Tryz.prog := Lay.nil_ok.addF ibTold_ok
def smM (n : Int) : Int := bif decide (n ≥ 65) && decide (n ≤ 90) then IntKind.u8.wrap (n + 32) else n
def smTold : FSp := mkFS [.i .u8] (fun _ => true) (fun xs k => k (.ret (.int .u8 (smM (aI xs 0))) []))
theorem smTold_ok : ∀ xs H k out, smTold xs H k = some out → ∃ o, CallOK Tryz.prog 132 xs H o ∧ k o = some out := mkFS_ok fun ys xs e h => by
 obtain ⟨n, rfl⟩ : ∃ n, xs = [.int .u8 n] := ⟨_, e⟩
 refine ⟨_, fun k => rfl, Lay.nil_ok.callF (G := []) rfl (fun k => (small_fun n k).trans ?_)⟩
 show _ = k (.ret (.int .u8 (smM n)) [])
 unfold smM
 rw [bif_and]
 cases decide (n ≥ 65) && decide (n ≤ 90) <;> rfl
noncomputable def layY2 : Lay := layY1.addF 132 smTold
theorem layY2_ok : layY2.OK Tryz.prog := layY1_ok.addF smTold_ok
def nmrM (set s : List UInt8) : Bool := s.all (fun c => !decide (ibM set (c.toNat : Int) < 0))
def octDg : List UInt8 := [48, 49, 50, 51, 52, 53, 54, 55, 56, 57]
def octHx : List UInt8 := [48, 49, 50, 51, 52, 53, 54, 55, 56, 57, 97, 98, 99, 100, 101, 102, 65, 66, 67, 68, 69, 70]
structure NmA where
 s : List UInt8
 set : List UInt8
 n : Int
 i : Nat
 H : Heap
noncomputable def nmrSp (R : List UInt8 → List UInt8 → Bool) : LSp := mkL (fun vs _ H => NmA.mk (aS vs 0) (aS vs 1) (aI vs 2) (aI vs 3).toNat H) (fun a => a.i ≤ a.s.length ∧ a.s.length ≤ 1099511627776 ∧ a.n = a.s.length) (fun a => [.str a.s, .str a.set, .int .i64 a.n, .int .i64 a.i]) (fun _ => []) (fun a => a.H)
 (fun a k => cond (R a.set (a.s.drop a.i)) (k (.exit 0) [.str a.s, .undef] [] a.H) (k .ret [.str a.s, .bool false] [] a.H))
noncomputable def nmrFH (R : List UInt8 → List UInt8 → Bool) : FH := .of [(5, loopSpec 23 [0,5,9,10] [] [0,4] [] (nmrSp R))]
theorem nmr_step (R : List UInt8 → List UInt8 → Bool) (s set : List UInt8) (n i : Int) (H : Heap) (D : List (FuncId × List AVal)) (k : Kont) : lturn Tryz.prog layY1 (nmrFH R) 114 5 [0,5,9,10] [] [0,4] [] (stL 23 [0,5,9,10] [.str s, .str set, .int .i64 n, .int .i64 i] [] [] H D) k = (
 bif decide (i < n) then bif decide (0 ≤ i) && decide (i < (↑s.length : Int)) then bif decide (ibM set (↑(s.getD i.toNat 0).toNat : Int) < 0) then k AExit.ret (stL 23 [0, 4] [AVal.str s, AVal.bool false] [] [] H D) else k AExit.normal (stL 23 [0, 5, 9, 10] [AVal.str s, AVal.str set, AVal.int .i64 n, AVal.int .i64 (IntKind.i64.wrap (i + 1))] [] [] H D) else none else k (AExit.exit 0) (stL 23 [0, 4] [AVal.str s, AVal.undef] [] [] H D)) := by kernel_rfl
theorem nmr_runs (s set : List UInt8) (hs : s.length ≤ 1099511627776) (H : Heap) (R : List UInt8 → List UInt8 → Bool) : ∀ (m i : Nat), s.length - i ≤ m → i ≤ s.length →
 (nmrM set (s.drop i) = true → LoopRuns (lturn Tryz.prog layY1 (nmrFH R) 114 5 [0,5,9,10] [] [0,4] []) 23 [0,5,9,10] [] [0,4] [] [.str s, .str set, .int .i64 s.length, .int .i64 (i : Nat)] [] H (.exit 0) [.str s, .undef] [] H) ∧
 (nmrM set (s.drop i) = false → LoopRuns (lturn Tryz.prog layY1 (nmrFH R) 114 5 [0,5,9,10] [] [0,4] []) 23 [0,5,9,10] [] [0,4] [] [.str s, .str set, .int .i64 s.length, .int .i64 (i : Nat)] [] H .ret [.str s, .bool false] [] H) := by
 intro m
 induction m with
 | zero =>
  intro i hm hi
  have e : s.drop i = [] := List.drop_eq_nil_of_le (by omega)
  rw [e]
  refine ⟨fun _ => .stop (by simp) (fun D k => ?_), (fun h => by cases h)⟩
  rw [nmr_step]
  simp (disch := omega) only [dF, cond_false]
 | succ m ih =>
  intro i hm hi
  have key := fun D k => nmr_step R s set s.length i H D k
  by_cases hlt : i < s.length
  · have ed := drop_cons_of s i 0 hlt
    simp (disch := omega) only [dT, cond_true, Bool.and_self, Int.toNat_natCast, wrap_add1] at key
    rw [ed, show nmrM set (s.getD i 0 :: s.drop (i + 1)) = (!decide (ibM set ((s.getD i 0).toNat : Int) < 0) && nmrM set (s.drop (i + 1))) from rfl]
    cases hc : decide (ibM set ((s.getD i 0).toNat : Int) < 0) with
    | true =>
     simp only [hc, cond_true] at key
     exact ⟨(fun h => by cases h), fun _ => .stop (by simp) key⟩
    | false =>
     simp only [hc, cond_false] at key
     rw [Bool.not_false, Bool.true_and]
     have := ih (i + 1) (by omega) (by omega)
     exact ⟨fun h => .step key (this.1 h), fun h => .step key (this.2 h)⟩
  · have e : s.drop i = [] := List.drop_eq_nil_of_le (by omega)
    rw [e]
    refine ⟨fun _ => .stop (by simp) (fun D k => ?_), (fun h => by cases h)⟩
    rw [nmr_step]
    simp (disch := omega) only [dF, cond_false]
theorem nmrSp_ok : SpOK (lturn Tryz.prog layY1 (nmrFH nmrM) 114 5 [0,5,9,10] [] [0,4] []) 23 [0,5,9,10] [] [0,4] [] (nmrSp nmrM) := mkL_ok fun a h => by
 obtain ⟨s, set, n, i, H⟩ := a
 obtain ⟨h1, h2, h3⟩ := h
 simp only at h1 h2 h3
 subst h3
 have key := nmr_runs s set h2 H nmrM _ i (Nat.le_refl _) h1
 show ∃ e vs bs H', (∀ k : AExit → List AVal → List (List AVal) → Heap → Ans, cond (nmrM set (s.drop i)) _ _ = k e vs bs H') ∧ _
 cases hb : nmrM set (s.drop i) with
 | true => exact ⟨_, _, _, _, fun k => rfl, key.1 hb⟩
 | false => exact ⟨_, _, _, _, fun k => rfl, key.2 hb⟩
noncomputable def layY3 (R : List UInt8 → List UInt8 → Bool) : Lay := layY1.addL 114 (nmrFH R)
theorem nmr_fun (R : List UInt8 → List UInt8 → Bool) (s : List UInt8) (b : Bool) (k : Out → Ans) : iFun Tryz.prog ((layY3 R).hd Tryz.prog) (layY3 R).fhs 0 114 [.str s, .bool b] [] k = (
 let n0 : Int := (↑s.length : Int);
 let l1 : List UInt8 := List.drop (Int.toNat 0) s;
 let z0 := [48, 49, 50, 51, 52, 53, 54, 55, 56, 57, 97, 98, 99, 100, 101, 102, 65, 66, 67, 68, 69, 70];
 let z1 := [48, 49, 50, 51, 52, 53, 54, 55, 56, 57];
 let z2 := Int.toNat 0 ≤ s.length ∧ s.length ≤ 1099511627776 ∧ n0 = n0;
  bif b then bif tst (z2 ∧ SubTL [AVal.str s, AVal.str z0, AVal.int .i64 n0, AVal.int .i64 0] [AVal.str s, AVal.str z0, AVal.int .i64 n0, AVal.int .i64 (↑(Int.toNat 0) : Int)] ∧ ([] : List (List AVal)) = [] ∧ ([] : Heap) = []) then bif R z0 l1 then k (Out.ret (AVal.bool (decide (n0 ≤ 7))) []) else k (Out.ret (AVal.bool false) []) else none else bif tst (z2 ∧ SubTL [AVal.str s, AVal.str z1, AVal.int .i64 n0, AVal.int .i64 0] [AVal.str s, AVal.str z1, AVal.int .i64 n0, AVal.int .i64 (↑(Int.toNat 0) : Int)] ∧ ([] : List (List AVal)) = [] ∧ ([] : Heap) = []) then bif R z1 l1 then k (Out.ret (AVal.bool (decide (n0 ≤ 7))) []) else k (Out.ret (AVal.bool false) []) else none) := by kernel_rfl
theorem layY3_ok : (layY3 nmrM).OK Tryz.prog := layY1_ok.loop1 (id := 5) (by kernel_rfl) (by kernel_rfl) (by kernel_rfl) nmrSp_ok
def numB (s : List UInt8) (b : Bool) : Bool := nmrM (bif b then octHx else octDg) s && decide (s.length ≤ 7)
def numrTold : FSp := mkFS [.s, .b] (fun xs => decide ((aS xs 0).length ≤ 1099511627776)) (fun xs k => k (.ret (.bool (numB (aS xs 0) (aB xs 1))) []))
theorem numrTold_ok : ∀ xs H k out, numrTold xs H k = some out → ∃ o, CallOK Tryz.prog 114 xs H o ∧ k o = some out := mkFS_ok fun ys xs e h => by
 obtain ⟨s, b, rfl⟩ : ∃ s b, xs = [.str s, .bool b] := ⟨_, _, e⟩
 replace h : s.length ≤ 1099511627776 := of_decide_eq_true h
 refine ⟨_, fun k => rfl, layY3_ok.callF (G := []) rfl (fun k => (nmr_fun nmrM s b k).trans ?_)⟩
 show _ = k (.ret (.bool (numB s b)) [])
 have e7 : decide ((s.length : Int) ≤ 7) = decide (s.length ≤ 7) := decide_eq_decide.2 (by omega)
 unfold numB
 simp only [e7, Int.toNat_zero, List.drop_zero]
 cases b with
 | true =>
  refine (congrArg (fun c => cond c _ none) (tst_true ⟨⟨Nat.zero_le _, h, trivial⟩, .refl _, trivial, trivial⟩)).trans ?_
  simp only [cond_true]
  show _ = k (.ret (.bool (nmrM octHx s && _)) [])
  unfold octHx
  cases nmrM [48, 49, 50, 51, 52, 53, 54, 55, 56, 57, 97, 98, 99, 100, 101, 102, 65, 66, 67, 68, 69, 70] s <;> rfl
 | false =>
  refine (congrArg (fun c => cond c _ none) (tst_true ⟨⟨Nat.zero_le _, h, trivial⟩, .refl _, trivial, trivial⟩)).trans ?_
  simp only [cond_true, cond_false]
  show _ = k (.ret (.bool (nmrM octDg s && _)) [])
  unfold octDg
  cases nmrM [48, 49, 50, 51, 52, 53, 54, 55, 56, 57] s <;> rfl
def hexT : List UInt8 := [48, 49, 50, 51, 52, 53, 54, 55, 56, 57, 97, 98, 99, 100, 101, 102]
def hexD (c : UInt8) : Int := ibM hexT (smM (c.toNat : Int))
def hexS (n d : Int) : Int := IntKind.i64.wrap (((BitVec.ofInt 64 (IntKind.i64.wrap (n * 16)) ||| BitVec.ofInt 64 d).toNat : Nat) : Int)
def uhM : Int → List UInt8 → Bool × Int
 | n, [] => (true, n)
 | n, c :: l => bif decide (hexD c < 0) then (false, n) else uhM (hexS n (hexD c)) l
def vaS (n : Int) (c : UInt8) : Int := IntKind.i64.wrap (IntKind.i64.wrap (n * 10) + IntKind.i64.wrap (IntKind.u8.wrap ((c.toNat : Int) - 48)))
def vaM (n : Int) (l : List UInt8) : Int := l.foldl vaS n
structure UhA where
 n : Int
 f : Bool
 l : List UInt8
 m : Int
 i : Nat
 H : Heap
abbrev UhR := Int → List UInt8 → Bool × Int
noncomputable def uhSp (R : UhR) : LSp := mkL (fun vs _ H => UhA.mk (aI vs 0) (fullOf (vs.getD 1 .undef)) (decL decB (vs.getD 1 .undef)) (aI vs 2) (aI vs 3).toNat H) (fun a => a.i ≤ a.l.length ∧ a.l.length ≤ 1099511627776 ∧ a.m = a.l.length) (fun a => [.int .i64 a.n, encL a.f byteRow 0 a.l, .int .i64 a.m, .int .i64 a.i]) (fun _ => []) (fun a => a.H)
 (fun a k => cond (R a.n (a.l.drop a.i)).1 (k (.exit 1) [.undef, .undef, .int .i64 (R a.n (a.l.drop a.i)).2] [] a.H) (k .ret [.int .i64 0, .int .i64 33, .int .i64 (R a.n (a.l.drop a.i)).2] [] a.H))
noncomputable def uhFH (R : UhR) : FH := .of [(7, loopSpec 33 [4,16,17,18] [] [2,3,4] [] (uhSp R))]
theorem uh_step (R : UhR) (n : Int) (f : Bool) (l : List UInt8) (m i : Int) (H : Heap) (D : List (FuncId × List AVal)) (k : Kont) : lturn Tryz.prog layY2 (uhFH R) 109 7 [4,16,17,18] [] [2,3,4] [] (stL 33 [4,16,17,18] [.int .i64 n, encL f byteRow 0 l, .int .i64 m, .int .i64 i] [] [] H D) k = (
 let n0 : Int := ibM [48, 49, 50, 51, 52, 53, 54, 55, 56, 57, 97, 98, 99, 100, 101, 102] (smM (↑(l.getD i.toNat 0).toNat : Int));
  bif decide (i < m) then bif decide (0 ≤ i) && decide (i < (↑l.length : Int)) then bif decide (n0 < 0) then k AExit.ret (stL 33 [2, 3, 4] [AVal.int .i64 0, AVal.int .i64 33, AVal.int .i64 n] [] [] H D) else k AExit.normal (stL 33 [4, 16, 17, 18] [AVal.int .i64 (IntKind.i64.wrap (↑(BitVec.ofInt 64 (IntKind.i64.wrap (n * 16)) ||| BitVec.ofInt 64 n0).toNat : Int)), AVal.list f l.length fun (i : Nat) => [AVal.int .u8 (↑(l.getD i 0).toNat : Int)], AVal.int .i64 m, AVal.int .i64 (IntKind.i64.wrap (i + 1))] [] [] H D) else none else k (AExit.exit 1) (stL 33 [2, 3, 4] [AVal.undef, AVal.undef, AVal.int .i64 n] [] [] H D)) := by kernel_rfl
theorem uh_runs (f : Bool) (l : List UInt8) (hs : l.length ≤ 1099511627776) (H : Heap) (R : UhR) : ∀ (m i : Nat) (n : Int), l.length - i ≤ m → i ≤ l.length →
 ((uhM n (l.drop i)).1 = true → LoopRuns (lturn Tryz.prog layY2 (uhFH R) 109 7 [4,16,17,18] [] [2,3,4] []) 33 [4,16,17,18] [] [2,3,4] [] [.int .i64 n, encL f byteRow 0 l, .int .i64 l.length, .int .i64 (i : Nat)] [] H (.exit 1) [.undef, .undef, .int .i64 (uhM n (l.drop i)).2] [] H) ∧
 ((uhM n (l.drop i)).1 = false → LoopRuns (lturn Tryz.prog layY2 (uhFH R) 109 7 [4,16,17,18] [] [2,3,4] []) 33 [4,16,17,18] [] [2,3,4] [] [.int .i64 n, encL f byteRow 0 l, .int .i64 l.length, .int .i64 (i : Nat)] [] H .ret [.int .i64 0, .int .i64 33, .int .i64 (uhM n (l.drop i)).2] [] H) := by
 intro m
 induction m with
 | zero =>
  intro i n hm hi
  have e : l.drop i = [] := List.drop_eq_nil_of_le (by omega)
  rw [e]
  refine ⟨fun _ => .stop (by simp) (fun D k => ?_), (fun h => by cases h)⟩
  rw [uh_step]
  simp (disch := omega) only [dF, cond_false]
  rfl
 | succ m ih =>
  intro i n hm hi
  have key := fun D k => uh_step R n f l l.length i H D k
  by_cases hlt : i < l.length
  · have ed := drop_cons_of l i 0 hlt
    simp (disch := omega) only [dT, cond_true, Bool.and_self, Int.toNat_natCast, wrap_add1] at key
    rw [ed, uhM]
    replace key : ∀ (D : List (FuncId × List AVal)) (k : Kont), lturn Tryz.prog layY2 (uhFH R) 109 7 [4,16,17,18] [] [2,3,4] [] (stL 33 [4,16,17,18] [.int .i64 n, encL f byteRow 0 l, .int .i64 l.length, .int .i64 (i : Nat)] [] [] H D) k = bif decide (hexD (l.getD i 0) < 0) then k .ret (stL 33 [2,3,4] [.int .i64 0, .int .i64 33, .int .i64 n] [] [] H D) else k .normal (stL 33 [4,16,17,18] [.int .i64 (hexS n (hexD (l.getD i 0))), encL f byteRow 0 l, .int .i64 l.length, .int .i64 ((i + 1 : Nat) : Int)] [] [] H D) := key
    cases hc : decide (hexD (l.getD i 0) < 0) with
    | true =>
     simp only [hc, cond_true] at key ⊢
     exact ⟨(fun h => by cases h), fun _ => .stop (by simp) key⟩
    | false =>
     simp only [hc, cond_false] at key ⊢
     have := ih (i + 1) (hexS n (hexD (l.getD i 0))) (by omega) (by omega)
     exact ⟨fun h => .step key (this.1 h), fun h => .step key (this.2 h)⟩
  · have e : l.drop i = [] := List.drop_eq_nil_of_le (by omega)
    rw [e]
    refine ⟨fun _ => .stop (by simp) (fun D k => ?_), (fun h => by cases h)⟩
    rw [uh_step]
    simp (disch := omega) only [dF, cond_false]
    rfl
theorem uhSp_ok : SpOK (lturn Tryz.prog layY2 (uhFH uhM) 109 7 [4,16,17,18] [] [2,3,4] []) 33 [4,16,17,18] [] [2,3,4] [] (uhSp uhM) := mkL_ok fun a h => by
 obtain ⟨n, f, l, m, i, H⟩ := a
 obtain ⟨h1, h2, h3⟩ := h
 simp only at h1 h2 h3
 subst h3
 have key := uh_runs f l h2 H uhM _ i n (Nat.le_refl _) h1
 show ∃ e vs bs H', (∀ k : AExit → List AVal → List (List AVal) → Heap → Ans, cond (uhM n (l.drop i)).1 _ _ = k e vs bs H') ∧ _
 cases hb : (uhM n (l.drop i)).1 with
 | true => exact ⟨_, _, _, _, fun k => rfl, key.1 hb⟩
 | false => exact ⟨_, _, _, _, fun k => rfl, key.2 hb⟩
noncomputable def layY4 (R : UhR) : Lay := layY2.addL 109 (uhFH R)
theorem uh_fun (R : UhR) (s : List UInt8) (k : Out → Ans) : iFun Tryz.prog ((layY4 R).hd Tryz.prog) (layY4 R).fhs 0 109 [.str s] [] k = (
 let n0 : Int := (↑s.length : Int);
 let l1 : List UInt8 := decL (fun (r : List AVal) => byteOf r) (AVal.list false s.length fun (i : Nat) => [AVal.int .u8 (↑(s.getD i 0).toNat : Int)]);
 let m2 : Nat := l1.length;
  bif s == [] then k (Out.ret (AVal.tuple [AVal.int .i64 0, AVal.int .i64 8]) []) else bif decide (n0 > 8) then k (Out.ret (AVal.tuple [AVal.int .i64 0, AVal.int .i64 5]) []) else bif tst ((Int.toNat 0 ≤ m2 ∧ m2 ≤ 1099511627776 ∧ n0 = (↑m2 : Int)) ∧ SubTL [AVal.int .i64 0, AVal.list false s.length fun (i : Nat) => [AVal.int .u8 (↑(s.getD i 0).toNat : Int)], AVal.int .i64 n0, AVal.int .i64 0] [AVal.int .i64 0, AVal.list false m2 fun (i : Nat) => [AVal.int .u8 (↑((decL (fun (r : List AVal) => byteOf r) (AVal.list false s.length fun (i : Nat) => [AVal.int .u8 (↑(s.getD i 0).toNat : Int)])).getD i 0).toNat : Int)], AVal.int .i64 n0, AVal.int .i64 (↑(Int.toNat 0) : Int)] ∧ ([] : List (List AVal)) = [] ∧ ([] : Heap) = []) then bif (R 0 (List.drop (Int.toNat 0) l1)).fst then k (Out.ret (AVal.tuple [AVal.int .i64 (R 0 (List.drop (Int.toNat 0) l1)).snd, AVal.int .i64 0]) []) else k (Out.ret (AVal.tuple [AVal.int .i64 0, AVal.int .i64 33]) []) else none) := by kernel_rfl
theorem layY4_ok : (layY4 uhM).OK Tryz.prog := layY2_ok.loop1 (id := 7) (by kernel_rfl) (by kernel_rfl) (by kernel_rfl) uhSp_ok
def unhexM (s : List UInt8) : Int × Int := bif s == [] then (0, 8) else bif decide ((s.length : Int) > 8) then (0, 5) else bif (uhM 0 s).1 then ((uhM 0 s).2, 0) else (0, 33)
def unhexTold : FSp := mkFS [.s] (fun _ => true) (fun xs k => k (.ret (.tuple [.int .i64 (unhexM (aS xs 0)).1, .int .i64 (unhexM (aS xs 0)).2]) []))
theorem bytes_back (s : List UInt8) : decL (fun (r : List AVal) => byteOf r) (AVal.list false s.length fun (i : Nat) => [AVal.int .u8 ((s.getD i 0).toNat : Int)]) = s := decL_encL (d := 0) (full := false) decB_enc s
theorem unhexTold_ok : ∀ xs H k out, unhexTold xs H k = some out → ∃ o, CallOK Tryz.prog 109 xs H o ∧ k o = some out := mkFS_ok fun ys xs e h => by
 obtain ⟨s, rfl⟩ : ∃ s, xs = [.str s] := ⟨_, e⟩
 refine ⟨_, fun k => rfl, layY4_ok.callF (G := []) rfl (fun k => (uh_fun uhM s k).trans ?_)⟩
 show _ = k (.ret (.tuple [.int .i64 (unhexM s).1, .int .i64 (unhexM s).2]) [])
 unfold unhexM
 simp only [bytes_back]
 cases s == [] with
 | true => rfl
 | false =>
  simp only [cond_false]
  by_cases h8 : (s.length : Int) > 8
  · rw [dT h8]; rfl
  · rw [dF h8]
    simp only [cond_false]
    refine (congrArg (fun c => cond c _ none) (tst_true ⟨⟨Nat.zero_le _, by omega, trivial⟩, .refl _, by trivial⟩)).trans ?_
    simp only [cond_true, Int.toNat_zero, List.drop_zero]
    cases (uhM 0 s).1 <;> rfl
noncomputable def layY5 : Lay := (Lay.nil.addF 109 unhexTold)
theorem layY5_ok : layY5.OK Tryz.prog := Lay.nil_ok.addF unhexTold_ok
noncomputable def vaSp (R : Int → List UInt8 → Int) : LSp := mkL (fun vs _ H => UhA.mk (aI vs 0) (fullOf (vs.getD 1 .undef)) (decL decB (vs.getD 1 .undef)) (aI vs 2) (aI vs 3).toNat H) (fun a => a.i ≤ a.l.length ∧ a.l.length ≤ 1099511627776 ∧ a.m = a.l.length) (fun a => [.int .i64 a.n, encL a.f byteRow 0 a.l, .int .i64 a.m, .int .i64 a.i]) (fun _ => []) (fun a => a.H)
 (fun a k => k (.exit 0) [.int .i64 (R a.n (a.l.drop a.i))] [] a.H)
noncomputable def vaFH (R : Int → List UInt8 → Int) : FH := .of [(6, loopSpec 32 [7,18,19,20] [] [7] [] (vaSp R))]
theorem va_step (R : Int → List UInt8 → Int) (n : Int) (f : Bool) (l : List UInt8) (m i : Int) (H : Heap) (D : List (FuncId × List AVal)) (k : Kont) : lturn Tryz.prog layY5 (vaFH R) 115 6 [7,18,19,20] [] [7] [] (stL 32 [7,18,19,20] [.int .i64 n, encL f byteRow 0 l, .int .i64 m, .int .i64 i] [] [] H D) k = (
 bif decide (i < m) then bif decide (0 ≤ i) && decide (i < (↑l.length : Int)) then k AExit.normal (stL 32 [7, 18, 19, 20] [AVal.int .i64 (IntKind.i64.wrap (IntKind.i64.wrap (n * 10) + IntKind.i64.wrap (IntKind.u8.wrap ((↑(l.getD i.toNat 0).toNat : Int) - 48)))), AVal.list f l.length fun (i : Nat) => [AVal.int .u8 (↑(l.getD i 0).toNat : Int)], AVal.int .i64 m, AVal.int .i64 (IntKind.i64.wrap (i + 1))] [] [] H D) else none else k (AExit.exit 0) (stL 32 [7] [AVal.int .i64 n] [] [] H D)) := by kernel_rfl
theorem va_runs (f : Bool) (l : List UInt8) (hs : l.length ≤ 1099511627776) (H : Heap) (R : Int → List UInt8 → Int) : ∀ (m i : Nat) (n : Int), l.length - i ≤ m → i ≤ l.length →
 LoopRuns (lturn Tryz.prog layY5 (vaFH R) 115 6 [7,18,19,20] [] [7] []) 32 [7,18,19,20] [] [7] [] [.int .i64 n, encL f byteRow 0 l, .int .i64 l.length, .int .i64 (i : Nat)] [] H (.exit 0) [.int .i64 (vaM n (l.drop i))] [] H := by
 intro m
 induction m with
 | zero =>
  intro i n hm hi
  have e : l.drop i = [] := List.drop_eq_nil_of_le (by omega)
  rw [e]
  refine .stop (by simp) (fun D k => ?_)
  rw [va_step]
  simp (disch := omega) only [dF, cond_false]
  rfl
 | succ m ih =>
  intro i n hm hi
  have key := fun D k => va_step R n f l l.length i H D k
  by_cases hlt : i < l.length
  · have ed := drop_cons_of l i 0 hlt
    simp (disch := omega) only [dT, cond_true, Bool.and_self, Int.toNat_natCast, wrap_add1] at key
    rw [ed]
    replace key : ∀ (D : List (FuncId × List AVal)) (k : Kont), lturn Tryz.prog layY5 (vaFH R) 115 6 [7,18,19,20] [] [7] [] (stL 32 [7,18,19,20] [.int .i64 n, encL f byteRow 0 l, .int .i64 l.length, .int .i64 (i : Nat)] [] [] H D) k = k .normal (stL 32 [7,18,19,20] [.int .i64 (vaS n (l.getD i 0)), encL f byteRow 0 l, .int .i64 l.length, .int .i64 ((i + 1 : Nat) : Int)] [] [] H D) := key
    exact .step key (ih (i + 1) (vaS n (l.getD i 0)) (by omega) (by omega))
  · have e : l.drop i = [] := List.drop_eq_nil_of_le (by omega)
    rw [e]
    refine .stop (by simp) (fun D k => ?_)
    rw [va_step]
    simp (disch := omega) only [dF, cond_false]
    rfl
theorem vaSp_ok : SpOK (lturn Tryz.prog layY5 (vaFH vaM) 115 6 [7,18,19,20] [] [7] []) 32 [7,18,19,20] [] [7] [] (vaSp vaM) := mkL_ok fun a h => by
 obtain ⟨n, f, l, m, i, H⟩ := a
 obtain ⟨h1, h2, h3⟩ := h
 simp only at h1 h2 h3
 subst h3
 exact ⟨_, _, _, _, fun k => rfl, va_runs f l h2 H vaM _ i n (Nat.le_refl _) h1⟩
end Go.Mu
namespace Go.Mu
open Go Go.Proofs
noncomputable def laySm : Lay := Lay.nil.addF 132 smTold
theorem laySm_ok : laySm.OK Tryz.prog := Lay.nil_ok.addF smTold_ok
structure TuA where
 q : Nat
 n : Int
 v : Nat
 rows : List (List AVal)
 i : Nat
def allB (rows : List (List AVal)) : Bool := rows.all isByteRow
def ownL : AVal → Nat
 | .own _ _ n _ _ => n
 | _ => 0
def tuR (rows : List (List AVal)) (i : Nat) : List (List AVal) := rows.take i ++ (rows.drop i).map (fun r => [.int .u8 (smM (intOf (r.getD 0 .undef)))])
noncomputable def tuSp (R : List (List AVal) → Nat → List (List AVal)) : LSp := mkL (fun vs _ H => TuA.mk (ownL (vs.getD 1 .undef)) (aI vs 3) (verO (H.getD 0 (.var []))) (rowsO (H.getD 0 (.var []))) (aI vs 4).toNat) (fun a => a.q = a.rows.length ∧ a.n = a.rows.length ∧ a.i ≤ a.rows.length ∧ a.rows.length ≤ 1099511627776 ∧ allB a.rows = true)
 (fun a => [.func 132 [], .own 0 0 a.q a.v false, .own 0 0 a.q a.v false, .int .i64 a.n, .int .i64 (a.i : Nat)]) (fun _ => []) (fun a => [.arr 1 a.rows a.v])
 (fun a k => k (.exit 0) [.own 0 0 a.q a.v false] [] [.arr 1 (R a.rows a.i) a.v])
noncomputable def tuFH (R : List (List AVal) → Nat → List (List AVal)) : FH := { FH.of [(3, loopSpec 26 [1,5,10,11,12] [] [5] [] (tuSp R))] with own := [9] }
theorem tu_step (R : List (List AVal) → Nat → List (List AVal)) (n v : Nat) (m i : Int) (rows : List (List AVal)) (D : List (FuncId × List AVal)) (k : Kont) : lturn Tryz.prog laySm (tuFH R) 131 3 [1,5,10,11,12] [] [5] [] (stL 26 [1,5,10,11,12] [.func 132 [], .own 0 0 n v false, .own 0 0 n v false, .int .i64 m, .int .i64 i] [] [] [.arr 1 rows v] D) k = (
 let c0 : Bool := v == v;
 let c1 : Bool := c0 && decide (0 ≤ i) && decide (i < (↑n : Int));
 let m2 : Nat := 0 + i.toNat;
 let c3 : Bool := c0 && decide (m2 < rows.length) && true;
  bif decide (i < m) then bif c1 then bif c3 && isInt IntKind.u8 ((rows.getD m2 []).getD 0 AVal.undef) then bif c1 then bif c3 then k AExit.normal (stL 26 [1, 5, 10, 11, 12] [AVal.func 132 [], AVal.own 0 0 n v false, AVal.own 0 0 n v false, AVal.int .i64 m, AVal.int .i64 (IntKind.i64.wrap (i + 1))] [] [] [Obj.arr 1 (rows.set m2 ((rows.getD m2 []).set 0 (AVal.int .u8 (smM (intOf ((rows.getD m2 []).getD 0 AVal.undef)))))) v] D) else none else none else none else none else k (AExit.exit 0) (stL 26 [5] [AVal.own 0 0 n v false] [] [] [Obj.arr 1 rows v] D)) := by kernel_rfl
noncomputable def layTu (R : List (List AVal) → Nat → List (List AVal)) : Lay := laySm.addL 131 (tuFH R)
theorem lower_fun (R : List (List AVal) → Nat → List (List AVal)) (s : List UInt8) (k : Out → Ans) : iFun Tryz.prog ((layTu R).hd Tryz.prog) (layTu R).fhs 0 108 [.str s] [] k = (
 let m0 : Nat := ownL (AVal.own 0 0 s.length 0 false);
 let m1 : Nat := (List.map (fun (c : UInt8) => [AVal.int .u8 (↑c.toNat : Int)]) s).length;
 let n2 : Int := (↑s.length : Int);
  bif tst ((m0 = m1 ∧ n2 = (↑m1 : Int) ∧ Int.toNat 0 ≤ m1 ∧ m1 ≤ 1099511627776 ∧ allB (List.map (fun (c : UInt8) => [AVal.int .u8 (↑c.toNat : Int)]) s) = true) ∧ SubTL [AVal.func 132 [], AVal.own 0 0 s.length 0 false, AVal.own 0 0 s.length 0 false, AVal.int .i64 n2, AVal.int .i64 0] [AVal.func 132 [], AVal.own 0 0 m0 0 false, AVal.own 0 0 m0 0 false, AVal.int .i64 n2, AVal.int .i64 (↑(Int.toNat 0) : Int)] ∧ ([] : List (List AVal)) = [] ∧ [Obj.arr 1 (List.map (fun (c : UInt8) => [AVal.int .u8 (↑c.toNat : Int)]) s) 0] = [Obj.arr 1 (List.map (fun (c : UInt8) => [AVal.int .u8 (↑c.toNat : Int)]) s) 0]) then bif decide (0 + m0 ≤ (R (List.map (fun (c : UInt8) => [AVal.int .u8 (↑c.toNat : Int)]) s) (Int.toNat 0)).length) && (List.take m0 (List.drop 0 (R (List.map (fun (c : UInt8) => [AVal.int .u8 (↑c.toNat : Int)]) s) (Int.toNat 0)))).all fun (r : List AVal) => match r with | [v] => isInt IntKind.u8 v | x => false then k (Out.ret (AVal.str (List.map (fun (r : List AVal) => UInt8.ofNat (intOf (r.getD 0 AVal.undef)).toNat) (List.take m0 (List.drop 0 (R (List.map (fun (c : UInt8) => [AVal.int .u8 (↑c.toNat : Int)]) s) (Int.toNat 0)))))) []) else none else none) := by kernel_rfl
def subR (r : List AVal) : List AVal := [.int .u8 (smM (intOf (r.getD 0 .undef)))]
theorem allB_get {rows : List (List AVal)} (h : allB rows = true) {i : Nat} (hi : i < rows.length) : ∃ v, rows.getD i [] = [v] ∧ isInt .u8 v = true := by
 unfold allB at h
 rw [List.all_eq_true] at h
 have hm : rows.getD i [] ∈ rows := by
  rw [List.getD_eq_getElem?_getD, List.getElem?_eq_getElem hi]
  exact List.getElem_mem _
 have := h _ hm
 match hr : rows.getD i [], this with
 | [v], hv => exact ⟨v, rfl, hv⟩
theorem tuR_step {rows : List (List AVal)} {i : Nat} (hi : i < rows.length) : tuR (rows.set i (subR (rows.getD i []))) (i + 1) = tuR rows i := by
 unfold tuR
 have e1 : rows.drop i = rows.getD i [] :: rows.drop (i + 1) := drop_cons_of rows i [] hi
 have e2 : (rows.set i (subR (rows.getD i []))).drop (i + 1) = rows.drop (i + 1) := List.drop_set_of_lt (by omega)
 have e3 : (rows.set i (subR (rows.getD i []))).take (i + 1) = rows.take i ++ [subR (rows.getD i [])] := by
  rw [List.take_add_one, List.take_set_of_le (by omega), List.getElem?_set_self hi]
  rfl
 rw [e1, e2, e3, List.map_cons, List.append_assoc]
 rfl
theorem allB_set {rows : List (List AVal)} (h : allB rows = true) (i : Nat) (n : Int) : allB (rows.set i [.int .u8 n]) = true := by
 unfold allB at h ⊢
 rw [List.all_eq_true] at h ⊢
 intro r hr
 rcases List.mem_or_eq_of_mem_set hr with hr | rfl
 · exact h r hr
 · rfl
noncomputable abbrev tuTurn (R : List (List AVal) → Nat → List (List AVal)) := lturn Tryz.prog laySm (tuFH R) 131 3 [1,5,10,11,12] [] [5] []
theorem tu_runs (R : List (List AVal) → Nat → List (List AVal)) (v : Nat) : ∀ (m i : Nat) (rows : List (List AVal)), rows.length - i ≤ m → i ≤ rows.length → rows.length ≤ 1099511627776 → allB rows = true →
 LoopRuns (tuTurn R) 26 [1,5,10,11,12] [] [5] [] [.func 132 [], .own 0 0 rows.length v false, .own 0 0 rows.length v false, .int .i64 rows.length, .int .i64 (i : Nat)] [] [.arr 1 rows v] (.exit 0) [.own 0 0 rows.length v false] [] [.arr 1 (tuR rows i) v] := by
 intro m
 induction m with
 | zero =>
  intro i rows hm hi hl hb
  have e : tuR rows i = rows := by unfold tuR; rw [List.drop_eq_nil_of_le (by omega), List.take_of_length_le (by omega)]; simp
  rw [e]
  refine .stop (by simp) (fun D k => ?_)
  refine (tu_step R rows.length v rows.length i rows D k).trans ?_
  simp (disch := omega) only [dF, cond_false]
 | succ m ih =>
  intro i rows hm hi hl hb
  have key := fun D k => tu_step R rows.length v rows.length i rows D k
  by_cases hlt : i < rows.length
  · obtain ⟨x, hx, hx2⟩ := allB_get hb hlt
    have e1 : IntKind.i64.wrap ((i : Int) + 1) = ((i + 1 : Nat) : Int) := wrap_add1 (by omega)
    simp (disch := omega) only [dT, cond_true, Bool.and_self, beq_self_eq_true, Int.toNat_natCast, Nat.zero_add, hx, List.getD_cons_zero, hx2, e1, Bool.and_true] at key
    have hs : [x].set 0 (AVal.int .u8 (smM (intOf x))) = subR (rows.getD i []) := by rw [hx]; rfl
    rw [hs] at key
    have ih2 := ih (i + 1) (rows.set i (subR (rows.getD i []))) (by rw [List.length_set]; omega) (by rw [List.length_set]; omega) (by rw [List.length_set]; omega) (allB_set hb _ _)
    rw [tuR_step hlt, List.length_set] at ih2
    exact .step key ih2
  · have e : tuR rows i = rows := by unfold tuR; rw [List.drop_eq_nil_of_le (by omega), List.take_of_length_le (by omega)]; simp
    rw [e]
    refine .stop (by simp) (fun D k => ?_)
    refine (tu_step R rows.length v rows.length i rows D k).trans ?_
    simp (disch := omega) only [dF, cond_false]
theorem tuSp_ok : SpOK (tuTurn tuR) 26 [1,5,10,11,12] [] [5] [] (tuSp tuR) := mkL_ok fun a h => by
 obtain ⟨q, n, v, rows, i⟩ := a
 obtain ⟨h0, h1, h2, h3, h4⟩ := h
 simp only at h0 h1 h2 h3 h4
 subst h0 h1
 exact ⟨_, _, _, _, fun k => rfl, tu_runs tuR v _ i rows (Nat.le_refl _) h2 h3 h4⟩
theorem layTu_ok : (layTu tuR).OK Tryz.prog := laySm_ok.loop1 (id := 3) (by kernel_rfl) (by kernel_rfl) (by kernel_rfl) tuSp_ok
def lowC (c : UInt8) : UInt8 := UInt8.ofNat (smM (c.toNat : Int)).toNat
def lowM (s : List UInt8) : List UInt8 := s.map lowC
theorem tuR_all (s : List UInt8) : tuR (s.map fun c => [AVal.int .u8 (c.toNat : Int)]) 0 = s.map fun c => [AVal.int .u8 (smM (c.toNat : Int))] := by
 unfold tuR
 rw [List.take_zero, List.nil_append, List.drop_zero, List.map_map]
 rfl
theorem lower_call (s : List UInt8) (hs : s.length ≤ 1099511627776) (k : Out → Ans) : iFun Tryz.prog ((layTu tuR).hd Tryz.prog) (layTu tuR).fhs 0 108 [.str s] [] k = k (.ret (.str (lowM s)) []) := by
 refine (lower_fun tuR s k).trans ?_
 have hb : allB (s.map fun c => [AVal.int .u8 (c.toNat : Int)]) = true := by
  unfold allB
  rw [List.all_eq_true]
  intro r hr
  obtain ⟨c, _, rfl⟩ := List.mem_map.1 hr
  rfl
 have hl : (s.map fun c => [AVal.int .u8 (c.toNat : Int)]).length = s.length := List.length_map _
 refine (congrArg (fun c => cond c _ none) (tst_true ⟨⟨by rw [hl]; rfl, by rw [hl], Nat.zero_le _, by rw [hl]; exact hs, hb⟩, .refl _, rfl, rfl⟩)).trans ((cond_true _ _).trans ?_)
 have e0 : Int.toNat 0 = 0 := rfl
 rw [e0, tuR_all]
 have hm : ownL (AVal.own 0 0 s.length 0 false) = s.length := rfl
 rw [hm, List.drop_zero]
 have ht : (s.map fun c => [AVal.int .u8 (smM (c.toNat : Int))]).take s.length = s.map fun c => [AVal.int .u8 (smM (c.toNat : Int))] := List.take_of_length_le (by simp)
 rw [ht, dT (by simp)]
 have ha : ((s.map fun c => [AVal.int .u8 (smM (c.toNat : Int))]).all fun (r : List AVal) => match r with | [v] => isInt IntKind.u8 v | x => false) = true := by
  rw [List.all_eq_true]
  intro r hr
  obtain ⟨c, _, rfl⟩ := List.mem_map.1 hr
  rfl
 rw [ha, List.map_map]
 rfl
def lowTold : FSp := mkFS [.s] (fun xs => decide ((aS xs 0).length ≤ 1099511627776)) (fun xs k => k (.ret (.str (lowM (aS xs 0))) []))
theorem lowTold_ok : ∀ xs H k out, lowTold xs H k = some out → ∃ o, CallOK Tryz.prog 108 xs H o ∧ k o = some out := mkFS_ok fun ys xs e h => by
 obtain ⟨s, rfl⟩ : ∃ s, xs = [.str s] := ⟨_, e⟩
 have h2 : s.length ≤ 1099511627776 := of_decide_eq_true h
 exact ⟨_, fun k => rfl, layTu_ok.callF (G := []) rfl (fun k => lower_call s h2 k)⟩
end Go.Mu
namespace Go.Mu
open Go Go.Proofs
def scP (c : UInt8) : Bool := bif bif (c.toNat : Int) == 47 then true else (c.toNat : Int) == 63 then true else (c.toNat : Int) == 35
def cpP (c : UInt8) : Bool :=
 bif bif !bif decide (IntKind.u8.wrap ((BitVec.ofInt 8 (c.toNat : Int) ||| BitVec.ofInt 8 32).toNat : Int) ≥ 97) then decide (IntKind.u8.wrap ((BitVec.ofInt 8 (c.toNat : Int) ||| BitVec.ofInt 8 32).toNat : Int) ≤ 122) else false then
  bif decide ((c.toNat : Int) < 48) then true else decide ((c.toNat : Int) > 57)
  else false then decide (ibM [32, 46, 44, 37, 35, 43, 45] (c.toNat : Int) < 0) else false
def scFH : FH := .of [(2, loopSpec 19 [0,1,7,8] [] [4] [] (idxSp wfB decB scP 107))]
theorem sc_step (full : Bool) (l : List UInt8) (i : Nat) (H : Heap) (D : List (FuncId × List AVal)) (k : Kont) : lturn Tryz.prog layY1 scFH 130 2 [0,1,7,8] [] [4] [] (stL 19 [0,1,7,8] [encL full byteRow 0 l, .func 107 [], .int .i64 l.length, .int .i64 i] [] [] H D) k =
 cond (decide ((i : Int) < l.length)) (cond (decide ((i : Int) < l.length)) (cond (scP (l.getD (i : Int).toNat 0)) (k .ret (stL 19 [4] [.int .i64 i] [] [] H D)) (k .normal (stL 19 [0,1,7,8] [encL full byteRow 0 l, .func 107 [], .int .i64 l.length, .int .i64 (IntKind.i64.wrap ((i : Int) + 1))] [] [] H D))) none)
  (k (.exit 0) (stL 19 [4] [.undef] [] [] H D)) := by kernel_rfl
noncomputable def lay_sc : Lay := layY1.addL 130 scFH
theorem lay_sc_ok : lay_sc.OK Tryz.prog := layY1_ok.loop1 (id := 2) (by kernel_rfl) (by kernel_rfl) (by kernel_rfl) (idxSp_ok wfB_sub sc_step)
def cpFH : FH := .of [(2, loopSpec 19 [0,1,7,8] [] [4] [] (idxSp wfB decB cpP 111))]
theorem cp_step (full : Bool) (l : List UInt8) (i : Nat) (H : Heap) (D : List (FuncId × List AVal)) (k : Kont) : lturn Tryz.prog layY1 cpFH 130 2 [0,1,7,8] [] [4] [] (stL 19 [0,1,7,8] [encL full byteRow 0 l, .func 111 [], .int .i64 l.length, .int .i64 i] [] [] H D) k =
 cond (decide ((i : Int) < l.length)) (cond (decide ((i : Int) < l.length)) (cond (cpP (l.getD (i : Int).toNat 0)) (k .ret (stL 19 [4] [.int .i64 i] [] [] H D)) (k .normal (stL 19 [0,1,7,8] [encL full byteRow 0 l, .func 111 [], .int .i64 l.length, .int .i64 (IntKind.i64.wrap ((i : Int) + 1))] [] [] H D))) none)
  (k (.exit 0) (stL 19 [4] [.undef] [] [] H D)) := by kernel_rfl
noncomputable def lay_cp : Lay := layY1.addL 130 cpFH
theorem lay_cp_ok : lay_cp.OK Tryz.prog := layY1_ok.loop1 (id := 2) (by kernel_rfl) (by kernel_rfl) (by kernel_rfl) (idxSp_ok wfB_sub cp_step)
noncomputable def lay_sc2 : Lay := lay_sc.addF 108 lowTold
theorem lay_sc2_ok : lay_sc2.OK Tryz.prog := lay_sc_ok.addF lowTold_ok
theorem scheme_fun (s : List UInt8) (k : Out → Ans) (n0 : Int) (e_n0 : n0 = (ibM s 58))
 (c1 : Bool) (e_c1 : c1 = (decide (0 ≤ n0) && decide (n0 ≤ (↑s.length : Int))))
 (c2 : Bool) (e_c2 : c2 = (decide (n0 < 0)))
 (l3 : List UInt8) (e_l3 : l3 = (List.drop (Int.toNat 0) (List.take n0.toNat s)))
 (m4 : Nat) (e_m4 : m4 = (l3.length))
 (m5 : Nat) (e_m5 : m5 = (lenL
  (AVal.list false m4 fun (i : Nat) =>
   [AVal.int .u8 (↑((List.drop (Int.toNat 0) (List.take (ibM s 58).toNat s)).getD i 0).toNat : Int)]))) : iFun Tryz.prog (lay_sc2.hd Tryz.prog) lay_sc2.fhs 0 71 [.str s] [] k = (
 let z0 := bif c1 then bif decide (m4 ≤ 1099511627776) then k (Out.ret (AVal.tuple [AVal.str (lowM l3), AVal.bool true]) []) else none else none;
 let z1 := List.drop (Int.toNat 0) (List.take (ibM s 58).toNat s);
 let z2 := Out.ret (AVal.tuple [AVal.str [], AVal.bool false]) [];
 bif c1 || !!c2 then bif wfL (fun (r : List AVal) => match r with | [AVal.int .u8 n] => decide (0 ≤ n) && decide (n < 256) | x => false) (AVal.list false m4 fun (i : Nat) => [AVal.int .u8 (↑(z1.getD i 0).toNat : Int)]) && true && (↑m4 : Int) == (↑m5 : Int) && true && decide (m5 ≤ 1099511627776) && true then bif (decL (fun (r : List AVal) => byteOf r) (AVal.list false m4 fun (i : Nat) => [AVal.int .u8 (↑(z1.getD i 0).toNat : Int)])).any scP then bif bif c2 then true else true then k z2 else z0 else bif bif c2 then true else false then k z2 else z0 else none else none) := by
  subst e_n0 e_c1 e_c2 e_l3 e_m4 e_m5
  kernel_rfl
noncomputable def lay_cp2 : Lay := (lay_cp.addF 108 lowTold).addF 141 idxTold
theorem lay_cp2_ok : lay_cp2.OK Tryz.prog := (lay_cp_ok.addF lowTold_ok).addF idxTold_ok
theorem plain_fun (s : List UInt8) (k : Out → Ans) (c0 : Bool) (e_c0 : c0 = (decide ((lowM s).length < 4294967281)))
 (m1 : Nat) (e_m1 : m1 = (lenL (AVal.list false (lowM s).length fun (i : Nat) => [AVal.int .u8 (↑((lowM s).getD i 0).toNat : Int)])))
 (c2 : Bool) (e_c2 : c2 = (bif !decide (Lib.index (lowM s) [101, 120, 112, 114, 101, 115, 115, 105, 111, 110] ≥ 0) then
  !decide (Lib.index (lowM s) [117, 114, 108] ≥ 0)
 else false)) : iFun Tryz.prog (lay_cp2.hd Tryz.prog) lay_cp2.fhs 0 79 [.str s] [] k = (
 bif decide ((↑s.length : Int) > 4096) then k (Out.ret (AVal.bool false) []) else bif decide (s.length ≤ 1099511627776) then bif c0 then bif c0 then bif wfL (fun (r : List AVal) => match r with | [AVal.int .u8 n] => decide (0 ≤ n) && decide (n < 256) | x => false) (AVal.list false (lowM s).length fun (i : Nat) => [AVal.int .u8 (↑((lowM s).getD i 0).toNat : Int)]) && true && (↑(lowM s).length : Int) == (↑m1 : Int) && true && decide (m1 ≤ 1099511627776) && true then bif (decL (fun (r : List AVal) => byteOf r) (AVal.list false (lowM s).length fun (i : Nat) => [AVal.int .u8 (↑((lowM s).getD i 0).toNat : Int)])).any cpP then k (Out.ret (AVal.bool (bif c2 then false else false)) []) else k (Out.ret (AVal.bool (bif c2 then true else false)) []) else none else none else none else none) := by
 subst e_c0 e_m1 e_c2
 kernel_rfl
theorem ixG {l : List UInt8} (hl : l.length ≤ 1099511627776) : (wfL (fun (r : List AVal) => match r with | [AVal.int .u8 n] => decide (0 ≤ n) && decide (n < 256) | x => false) (AVal.list false l.length fun (i : Nat) => [AVal.int .u8 ((l.getD i 0).toNat : Int)]) && true && ((l.length : Int) == ((lenL (AVal.list false l.length fun (i : Nat) => [AVal.int .u8 ((l.getD i 0).toNat : Int)]) : Nat) : Int)) && true && decide (lenL (AVal.list false l.length fun (i : Nat) => [AVal.int .u8 ((l.getD i 0).toNat : Int)]) ≤ 1099511627776) && true) = true := by
 show (wfL wfB (encL false byteRow 0 l) && true && ((l.length : Int) == l.length) && true && decide (l.length ≤ 1099511627776) && true) = true
 rw [wfL_encL wfB_enc, dT hl]
 simp
def schemeM (s : List UInt8) : List UInt8 × Bool := bif decide (ibM s 58 < 0) || (s.take (ibM s 58).toNat).any scP then ([], false) else (lowM (s.take (ibM s 58).toNat), true)
def plainM (s : List UInt8) : Bool := decide (s.length ≤ 4096) && (!decide (Lib.index (lowM s) [101, 120, 112, 114, 101, 115, 115, 105, 111, 110] ≥ 0) && !decide (Lib.index (lowM s) [117, 114, 108] ≥ 0) && !(lowM s).any cpP)
theorem ib_hi (s : List UInt8) (n : Int) : ibM s n < s.length := by
 unfold ibM
 have h := Lib.indexByte_ge s (UInt8.ofNat n.toNat)
 generalize hx : Lib.indexByte s (UInt8.ofNat n.toNat) = x at h
 have : ∀ (l : List UInt8) (c : UInt8), Lib.indexByte l c < l.length := by
  intro l c
  induction l with
  | nil => show (-1 : Int) < 0; decide
  | cons b l ih =>
   rw [Lib.indexByte, List.length_cons]
   split
   · omega
   · split <;> omega
 rw [← hx]; exact this s _
theorem scheme_call (s : List UInt8) (hs : s.length ≤ 1099511627776) (k : Out → Ans) : iFun Tryz.prog (lay_sc2.hd Tryz.prog) lay_sc2.fhs 0 71 [.str s] [] k = k (.ret (.tuple [.str (schemeM s).1, .bool (schemeM s).2]) []) := by
 refine (scheme_fun s k _ rfl _ rfl _ rfl _ rfl _ rfl _ rfl).trans ?_
 have hlt := ib_hi s 58
 have hl : (List.drop (Int.toNat 0) (List.take (ibM s 58).toNat s)).length ≤ 1099511627776 := by simp; omega
 have e0 : List.drop (Int.toNat 0) (List.take (ibM s 58).toNat s) = List.take (ibM s 58).toNat s := rfl
 unfold schemeM
 by_cases h : ibM s 58 < 0
 · rw [dT h, dF (show ¬ 0 ≤ ibM s 58 by omega)]
   simp only [Bool.false_and, Bool.not_true, Bool.not_false, Bool.or_true, Bool.true_or, cond_true]
   refine (congrArg (fun c => cond c _ none) (ixG hl)).trans ?_
   simp only [cond_true]
   generalize List.any _ _ = b
   cases b <;> rfl
 · rw [dF h, dT (show 0 ≤ ibM s 58 by omega), dT (show ibM s 58 ≤ (s.length : Int) by omega)]
   simp only [Bool.and_self, Bool.true_or, cond_true, Bool.false_or]
   refine (congrArg (fun c => cond c _ none) (ixG hl)).trans ?_
   have hl2 : (List.take (ibM s 58).toNat s).length ≤ 1099511627776 := hl
   simp only [cond_true, bytes_back, e0, dT hl2]
   cases (List.take (ibM s 58).toNat s).any scP <;> rfl
def schTold : FSp := mkFS [.s] (fun xs => decide ((aS xs 0).length ≤ 1099511627776)) (fun xs k => k (.ret (.tuple [.str (schemeM (aS xs 0)).1, .bool (schemeM (aS xs 0)).2]) []))
theorem schTold_ok : ∀ xs H k out, schTold xs H k = some out → ∃ o, CallOK Tryz.prog 71 xs H o ∧ k o = some out := mkFS_ok fun ys xs e h => by
 obtain ⟨s, rfl⟩ : ∃ s, xs = [.str s] := ⟨_, e⟩
 exact ⟨_, fun k => rfl, lay_sc2_ok.callF (G := []) rfl (fun k => scheme_call s (of_decide_eq_true h) k)⟩
theorem plain_call (s : List UInt8) (hs : s.length ≤ 1099511627776) (k : Out → Ans) : iFun Tryz.prog (lay_cp2.hd Tryz.prog) lay_cp2.fhs 0 79 [.str s] [] k = k (.ret (.bool (plainM s)) []) := by
 refine (plain_fun s k _ rfl _ rfl _ rfl).trans ?_
 have hl : (lowM s).length = s.length := List.length_map _
 unfold plainM
 by_cases h : s.length ≤ 4096
 · rw [dF (show ¬ (s.length : Int) > 4096 by omega), dT hs, dT (show (lowM s).length < 4294967281 by omega), dT h]
   simp only [cond_false, cond_true, Bool.true_and]
   refine (congrArg (fun c => cond c _ none) (ixG (by omega))).trans ?_
   simp only [cond_true, bytes_back, bif_and]
   generalize (!decide (Lib.index (lowM s) [101, 120, 112, 114, 101, 115, 115, 105, 111, 110] ≥ 0) && !decide (Lib.index (lowM s) [117, 114, 108] ≥ 0)) = b
   cases (lowM s).any cpP <;> cases b <;> rfl
 · rw [dT (show (s.length : Int) > 4096 by omega), dF h]; rfl
def plaTold : FSp := mkFS [.s] (fun xs => decide ((aS xs 0).length ≤ 1099511627776)) (fun xs k => k (.ret (.bool (plainM (aS xs 0))) []))
theorem plaTold_ok : ∀ xs H k out, plaTold xs H k = some out → ∃ o, CallOK Tryz.prog 79 xs H o ∧ k o = some out := mkFS_ok fun ys xs e h => by
 obtain ⟨s, rfl⟩ : ∃ s, xs = [.str s] := ⟨_, e⟩
 exact ⟨_, fun k => rfl, lay_cp2_ok.callF (G := []) rfl (fun k => plain_call s (of_decide_eq_true h) k)⟩
end Go.Mu
namespace Go.Mu
open Go Go.Proofs
abbrev b0P (ad b : AVal) (O : Obj) : Heap := [.var [ad, b], .note bdT 2, O, .note bT 0]
structure b0H where
 x : Bld
abbrev b0H.heap (x : b0H) : Heap := b0P x.x.ad x.x.b (.arr 1 x.x.rows x.x.v)
def b0H.dec (H : Heap) : b0H := ⟨bld H 0 2⟩
theorem b0_ws0 (O : Obj) (k : Out → Ans) : iFun Tryz.prog (layW0.hd Tryz.prog) layW0.fhs 0 36 [.ptr (.hp 0) 0, .str []] (b0P .nilptr .nilX O) k = (
 k
 (Out.ret (AVal.tuple [AVal.int .i64 0, AVal.nilIface])
  [Obj.var [AVal.ptr (Oid.hp 0) 0, AVal.nilX], Obj.note 71 2, O, Obj.note 5 0])) := by kernel_rfl
theorem b0_ws1 (O : Obj) (k : Out → Ans) : iFun Tryz.prog (layW0.hd Tryz.prog) layW0.fhs 0 36 [.ptr (.hp 0) 0, .str []] (b0P (.ptr (.hp 0) 0) .nilX O) k = (
 k
 (Out.ret (AVal.tuple [AVal.int .i64 0, AVal.nilIface])
  [Obj.var [AVal.ptr (Oid.hp 0) 0, AVal.nilX], Obj.note 71 2, O, Obj.note 5 0])) := by kernel_rfl
theorem b0_ws2 (l : List UInt8) (n v : Nat) (rows : List (List AVal)) (k : Out → Ans) : iFun Tryz.prog (Lay.nil.hd Tryz.prog) Lay.nil.fhs 0 36 [.ptr (.hp 0) 0, .str l] (b0P .nilptr (.own 2 0 n v false) (.arr 1 rows v)) k = (
 let m0 : Nat := n + (List.map (fun (c : UInt8) => [AVal.int .u8 (↑c.toNat : Int)]) l).length;
 let m1 : Nat := v + 1;
  bif v == v && n == rows.length && decide ((2 * m0 + 1000) * 1 ≤ 281474976710656) && true then
  k
  (Out.ret (AVal.tuple [AVal.int .i64 (↑l.length : Int), AVal.nilIface])
  [Obj.var [AVal.ptr (Oid.hp 0) 0, AVal.own 2 0 m0 m1 false], Obj.note 71 2,
  Obj.arr 1 (rows.append (List.map (fun (c : UInt8) => [AVal.int .u8 (↑c.toNat : Int)]) l)) m1,
  Obj.note 5 0])
  else none) := by kernel_rfl
theorem b0_ws3 (l : List UInt8) (n v : Nat) (rows : List (List AVal)) (k : Out → Ans) : iFun Tryz.prog (Lay.nil.hd Tryz.prog) Lay.nil.fhs 0 36 [.ptr (.hp 0) 0, .str l] (b0P (.ptr (.hp 0) 0) (.own 2 0 n v false) (.arr 1 rows v)) k = (
 let m0 : Nat := n + (List.map (fun (c : UInt8) => [AVal.int .u8 (↑c.toNat : Int)]) l).length;
 let m1 : Nat := v + 1;
  bif v == v && n == rows.length && decide ((2 * m0 + 1000) * 1 ≤ 281474976710656) && true then
  k
  (Out.ret (AVal.tuple [AVal.int .i64 (↑l.length : Int), AVal.nilIface])
  [Obj.var [AVal.ptr (Oid.hp 0) 0, AVal.own 2 0 m0 m1 false], Obj.note 71 2,
  Obj.arr 1 (rows.append (List.map (fun (c : UInt8) => [AVal.int .u8 (↑c.toNat : Int)]) l)) m1,
  Obj.note 5 0])
  else none) := by kernel_rfl
theorem b0_wb2 (c : UInt8) (n v : Nat) (rows : List (List AVal)) (k : Out → Ans) : iFun Tryz.prog (Lay.nil.hd Tryz.prog) Lay.nil.fhs 0 37 [.ptr (.hp 0) 0, .int .u8 c.toNat] (b0P .nilptr (.own 2 0 n v false) (.arr 1 rows v)) k = (
 let m0 : Nat := n + 1;
 let m1 : Nat := v + 1;
  bif v == v && n == rows.length && decide ((2 * m0 + 1000) * 1 ≤ 281474976710656) && true then
  k
  (Out.ret AVal.nilIface
  [Obj.var [AVal.ptr (Oid.hp 0) 0, AVal.own 2 0 m0 m1 false], Obj.note 71 2,
  Obj.arr 1 (rows.append [[AVal.int .u8 (↑c.toNat : Int)]]) m1, Obj.note 5 0])
  else none) := by kernel_rfl
theorem b0_wb3 (c : UInt8) (n v : Nat) (rows : List (List AVal)) (k : Out → Ans) : iFun Tryz.prog (Lay.nil.hd Tryz.prog) Lay.nil.fhs 0 37 [.ptr (.hp 0) 0, .int .u8 c.toNat] (b0P (.ptr (.hp 0) 0) (.own 2 0 n v false) (.arr 1 rows v)) k = (
 let m0 : Nat := n + 1;
 let m1 : Nat := v + 1;
  bif v == v && n == rows.length && decide ((2 * m0 + 1000) * 1 ≤ 281474976710656) && true then
  k
  (Out.ret AVal.nilIface
  [Obj.var [AVal.ptr (Oid.hp 0) 0, AVal.own 2 0 m0 m1 false], Obj.note 71 2,
  Obj.arr 1 (rows.append [[AVal.int .u8 (↑c.toNat : Int)]]) m1, Obj.note 5 0])
  else none) := by kernel_rfl
theorem b0_ws (x : b0H) (l : List UInt8) (hx : x.x.can 0 2) (h : x.x.t.length + l.length ≤ 1099511627776) : CallOK Tryz.prog 36 [.ptr (.hp 0) 0, .str l] x.heap (.ret (.tuple [.int .i64 l.length, .nilIface]) ({ x with x := x.x.add 0 2 l } : b0H).heap) := by
 obtain ⟨⟨ad, b, rows, v⟩⟩ := x
 obtain ⟨h1, h2, h3⟩ := hx
 unfold Bld.add Bld.t
 simp only [Bld.t] at h h1 h2 h3 ⊢
 generalize bytesOf rows = text at *
 subst h2 h3
 cases text with
 | nil =>
  cases l with
  | nil =>
   refine layW0_ok.call (fun k => ?_)
   rcases h1 with rfl | rfl
   · exact b0_ws0 (.arr 1 [] v) k
   · exact b0_ws1 (.arr 1 [] v) k
  | cons c t =>
   refine relAt_ok (i := 0) (c := 1) (j := 2) ?_
   simp only [List.length_nil] at h
   refine Lay.nil_ok.call (fun k => ?_)
   have e3 : wsV [] (c :: t) v = v + 1 + 1 := rfl
   rw [e3]
   generalize hl : c :: t = l at *
   have e4 : bfB 2 ([] ++ l) (v + 1 + 1) = .own 2 0 l.length (v + 1 + 1) false := by rw [← hl]; rfl
   rw [e4]
   rcases h1 with rfl | rfl
   · rw [show relAt 0 1 2 (b0P .nilptr (bfB 2 [] v) (.arr 1 (([] : List UInt8).map byteRow) v)) = b0P .nilptr (.own 2 0 0 (v + 1) false) (.arr 1 [] (v + 1)) from rfl, b0_ws2]
     simp (disch := omega) only [e_map, List.length_map, dT, beq_self_eq_true, Bool.and_true, cond_true, List.append_eq, List.nil_append, Nat.zero_add, List.length_nil, Nat.mul_one, List.map_nil]
   · rw [show relAt 0 1 2 (b0P (.ptr (.hp 0) 0) (bfB 2 [] v) (.arr 1 (([] : List UInt8).map byteRow) v)) = b0P (.ptr (.hp 0) 0) (.own 2 0 0 (v + 1) false) (.arr 1 [] (v + 1)) from rfl, b0_ws3]
     simp (disch := omega) only [e_map, List.length_map, dT, beq_self_eq_true, Bool.and_true, cond_true, List.append_eq, List.nil_append, Nat.zero_add, List.length_nil, Nat.mul_one, List.map_nil]
 | cons c t =>
  refine Lay.nil_ok.call (fun k => ?_)
  have e3 : wsV (c :: t) l v = v + 1 := rfl
  have e4 : bfB 2 ((c :: t) ++ l) (v + 1) = .own 2 0 ((c :: t) ++ l).length (v + 1) false := rfl
  have e5 : bfB 2 (c :: t) v = .own 2 0 (c :: t).length v false := rfl
  rw [e3, e4, e5]
  generalize c :: t = m at *
  rcases h1 with rfl | rfl
  · rw [b0_ws2]
    simp (disch := omega) only [e_map, List.length_map, dT, beq_self_eq_true, Bool.and_true, cond_true, List.append_eq, List.length_append, Nat.mul_one]
  · rw [b0_ws3]
    simp (disch := omega) only [e_map, List.length_map, dT, beq_self_eq_true, Bool.and_true, cond_true, List.append_eq, List.length_append, Nat.mul_one]
theorem b0_wb (x : b0H) (c : UInt8) (hx : x.x.can 0 2) (h : x.x.t.length ≤ 1073741824) : CallOK Tryz.prog 37 [.ptr (.hp 0) 0, .int .u8 c.toNat] x.heap (.ret .nilIface ({ x with x := x.x.add 0 2 [c] } : b0H).heap) := by
 obtain ⟨⟨ad, b, rows, v⟩⟩ := x
 obtain ⟨h1, h2, h3⟩ := hx
 unfold Bld.add Bld.t
 simp only [Bld.t] at h h1 h2 h3 ⊢
 generalize bytesOf rows = text at *
 subst h2 h3
 have e6 : [c].map byteRow = [[.int .u8 c.toNat]] := rfl
 rw [e6]
 cases text with
 | nil =>
  refine relAt_ok (i := 0) (c := 1) (j := 2) ?_
  refine Lay.nil_ok.call (fun k => ?_)
  have e3 : wsV [] [c] v = v + 1 + 1 := rfl
  have e4 : bfB 2 ([] ++ [c]) (v + 1 + 1) = .own 2 0 1 (v + 1 + 1) false := rfl
  rw [e3, e4]
  rcases h1 with rfl | rfl
  · rw [show relAt 0 1 2 (b0P .nilptr (bfB 2 [] v) (.arr 1 (([] : List UInt8).map byteRow) v)) = b0P .nilptr (.own 2 0 0 (v + 1) false) (.arr 1 [] (v + 1)) from rfl, b0_wb2]
    simp only [beq_self_eq_true]
    rfl
  · rw [show relAt 0 1 2 (b0P (.ptr (.hp 0) 0) (bfB 2 [] v) (.arr 1 (([] : List UInt8).map byteRow) v)) = b0P (.ptr (.hp 0) 0) (.own 2 0 0 (v + 1) false) (.arr 1 [] (v + 1)) from rfl, b0_wb3]
    simp only [beq_self_eq_true]
    rfl
 | cons d t =>
  refine Lay.nil_ok.call (fun k => ?_)
  have e3 : wsV (d :: t) [c] v = v + 1 := rfl
  have e4 : bfB 2 ((d :: t) ++ [c]) (v + 1) = .own 2 0 ((d :: t) ++ [c]).length (v + 1) false := rfl
  have e5 : bfB 2 (d :: t) v = .own 2 0 (d :: t).length v false := rfl
  rw [e3, e4, e5]
  generalize d :: t = m at *
  rcases h1 with rfl | rfl
  · rw [b0_wb2]
    simp (disch := omega) only [e_map, List.length_map, dT, beq_self_eq_true, Bool.and_true, cond_true, List.append_eq, List.length_append, Nat.mul_one, List.length_cons, List.length_nil]
  · rw [b0_wb3]
    simp (disch := omega) only [e_map, List.length_map, dT, beq_self_eq_true, Bool.and_true, cond_true, List.append_eq, List.length_append, Nat.mul_one, List.length_cons, List.length_nil]
theorem b0_str (x : b0H) (hx : x.x.can 0 2) (h : x.x.t.length ≤ 1099511627776) : CallOK Tryz.prog 38 [.ptr (.hp 0) 0] x.heap (.ret (.str x.x.t) ({ x with x := x.x.dead } : b0H).heap) := by
 obtain ⟨⟨ad, b, rows, v⟩⟩ := x
 obtain ⟨h1, h2, h3⟩ := hx
 unfold Bld.dead Bld.t
 simp only [Bld.t] at h h1 h2 h3 ⊢
 generalize bytesOf rows = text at *
 subst h2 h3
 cases text with
 | nil => exact str_ok0 (cs := [ad, .nilX]) rfl rfl
 | cons c t => exact str_ok (i := 0) (off := 0) (j := 2) (u := v) (cs := [ad, .own 2 0 (c :: t).length v false]) (l := c :: t) rfl rfl rfl rfl (by simp) h
noncomputable def b0_wsTold : FSp := mkF (fun xs H => (b0H.dec H, aS xs 1)) (fun x => x.1.x.can 0 2 ∧ x.1.x.t.length + x.2.length ≤ 1099511627776) (fun x => [.ptr (.hp 0) 0, .str x.2]) (fun x => x.1.heap) (fun x k => k (.ret (.tuple [.int .i64 x.2.length, .nilIface]) ({ x.1 with x := x.1.x.add 0 2 x.2 } : b0H).heap))
noncomputable def b0_wbTold : FSp := mkF (fun xs H => (b0H.dec H, UInt8.ofNat (aI xs 1).toNat)) (fun x => x.1.x.can 0 2 ∧ x.1.x.t.length ≤ 1073741824) (fun x => [.ptr (.hp 0) 0, .int .u8 x.2.toNat]) (fun x => x.1.heap) (fun x k => k (.ret .nilIface ({ x.1 with x := x.1.x.add 0 2 [x.2] } : b0H).heap))
noncomputable def b0_strTold : FSp := mkF (fun xs H => b0H.dec H) (fun x => x.x.can 0 2 ∧ x.x.t.length ≤ 1099511627776) (fun x => [.ptr (.hp 0) 0]) (fun x => x.heap) (fun x k => k (.ret (.str x.x.t) ({ x with x := x.x.dead } : b0H).heap))
noncomputable def b0_lay (L : Lay) : Lay := ((L.addF 36 b0_wsTold).addF 37 b0_wbTold).addF 38 b0_strTold
theorem b0_ok {L : Lay} (h : L.OK Tryz.prog) : (b0_lay L).OK Tryz.prog :=
 ((h.addF (mkF_ok fun x h => ⟨_, fun k => rfl, b0_ws x.1 x.2 h.1 h.2⟩)).addF (mkF_ok fun x h => ⟨_, fun k => rfl, b0_wb x.1 x.2 h.1 h.2⟩)).addF (mkF_ok fun x h => ⟨_, fun k => rfl, b0_str x h.1 h.2⟩)
end Go.Mu
namespace Go.Proofs
open Go.Shelf
def Tryz.pRen : Ren := {
 f := fun x => match x with
  | 156 => 42
  | 165 => 70
  | 166 => 36
  | 169 => 38
  | 240 => 66
  | 241 => 105
  | 276 => 101
  | 277 => 129
  | n => n,
 t := fun x => match x with
  | 0 => 0
  | 3 => 3
  | 4 => 4
  | 5 => 5
  | 9 => 9
  | 20 => 20
  | 31 => 23
  | 37 => 69
  | 70 => 68
  | 72 => 71
  | 75 => 73
  | 76 => 74
  | 80 => 77
  | 127 => 86
  | 164 => 107
  | n => n,
 g := fun x => match x with
  | n => n }
theorem Tryz.pRen_156 : Lays.n156 Tryz.prog Tryz.pRen := {
 mixed := by kernel_rfl
 f156 := Tryz.func42.trans (congrArg some (by kernel_rfl))
 f165 := Tryz.func70.trans (congrArg some (by kernel_rfl))
 f166 := Tryz.func36.trans (congrArg some (by kernel_rfl))
 f169 := Tryz.func38.trans (congrArg some (by kernel_rfl))
 f240 := Tryz.func66.trans (congrArg some (by kernel_rfl))
 f241 := Tryz.func105.trans (congrArg some (by kernel_rfl))
 f276 := Tryz.func101.trans (congrArg some (by kernel_rfl))
 f277 := Tryz.func129.trans (congrArg some (by kernel_rfl))
 t0 := Tryz.underlying0
 a0 := Tryz.isAgg0
 z0 := Tryz.sizeOf0
 v0 := Tryz.zeroValue0
 t3 := Tryz.underlying3
 a3 := Tryz.isAgg3
 z3 := Tryz.sizeOf3
 v3 := Tryz.zeroValue3
 t4 := Tryz.underlying4
 a4 := Tryz.isAgg4
 z4 := Tryz.sizeOf4
 v4 := Tryz.zeroValue4
 t9 := Tryz.underlying9
 a9 := Tryz.isAgg9
 z9 := Tryz.sizeOf9
 v9 := Tryz.zeroValue9
 t20 := Tryz.underlying20
 a20 := Tryz.isAgg20
 z20 := Tryz.sizeOf20
 v20 := Tryz.zeroValue20
 t31 := Tryz.underlying23
 a31 := Tryz.isAgg23
 z31 := Tryz.sizeOf23
 v31 := Tryz.zeroValue23
 t37 := Tryz.underlying69
 a37 := Tryz.isAgg69
 z37 := Tryz.sizeOf69
 v37 := Tryz.zeroValue69
 t70 := Tryz.underlying68
 a70 := Tryz.isAgg68
 z70 := Tryz.sizeOf68
 v70 := Tryz.zeroValue68
 t72 := Tryz.underlying71
 a72 := Tryz.isAgg71
 z72 := Tryz.sizeOf71
 v72 := Tryz.zeroValue71
 t75 := Tryz.underlying73
 a75 := Tryz.isAgg73
 z75 := Tryz.sizeOf73
 v75 := Tryz.zeroValue73
 t76 := Tryz.underlying74
 a76 := Tryz.isAgg74
 z76 := Tryz.sizeOf74
 v76 := Tryz.zeroValue74
 t127 := Tryz.underlying86
 a127 := Tryz.isAgg86
 z127 := Tryz.sizeOf86
 v127 := Tryz.zeroValue86
 t164 := Tryz.underlying107
 a164 := Tryz.isAgg107
 z164 := Tryz.sizeOf107
 v164 := Tryz.zeroValue107
}
theorem Tryz.pRen_X : Builder.Extra Tryz.prog Tryz.pRen := {
 sizeBuilder := by kernel_rfl
 liesBuilder := by kernel_rfl
 t5 := Tryz.underlying5
 a5 := Tryz.isAgg5
 z5 := Tryz.sizeOf5
 v5 := Tryz.zeroValue5
 infoByte := by kernel_rfl
 cellsByte := by kernel_rfl
 sizeByte := by kernel_rfl
 neB5 := by decide }
end Go.Proofs
namespace Go.Mu
open Go Go.Proofs Go.RowKit
section
variable {P : Program} {w w' : World} {E : Env} {H : Heap}
theorem Sim.freshV (sim : Sim w E H) (hb : Below w.heap.size w w') {Q : Nat → Prop} (hQ : ∀ b, Q b → w.heap.size ≤ b ∧ b < w'.heap.size) :
 Evo No w E H w' { E with imm := fun x => E.imm x ∨ Q x } H ∧ Sim w' { E with imm := fun x => E.imm x ∨ Q x } H := by
 have old : ∀ {b}, b < w.heap.size → w'.heap[b]? = w.heap[b]? := fun h => hb.block _ h
 have hsz := hb.size
 have ev : Evo No w E H w' { E with imm := fun x => E.imm x ∨ Q x } H := by
  refine ⟨hsz, fun b hb _ _ => old hb, fun b hb => ⟨.inl hb, old (sim.immLt b hb)⟩, fun b hb => ?_, fun k hk => ⟨hk, rfl⟩, fun k sz u hk => ⟨u, hk, Nat.le_refl _, fun _ => ⟨rfl, fun _ => rfl⟩⟩,
   fun k hk => .inr ⟨hk, rfl⟩, Nat.le_refl _, hb.tape, hb.os, hb.output⟩
  rcases hb with hb | hb
  · exact .inl hb
  · exact .inr (hQ _ hb).1
 have hs := ev.sees
 refine ⟨ev, fun b hb => ?_, fun k cs hc => (sim.var k cs hc).mono hs (old (sim.apart k (.inl (var_of_get hc))).2), fun k sz rows u hc => ?_, fun k hk => ⟨?_, ?_⟩, sim.inj, fun j t n hj hl => (sim.note j t n hj hl).same (old (sim.apart _ hl).2), sim.glob.mono hs.imm⟩
 · rcases hb with hb | hb
   · have := sim.immLt b hb; omega
   · exact (hQ _ hb).2
 · obtain ⟨h1, h2, h3, h4⟩ := sim.arr k sz rows u hc
   exact ⟨h1, h2, h3, fun hcap => (h4 hcap).mono hs (old (sim.apart k (.inr ⟨⟨sz, u, arr_of_get hc⟩, hcap⟩)).2)⟩
 · rintro (hb | hb)
   · exact (sim.apart k hk).1 hb
   · have := (sim.apart k hk).2; have := (hQ _ hb).1; simp only at this; omega
 · have := (sim.apart k hk).2; simp only; omega
theorem CallOK.freshV {f : FuncId} {xs : List AVal} {v : AVal} (h : ∀ w E (cs : List Value), Sim w E H → cs.length = xs.length → (∀ j, j < xs.length → Rep w E H (xs.getD j .undef) (cs.getD j undef)) →
 ∃ (Q : World → Nat → Prop) (c : Value), Calls P f cs.toArray w (fun e w' => e = .returned c ∧ Below w.heap.size w w' ∧ (∀ b, Q w' b → w.heap.size ≤ b ∧ b < w'.heap.size) ∧ RepP w' (fun x => E.imm x ∨ Q w' x) v c)) : CallOK P f xs H (.ret v H) := by
 intro w E cs sim hl hr
 obtain ⟨Q, c, h1⟩ := h w E cs sim hl hr
 refine Calls.mono h1 (fun e w' hp => ?_)
 obtain ⟨rfl, hb, hq, h2⟩ := hp
 obtain ⟨ev, sim'⟩ := sim.freshV hb hq
 exact ⟨_, ev, sim', .pure _ _ h2⟩
theorem repP_str {imm : Nat → Prop} {s : List UInt8} {c : Value} (h : RepP w imm (.str s) c) : ∃ b : ByteArray, c = .string b ∧ b.data.toList = s := by
 cases h with | str b => exact ⟨b, rfl, rfl⟩
def ba (s : List UInt8) : ByteArray := ⟨⟨s⟩⟩
theorem ba_size (s : List UInt8) : (ba s).size = s.length := rfl
theorem ba_eq {b : ByteArray} {s : List UInt8} (h : b.data.toList = s) : b = ba s := by
 subst h
 cases b with | mk d => cases d with | mk l => rfl
end
theorem sJoin_ok (full : Bool) (l : List (List UInt8)) (sep : List UInt8) (h1 : l.length ≤ 140737488355328) (h2 : (Lib.join l sep).length ≤ 140737488355328) : CallOK Tryz.prog 42 [encL full encS [] l, .str sep] [] (.ret (.str (Lib.join l sep)) []) := by
 refine CallOK.freshV (fun w E cs sim hl hr => ?_)
 obtain ⟨x, y, rfl⟩ : ∃ x y, cs = [x, y] := by
  match cs, hl with
  | [x, y], _ => exact ⟨x, y, rfl⟩
 obtain ⟨ad, cap, e1, hle, _, hb⟩ := rep_list (hr 0 (by simp))
 obtain ⟨t, e2, e3⟩ := rep_str (hr 1 (by simp))
 replace e1 : x = .slice ad l.length cap := e1
 replace e2 : y = .string t := e2
 have e4 := ba_eq e3
 subst e1 e2
 refine ⟨fun _ _ => False, .string (ba (Lib.join l sep)), ?_⟩
 have fin : ∀ w' : World, RepP w' (fun x => E.imm x ∨ False) (.str (Lib.join l sep)) (.string (ba (Lib.join l sep))) := fun w' => .str (ba (Lib.join l sep))
 cases hn : l with
 | nil =>
  refine (Any.strings_Join_none Tryz.pRen_156 Tryz.pRen_X ad cap t w).mono fun e w' ⟨he, hw⟩ => ⟨?_, hw ▸ Below.refl _ _, fun b h => h.elim, hn ▸ fin w'⟩
  rw [he]; rfl
 | cons a l' =>
  rw [← hn]
  have hne : l.length ≠ 0 := by rw [hn]; simp
  obtain ⟨blk, off, sz, cs, rfl, himm, hsz, hc1, hc2⟩ := hb hne
  have hsz1 : sz = 1 := (hsz 0 (by omega)).symm
  subst hsz1
  have em : (l.map ba).map (fun b : ByteArray => b.data.toList) = l := by
   rw [List.map_map]
   exact List.map_id' l
  have key := Any.strings_Join Tryz.pRen_156 Tryz.pRen_X blk off cap (l.map ba) t w (fun j x hx => by
   rw [List.getElem?_map] at hx
   cases hj : l[j]? with
   | none => rw [hj] at hx; simp at hx
   | some s =>
    rw [hj] at hx
    simp only [Option.map_some, Option.some.injEq] at hx
    have hjl : j < l.length := (List.getElem?_eq_some_iff.1 hj).1
    have g1 := (hc1 j 0 hjl (by omega)).1
    have g2 := hc2 j 0 hjl (by omega)
    have g3 : (encS (l.getD j [])).getD 0 .undef = .str s := by simp [encS, List.getD_eq_getElem?_getD, hj]
    rw [g3] at g2
    obtain ⟨b, h5, h6⟩ := repP_str g2
    rw [← hx, ← ba_eq h6, ← h5]
    have e5 : off + j * 1 + 0 = off + j := by omega
    rw [e5] at g1
    exact g1) (sim.immLt _ himm) (by rw [List.length_map]; exact h1) (by rw [List.length_map]; exact hle) (by rw [em, e3]; exact h2)
  rw [em, e3, List.length_map] at key
  exact key.mono fun e w' ⟨he, hw⟩ => ⟨he, hw, fun b h => h.elim, fin w'⟩
noncomputable def sJoinTold : FSp := mkF (fun xs H => (fullOf (xs.getD 0 .undef), decL decS (xs.getD 0 .undef), aS xs 1)) (fun x => x.2.1.length ≤ 140737488355328 ∧ (Lib.join x.2.1 x.2.2).length ≤ 140737488355328) (fun x => [encL x.1 encS [] x.2.1, .str x.2.2]) (fun _ => [])
 (fun x k => k (.ret (.str (Lib.join x.2.1 x.2.2)) []))
theorem sJoinTold_ok : ∀ xs H k out, sJoinTold xs H k = some out → ∃ o, CallOK Tryz.prog 42 xs H o ∧ k o = some out := mkF_ok fun x h => ⟨_, fun k => rfl, sJoin_ok _ _ _ h.1 h.2⟩
end Go.Mu
namespace Go.Mu
open Go Go.Proofs Go.RowKit Go.Shelf
theorem tabs_of {w : World} {imm : Nat → Prop} (h : GlobOK w imm) : Lib.Utf8Tabs 1 2 w := by
 have key : ∀ g (cells : List AVal) (f : Nat → Nat) n, gvals g = some cells → cells.length = n → (∀ j, j < n → cells.getD j .undef = .int .u8 (f j)) → ∀ j, j < n → w.cell? ⟨g, j, none⟩ = some (.int .u8 (f j)) := by
  intro g cells f n hg hl hc j hj
  have hr := h.2 g cells hg
  obtain ⟨cs, h1, h2⟩ : ∃ cs : Nat → Value, (∀ j, j < cells.length → w.cell? ⟨g, 0 + j, none⟩ = some (cs j) ∧ (cs j).oneCell' = true) ∧ (∀ j, j < cells.length → RepP w imm (cells.getD j .undef) (cs j)) := by
   cases hr with
   | rptr _ _ _ cs _ h2 h3 => exact ⟨cs, h2, h3⟩
  have hx := (h1 j (by omega)).1
  have hy := h2 j (by omega)
  rw [hc j hj] at hy
  rw [Nat.zero_add] at hx
  rw [hx]
  generalize cs j = c at hy
  cases hy
  rfl
 refine ⟨fun c hc => ?_, fun i hi => ?_⟩
 · refine key 1 _ Lib.firstT 256 (by rfl) (by simp) (fun j hj => ?_) c hc
   simp [List.getD, hj]
 · have k2 := key 2 _ (fun j => if j % 2 = 0 then Lib.accLo (j / 2) else Lib.accHi (j / 2)) 32 (by rfl) (by simp) (fun j hj => by
    simp only [List.getD, List.getElem?_map, List.getElem?_range hj, Option.map_some, Option.getD_some]
    split <;> rfl)
   have a := k2 (2 * i) (by omega)
   have b := k2 (2 * i + 1) (by omega)
   simp only [show 2 * i % 2 = 0 by omega, show 2 * i / 2 = i by omega, show (2 * i + 1) % 2 ≠ 0 by omega, show (2 * i + 1) / 2 = i by omega, if_true, if_false] at a b
   exact ⟨a, by simpa using b⟩
theorem uDec (t : ByteArray) (w W : World) {imm : Nat → Prop} (h : GlobOK w imm) (hi : ∀ b, imm b → b < w.heap.size) (hb : Below w.heap.size w W) : DecAt W t := by
 have hT := Utf8Tabs_below (tabs_of h) hb
 exact Any.utf8_DecodeRuneInString Tryz.uRen_197 t W hT
theorem rep_ok (s : List UInt8) (hs : s.length ≤ 17592186044416) : CallOK Tryz.prog 35 [.str s] [] (.ret (.str (repF s.length ⟨s.toArray⟩)) []) := by
 refine CallOK.below (fun w E cs sim hl hr => ?_)
 obtain ⟨x, rfl⟩ : ∃ x, cs = [x] := by
  match cs, hl with
  | [x], _ => exact ⟨x, rfl⟩
 obtain ⟨b, e1, e2⟩ := rep_str (hr 0 (by simp))
 replace e1 : x = .string b := e1
 subst e1
 rw [ba_eq e2]
 have hsz : (ba s).size = s.length := by simp [ba, ByteArray.size]
 refine ⟨.string ⟨(repF s.length (ba s)).toArray⟩, ?_, .pure _ _ (.str (ba (repF s.length (ba s))))⟩
 have := uRepair (fun _ => True) (fun _ _ _ => trivial) (ba s) w trivial (by omega) (fun t W _ _ hb => uDec t w W sim.glob sim.immLt hb)
 rwa [hsz] at this
def repB (s : List UInt8) : List UInt8 := repF s.length ⟨s.toArray⟩
def repTTold : FSp := mkFS [.s] (fun xs => decide ((aS xs 0).length ≤ 17592186044416)) (fun xs k => k (.ret (.str (repB (aS xs 0))) []))
theorem repTTold_ok : ∀ xs H k out, repTTold xs H k = some out → ∃ o, CallOK Tryz.prog 35 xs H o ∧ k o = some out := mkFS_ok fun ys xs e h => by
 obtain ⟨s, rfl⟩ : ∃ s, xs = [.str s] := ⟨_, e⟩
 rw [decide_eq_true_eq] at h
 exact ⟨_, fun k => rfl, rep_ok s h⟩
end Go.Mu
namespace Go.Mu
open Go Go.Proofs
theorem hex2_fun (n : Int) (k : Out → Ans) : iFun Tryz.prog (Lay.nil.hd Tryz.prog) Lay.nil.fhs 9 104 [.int .i64 n, .int .i64 2] [] k = (
 let n0 : Int := IntKind.u64.wrap (↑(BitVec.ofInt 64 ((IntKind.u64.wrap n).fdiv 1) &&& BitVec.ofInt 64 15).toNat : Int);
 let n1 : Int := IntKind.u64.wrap (↑(BitVec.ofInt 64 ((IntKind.u64.wrap n).fdiv 16) &&& BitVec.ofInt 64 15).toNat : Int);
 let z0 := ([48, 49, 50, 51, 52, 53, 54, 55, 56, 57, 97, 98, 99, 100, 101, 102] : List UInt8);
 let z1 := [AVal.int .u8 (↑(z0.getD n1.toNat 0).toNat : Int)];
 let z2 := [AVal.int .u8 (↑(z0.getD n0.toNat 0).toNat : Int)];
  bif decide (n0 < 16) then bif decide (n1 < 16) then k (Out.ret (AVal.str [byteOf z1, byteOf z2]) [Obj.arr 1 [z1, z2] 0]) else none else none) := by kernel_rfl
theorem hex4_fun (n : Int) (k : Out → Ans) : iFun Tryz.prog (Lay.nil.hd Tryz.prog) Lay.nil.fhs 9 104 [.int .i64 n, .int .i64 4] [] k = (
 let n0 : Int := IntKind.u64.wrap (↑(BitVec.ofInt 64 ((IntKind.u64.wrap n).fdiv 1) &&& BitVec.ofInt 64 15).toNat : Int);
 let n1 : Int := IntKind.u64.wrap (↑(BitVec.ofInt 64 ((IntKind.u64.wrap n).fdiv 16) &&& BitVec.ofInt 64 15).toNat : Int);
 let n2 : Int := IntKind.u64.wrap (↑(BitVec.ofInt 64 ((IntKind.u64.wrap n).fdiv 256) &&& BitVec.ofInt 64 15).toNat : Int);
 let n3 : Int := IntKind.u64.wrap (↑(BitVec.ofInt 64 ((IntKind.u64.wrap n).fdiv 4096) &&& BitVec.ofInt 64 15).toNat : Int);
 let z0 := ([48, 49, 50, 51, 52, 53, 54, 55, 56, 57, 97, 98, 99, 100, 101, 102] : List UInt8);
 let z1 := [AVal.int .u8 (↑(z0.getD n3.toNat 0).toNat : Int)];
 let z2 := [AVal.int .u8 (↑(z0.getD n2.toNat 0).toNat : Int)];
 let z3 := [AVal.int .u8 (↑(z0.getD n1.toNat 0).toNat : Int)];
 let z4 := [AVal.int .u8 (↑(z0.getD n0.toNat 0).toNat : Int)];
  bif decide (n0 < 16) then bif decide (n1 < 16) then bif decide (n2 < 16) then bif decide (n3 < 16) then k (Out.ret (AVal.str [byteOf z1, byteOf z2, byteOf z3, byteOf z4]) [Obj.arr 1 [z1, z2, z3, z4] 0]) else none else none else none else none) := by kernel_rfl
def hexTold (X : Int → Int → List UInt8) : FSp := mkFS [.i .i64, .i .i64] (fun xs => decide (0 ≤ aI xs 0 ∧ (aI xs 1 = 2 ∧ aI xs 0 ≤ 255 ∨ aI xs 1 = 4 ∧ aI xs 0 ≤ 65535))) (fun xs k => k (.ret (.str (X (aI xs 0) (aI xs 1))) []))
def urpTold (R : List UInt8 → List UInt8) : FSp := mkFS [.s] (fun xs => decide ((aS xs 0).length ≤ 17592186044416)) (fun xs k => k (.ret (.str (R (aS xs 0))) []))
noncomputable def layEs0 (R : List UInt8 → List UInt8) : Lay := b0_lay (Lay.nil.addF 35 (urpTold R))
noncomputable def escSp (E : Bld → List UInt8 → Bld) : LSp := mkL (fun vs _ H => (bld H 0 2, decL decB (vs.getD 1 .undef), (aI vs 3).toNat, fullOf (vs.getD 1 .undef))) (fun x => x.1.can 0 2 ∧ x.1.t.length = 0 ∧ x.2.2.1 = 0 ∧ x.2.1.length ≤ 107374182) (fun x => [.ptr (.hp 0) 0, byL x.2.2.2 x.2.1, .int .i64 x.2.1.length, .int .i64 x.2.2.1]) (fun _ => []) (fun x => (b0H.mk x.1).heap)
 (fun x k => k (.exit 0) [.ptr (.hp 0) 0] [] (b0H.mk (E x.1 x.2.1)).heap)
noncomputable def escFH (E : Bld → List UInt8 → Bld) : FH := { FH.of [(3, loopSpec 37 [3,8,9,10] [] [3] [] (escSp E))] with heap := [3], typed := [(3, [(0, bT)])], exact := true }
theorem esc_step (R : List UInt8 → List UInt8) (E : Bld → List UInt8 → Bld) (x : Bld) (f : Bool) (l : List UInt8) (n i : Int) (D : List (FuncId × List AVal)) (k : Kont) (n0 : Int) (e_n0 : n0 = ((↑(l.getD i.toNat 0).toNat : Int)))
 (l1 : List UInt8) (e_l1 : l1 = ((Bld.mk x.ad x.b x.rows x.v).t))
 (m2 : Nat) (e_m2 : m2 = (l1.length))
 (m3 : Nat) (e_m3 : m3 = (wsV l1 [38, 97, 109, 112, 59] x.v))
 (m4 : Nat) (e_m4 : m4 = (wsV l1 [38, 108, 116, 59] x.v))
 (m5 : Nat) (e_m5 : m5 = (wsV l1 [38, 103, 116, 59] x.v))
 (m6 : Nat) (e_m6 : m6 = (wsV l1 [38, 35, 51, 52, 59] x.v))
 (m7 : Nat) (e_m7 : m7 = (wsV l1 [38, 35, 51, 57, 59] x.v))
 (m8 : Nat) (e_m8 : m8 = (wsV l1 [38, 35, 52, 51, 59] x.v))
 (v9 : UInt8) (e_v9 : v9 = (UInt8.ofNat n0.toNat))
 (l10 : List UInt8) (e_l10 : l10 = ([v9]))
 (m11 : Nat) (e_m11 : m11 = (wsV l1 l10 x.v)) : lturn Tryz.prog (layEs0 R) (escFH E) 20 3 [3,8,9,10] [] [3] [] (stL 37 [3,8,9,10] [.ptr (.hp 0) 0, byL f l, .int .i64 n, .int .i64 i] [] [] (b0H.mk x).heap D) k = (
 let z0 := Bld.mk x.ad x.b x.rows x.v;
 let z1 := Bld.can 0 2 z0 ∧ m2 + 5 ≤ 1099511627776;
 let z2 := [AVal.ptr (Oid.hp 0) 0, AVal.str [38, 97, 109, 112, 59]];
 let z3 := [AVal.ptr (Oid.hp 0) 0, AVal.str [38, 35, 51, 52, 59]];
 let z4 := [AVal.ptr (Oid.hp 0) 0, AVal.str [38, 35, 51, 57, 59]];
 let z5 := [AVal.ptr (Oid.hp 0) 0, AVal.str [38, 35, 52, 51, 59]];
 let z6 := [AVal.ptr (Oid.hp 0) 0, AVal.str [38, 108, 116, 59]];
 let z7 := [AVal.ptr (Oid.hp 0) 0, AVal.str [38, 103, 116, 59]];
  bif decide (i < n) then bif decide (0 ≤ i) && decide (i < (↑l.length : Int)) then bif n0 == 38 then bif tst (z1 ∧ SubL z2 z2 ∧ (b0H.mk x).heap = (b0H.mk z0).heap) then k AExit.normal (stL 37 [3, 8, 9, 10] [AVal.ptr (Oid.hp 0) 0, AVal.list f l.length fun (i : Nat) => [AVal.int .u8 (↑(l.getD i 0).toNat : Int)], AVal.int .i64 n, AVal.int .i64 (IntKind.i64.wrap (i + 1))] [] [] (b0H.mk (Bld.mk (AVal.ptr (Oid.hp 0) 0) (bfB 2 (l1.append [38, 97, 109, 112, 59]) m3) (x.rows.append [[AVal.int .u8 38], [AVal.int .u8 97], [AVal.int .u8 109], [AVal.int .u8 112], [AVal.int .u8 59]]) m3)).heap D) else none else bif n0 == 60 then bif tst ((Bld.can 0 2 z0 ∧ m2 + 4 ≤ 1099511627776) ∧ SubL z6 z6 ∧ (b0H.mk x).heap = (b0H.mk z0).heap) then k AExit.normal (stL 37 [3, 8, 9, 10] [AVal.ptr (Oid.hp 0) 0, AVal.list f l.length fun (i : Nat) => [AVal.int .u8 (↑(l.getD i 0).toNat : Int)], AVal.int .i64 n, AVal.int .i64 (IntKind.i64.wrap (i + 1))] [] [] (b0H.mk (Bld.mk (AVal.ptr (Oid.hp 0) 0) (bfB 2 (l1.append [38, 108, 116, 59]) m4) (x.rows.append [[AVal.int .u8 38], [AVal.int .u8 108], [AVal.int .u8 116], [AVal.int .u8 59]]) m4)).heap D) else none else bif n0 == 62 then bif tst ((Bld.can 0 2 z0 ∧ m2 + 4 ≤ 1099511627776) ∧ SubL z7 z7 ∧ (b0H.mk x).heap = (b0H.mk z0).heap) then k AExit.normal (stL 37 [3, 8, 9, 10] [AVal.ptr (Oid.hp 0) 0, AVal.list f l.length fun (i : Nat) => [AVal.int .u8 (↑(l.getD i 0).toNat : Int)], AVal.int .i64 n, AVal.int .i64 (IntKind.i64.wrap (i + 1))] [] [] (b0H.mk (Bld.mk (AVal.ptr (Oid.hp 0) 0) (bfB 2 (l1.append [38, 103, 116, 59]) m5) (x.rows.append [[AVal.int .u8 38], [AVal.int .u8 103], [AVal.int .u8 116], [AVal.int .u8 59]]) m5)).heap D) else none else bif n0 == 34 then bif tst (z1 ∧ SubL z3 z3 ∧ (b0H.mk x).heap = (b0H.mk z0).heap) then k AExit.normal (stL 37 [3, 8, 9, 10] [AVal.ptr (Oid.hp 0) 0, AVal.list f l.length fun (i : Nat) => [AVal.int .u8 (↑(l.getD i 0).toNat : Int)], AVal.int .i64 n, AVal.int .i64 (IntKind.i64.wrap (i + 1))] [] [] (b0H.mk (Bld.mk (AVal.ptr (Oid.hp 0) 0) (bfB 2 (l1.append [38, 35, 51, 52, 59]) m6) (x.rows.append [[AVal.int .u8 38], [AVal.int .u8 35], [AVal.int .u8 51], [AVal.int .u8 52], [AVal.int .u8 59]]) m6)).heap D) else none else bif n0 == 39 then bif tst (z1 ∧ SubL z4 z4 ∧ (b0H.mk x).heap = (b0H.mk z0).heap) then k AExit.normal (stL 37 [3, 8, 9, 10] [AVal.ptr (Oid.hp 0) 0, AVal.list f l.length fun (i : Nat) => [AVal.int .u8 (↑(l.getD i 0).toNat : Int)], AVal.int .i64 n, AVal.int .i64 (IntKind.i64.wrap (i + 1))] [] [] (b0H.mk (Bld.mk (AVal.ptr (Oid.hp 0) 0) (bfB 2 (l1.append [38, 35, 51, 57, 59]) m7) (x.rows.append [[AVal.int .u8 38], [AVal.int .u8 35], [AVal.int .u8 51], [AVal.int .u8 57], [AVal.int .u8 59]]) m7)).heap D) else none else bif n0 == 43 then bif tst (z1 ∧ SubL z5 z5 ∧ (b0H.mk x).heap = (b0H.mk z0).heap) then k AExit.normal (stL 37 [3, 8, 9, 10] [AVal.ptr (Oid.hp 0) 0, AVal.list f l.length fun (i : Nat) => [AVal.int .u8 (↑(l.getD i 0).toNat : Int)], AVal.int .i64 n, AVal.int .i64 (IntKind.i64.wrap (i + 1))] [] [] (b0H.mk (Bld.mk (AVal.ptr (Oid.hp 0) 0) (bfB 2 (l1.append [38, 35, 52, 51, 59]) m8) (x.rows.append [[AVal.int .u8 38], [AVal.int .u8 35], [AVal.int .u8 52], [AVal.int .u8 51], [AVal.int .u8 59]]) m8)).heap D) else none else bif tst ((Bld.can 0 2 z0 ∧ m2 ≤ 1073741824) ∧ SubL [AVal.ptr (Oid.hp 0) 0, AVal.int .u8 n0] [AVal.ptr (Oid.hp 0) 0, AVal.int .u8 (↑v9.toNat : Int)] ∧ (b0H.mk x).heap = (b0H.mk z0).heap) then k AExit.normal (stL 37 [3, 8, 9, 10] [AVal.ptr (Oid.hp 0) 0, AVal.list f l.length fun (i : Nat) => [AVal.int .u8 (↑(l.getD i 0).toNat : Int)], AVal.int .i64 n, AVal.int .i64 (IntKind.i64.wrap (i + 1))] [] [] (b0H.mk (Bld.mk (AVal.ptr (Oid.hp 0) 0) (bfB 2 (l1.append l10) m11) (x.rows.append [[AVal.int .u8 (↑v9.toNat : Int)]]) m11)).heap D) else none else none else k (AExit.exit 0) (stL 37 [3] [AVal.ptr (Oid.hp 0) 0] [] [] (b0H.mk x).heap D)) := by
  subst e_n0 e_l1 e_m2 e_m3 e_m4 e_m5 e_m6 e_m7 e_m8 e_v9 e_l10 e_m11
  kernel_rfl
noncomputable def layEs (R : List UInt8 → List UInt8) (E : Bld → List UInt8 → Bld) : Lay := (layEs0 R).addL 20 (escFH E)
theorem esc_fun (R : List UInt8 → List UInt8) (E : Bld → List UInt8 → Bld) (s : List UInt8) (k : Out → Ans) (l0 : List UInt8) (e_l0 : l0 = (decL (fun (r : List AVal) => byteOf r)
 (AVal.list false (R s).length fun (i : Nat) => [AVal.int .u8 (↑((R s).getD i 0).toNat : Int)])))
 (m1 : Nat) (e_m1 : m1 = (l0.length))
 (m2 : Nat) (e_m2 : m2 = ((E (Bld.mk AVal.nilptr AVal.nilX [] 0) l0).v))
 (l3 : List UInt8) (e_l3 : l3 = ((Bld.mk (E (Bld.mk AVal.nilptr AVal.nilX [] 0) l0).ad (E (Bld.mk AVal.nilptr AVal.nilX [] 0) l0).b
  (E (Bld.mk AVal.nilptr AVal.nilX [] 0) l0).rows m2).t)) : iFun Tryz.prog ((layEs R E).hd Tryz.prog) (layEs R E).fhs 0 20 [.str s] [] k = (
 let z0 := Bld.mk AVal.nilptr AVal.nilX [] 0;
 let z1 := Bld.mk (E z0 l0).ad (E z0 l0).b (E z0 l0).rows m2;
 bif decide (s.length ≤ 17592186044416) then bif tst ((Bld.can 0 2 z0 ∧ 0 = 0 ∧ Int.toNat 0 = 0 ∧ m1 ≤ 107374182) ∧ SubTL [AVal.ptr (Oid.hp 0) 0, AVal.list false (R s).length fun (i : Nat) => [AVal.int .u8 (↑((R s).getD i 0).toNat : Int)], AVal.int .i64 (↑(R s).length : Int), AVal.int .i64 0] [AVal.ptr (Oid.hp 0) 0, byL false l0, AVal.int .i64 (↑m1 : Int), AVal.int .i64 (↑(Int.toNat 0) : Int)] ∧ ([] : List (List AVal)) = [] ∧ [Obj.var [AVal.nilptr, AVal.nilX], Obj.note 71 2, Obj.arr 1 [] 0, Obj.note 5 0] = (b0H.mk z0).heap) then bif tst ((Bld.can 0 2 z1 ∧ l3.length ≤ 1099511627776) ∧ SubL [AVal.ptr (Oid.hp 0) 0] [AVal.ptr (Oid.hp 0) 0] ∧ (b0H.mk (E z0 l0)).heap = (b0H.mk z1).heap) then k (Out.ret (AVal.str l3) (b0H.mk (Bld.mk (E z0 l0).ad (E z0 l0).b [] (bif l3 == [] then m2 else m2 + 1))).heap) else none else none else none) := by
  subst e_l0 e_m1 e_m2 e_l3
  kernel_rfl
noncomputable def layPm : Lay := (Lay.nil.addF 103 ibTold).addF 109 unhexTold
theorem mayN_fun (s : List UInt8) (i : Int) (k : Out → Ans) : iFun Tryz.prog (layPm.hd Tryz.prog) layPm.fhs 0 74 [.str s, .int .i64 i] [] k = (
 let n0 : Int := (↑s.length : Int);
 let c1 : Bool := decide (0 ≤ i) && decide (i < n0);
 let n2 : Int := (↑(s.getD i.toNat 0).toNat : Int);
 let n3 : Int := IntKind.u8.wrap (↑(BitVec.ofInt 8 n2 ||| BitVec.ofInt 8 32).toNat : Int);
 let c4 : Bool := bif bif bif decide (n3 ≥ 97) then decide (n3 ≤ 122) else false then true else bif decide (n2 ≥ 48) then decide (n2 ≤ 57) else false then true else decide (ibM [45, 46, 95, 126] n2 ≥ 0);
 let c5 : Bool := bif c4 then true else decide (ibM [33, 35, 36, 38, 42, 43, 44, 47, 58, 59, 61, 63, 64, 91, 93] n2 ≥ 0);
 let n6 : Int := IntKind.i64.wrap (i + 1);
 let n7 : Int := IntKind.i64.wrap (i + 3);
  bif c1 then bif c1 || !!c4 then bif c1 then bif bif n2 != 37 then true else decide (IntKind.i64.wrap (n0 - i) < 3) then k (Out.ret (AVal.bool (bif c5 then true else false)) []) else bif decide (0 ≤ n6) && decide (n6 ≤ n7) && decide (n7 ≤ n0) then k (Out.ret (AVal.bool (bif c5 then true else (unhexM (List.drop n6.toNat (List.take n7.toNat s))).snd == 0)) []) else none else none else none else none) := by kernel_rfl
theorem mayE_fun (s : List UInt8) (i : Int) (k : Out → Ans) : iFun Tryz.prog (layPm.hd Tryz.prog) layPm.fhs 0 78 [.str s, .int .i64 i] [] k = (
 let n0 : Int := (↑(s.getD i.toNat 0).toNat : Int);
 let n1 : Int := IntKind.u8.wrap (↑(BitVec.ofInt 8 n0 ||| BitVec.ofInt 8 32).toNat : Int);
  bif decide (0 ≤ i) && decide (i < (↑s.length : Int)) then k (Out.ret (AVal.bool (bif bif bif decide (n1 ≥ 97) then decide (n1 ≤ 122) else false then true else bif decide (n0 ≥ 48) then decide (n0 ≤ 57) else false then true else decide (ibM [45, 46, 95, 126] n0 ≥ 0))) []) else none) := by kernel_rfl
def mayTold (M : List UInt8 → Int → Bool) : FSp := mkFS [.s, .i .i64] (fun xs => decide (0 ≤ aI xs 1 ∧ aI xs 1 < (aS xs 0).length ∧ (aS xs 0).length ≤ 1099511627776)) (fun xs k => k (.ret (.bool (M (aS xs 0) (aI xs 1))) []))
noncomputable def wrSp (g : FuncId) (E : Bld → List UInt8 → Bld) : LSp := mkL (fun vs _ H => (bld H 0 2, aS vs 0, (aI vs 4).toNat)) (fun x => x.1.can 0 2 ∧ x.1.t.length = 0 ∧ x.2.2 = 0 ∧ x.2.1.length ≤ 268435456) (fun x => [.str x.2.1, .func g [], .ptr (.hp 0) 0, .int .i64 x.2.1.length, .int .i64 x.2.2]) (fun _ => []) (fun x => (b0H.mk x.1).heap)
 (fun x k => k (.exit 0) [.ptr (.hp 0) 0] [] (b0H.mk (E x.1 x.2.1)).heap)
noncomputable def wrFH (g : FuncId) (E : Bld → List UInt8 → Bld) : FH := { FH.of [(3, loopSpec 29 [0,1,5,8,9] [] [5] [] (wrSp g E))] with heap := [5], typed := [(5, [(0, bT)])], exact := true }
noncomputable def layWn0 (X : Int → Int → List UInt8) (M : List UInt8 → Int → Bool) (R : List UInt8 → List UInt8) : Lay := b0_lay (((Lay.nil.addF 104 (hexTold X)).addF 74 (mayTold M)).addF 35 (urpTold R))
noncomputable def layWe0 (X : Int → Int → List UInt8) (M : List UInt8 → Int → Bool) (R : List UInt8 → List UInt8) : Lay := b0_lay (((Lay.nil.addF 104 (hexTold X)).addF 78 (mayTold M)).addF 35 (urpTold R))
theorem wn_step (X : Int → Int → List UInt8) (M : List UInt8 → Int → Bool) (R : List UInt8 → List UInt8) (E : Bld → List UInt8 → Bld) (x : Bld) (s : List UInt8) (n i : Int) (D : List (FuncId × List AVal)) (k : Kont) (c0 : Bool) (e_c0 : c0 = (decide (0 ≤ i) && decide (i < (↑s.length : Int))))
 (l1 : List UInt8) (e_l1 : l1 = ((Bld.mk x.ad x.b x.rows x.v).t))
 (n2 : Int) (e_n2 : n2 = ((↑(s.getD i.toNat 0).toNat : Int)))
 (v3 : UInt8) (e_v3 : v3 = (UInt8.ofNat n2.toNat))
 (l4 : List UInt8) (e_l4 : l4 = ([v3]))
 (m5 : Nat) (e_m5 : m5 = (wsV l1 l4 x.v))
 (n6 : Int) (e_n6 : n6 = (IntKind.i64.wrap n2))
 (m7 : Nat) (e_m7 : m7 = (wsV l1 [UInt8.ofNat (Int.toNat 37)] x.v))
 (l8 : List UInt8) (e_l8 : l8 = ((Bld.mk (AVal.ptr (Oid.hp 0) 0) (bfB 2 (l1.append [UInt8.ofNat (Int.toNat 37)]) m7)
  (x.rows.append [[AVal.int .u8 (↑(UInt8.ofNat (Int.toNat 37)).toNat : Int)]]) m7).t))
 (l9 : List UInt8) (e_l9 : l9 = (X n6 2))
 (m10 : Nat) (e_m10 : m10 = (wsV l8 l9 m7)) : lturn Tryz.prog (layWn0 X M R) (wrFH 74 E) 73 3 [0,1,5,8,9] [] [5] [] (stL 29 [0,1,5,8,9] [.str s, .func 74 [], .ptr (.hp 0) 0, .int .i64 n, .int .i64 i] [] [] (b0H.mk x).heap D) k = (
 let z2 := x.rows.append [[AVal.int .u8 (↑(UInt8.ofNat (Int.toNat 37)).toNat : Int)]];
 let z0 := Bld.mk (AVal.ptr (Oid.hp 0) 0) (bfB 2 (l1.append [UInt8.ofNat (Int.toNat 37)]) m7) z2 m7;
 let z1 := [AVal.str s, AVal.func 74 [], AVal.ptr (Oid.hp 0) 0, AVal.int .i64 n, AVal.int .i64 (IntKind.i64.wrap (i + 1))];
 let z3 := Bld.mk x.ad x.b x.rows x.v;
  bif decide (i < n) then bif decide (0 ≤ i ∧ i < (↑s.length : Int) ∧ s.length ≤ 1099511627776) then bif M s i then bif c0 then bif tst ((Bld.can 0 2 z3 ∧ l1.length ≤ 1073741824) ∧ SubL [AVal.ptr (Oid.hp 0) 0, AVal.int .u8 n2] [AVal.ptr (Oid.hp 0) 0, AVal.int .u8 (↑v3.toNat : Int)] ∧ (b0H.mk x).heap = (b0H.mk z3).heap) then k AExit.normal (stL 29 [0, 1, 5, 8, 9] z1 [] [] (b0H.mk (Bld.mk (AVal.ptr (Oid.hp 0) 0) (bfB 2 (l1.append l4) m5) (x.rows.append [[AVal.int .u8 (↑v3.toNat : Int)]]) m5)).heap D) else none else none else bif tst ((Bld.can 0 2 z3 ∧ l1.length ≤ 1073741824) ∧ SubL [AVal.ptr (Oid.hp 0) 0, AVal.int .u8 37] [AVal.ptr (Oid.hp 0) 0, AVal.int .u8 (↑(UInt8.ofNat (Int.toNat 37)).toNat : Int)] ∧ (b0H.mk x).heap = (b0H.mk z3).heap) then bif c0 then bif decide (0 ≤ n6 ∧ ((2 : Int) = 2 ∧ n6 ≤ 255 ∨ (2 : Int) = 4 ∧ n6 ≤ 65535)) then bif tst ((Bld.can 0 2 z0 ∧ l8.length + l9.length ≤ 1099511627776) ∧ SubL [AVal.ptr (Oid.hp 0) 0, AVal.str l9] [AVal.ptr (Oid.hp 0) 0, AVal.str l9] ∧ (b0H.mk z0).heap = (b0H.mk z0).heap) then k AExit.normal (stL 29 [0, 1, 5, 8, 9] z1 [] [] (b0H.mk (Bld.mk (AVal.ptr (Oid.hp 0) 0) (bfB 2 (l8.append l9) m10) (z2.append (List.map (fun (c : UInt8) => [AVal.int .u8 (↑c.toNat : Int)]) l9)) m10)).heap D) else none else none else none else none else none else k (AExit.exit 0) (stL 29 [5] [AVal.ptr (Oid.hp 0) 0] [] [] (b0H.mk x).heap D)) := by
  subst e_c0 e_l1 e_n2 e_v3 e_l4 e_m5 e_n6 e_m7 e_l8 e_l9 e_m10
  kernel_rfl
theorem we_step (X : Int → Int → List UInt8) (M : List UInt8 → Int → Bool) (R : List UInt8 → List UInt8) (E : Bld → List UInt8 → Bld) (x : Bld) (s : List UInt8) (n i : Int) (D : List (FuncId × List AVal)) (k : Kont) (c0 : Bool) (e_c0 : c0 = (decide (0 ≤ i) && decide (i < (↑s.length : Int))))
 (l1 : List UInt8) (e_l1 : l1 = ((Bld.mk x.ad x.b x.rows x.v).t))
 (n2 : Int) (e_n2 : n2 = ((↑(s.getD i.toNat 0).toNat : Int)))
 (v3 : UInt8) (e_v3 : v3 = (UInt8.ofNat n2.toNat))
 (l4 : List UInt8) (e_l4 : l4 = ([v3]))
 (m5 : Nat) (e_m5 : m5 = (wsV l1 l4 x.v))
 (n6 : Int) (e_n6 : n6 = (IntKind.i64.wrap n2))
 (m7 : Nat) (e_m7 : m7 = (wsV l1 [UInt8.ofNat (Int.toNat 37)] x.v))
 (l8 : List UInt8) (e_l8 : l8 = ((Bld.mk (AVal.ptr (Oid.hp 0) 0) (bfB 2 (l1.append [UInt8.ofNat (Int.toNat 37)]) m7)
  (x.rows.append [[AVal.int .u8 (↑(UInt8.ofNat (Int.toNat 37)).toNat : Int)]]) m7).t))
 (l9 : List UInt8) (e_l9 : l9 = (X n6 2))
 (m10 : Nat) (e_m10 : m10 = (wsV l8 l9 m7)) : lturn Tryz.prog (layWe0 X M R) (wrFH 78 E) 73 3 [0,1,5,8,9] [] [5] [] (stL 29 [0,1,5,8,9] [.str s, .func 78 [], .ptr (.hp 0) 0, .int .i64 n, .int .i64 i] [] [] (b0H.mk x).heap D) k = (
 let z2 := x.rows.append [[AVal.int .u8 (↑(UInt8.ofNat (Int.toNat 37)).toNat : Int)]];
 let z0 := Bld.mk (AVal.ptr (Oid.hp 0) 0) (bfB 2 (l1.append [UInt8.ofNat (Int.toNat 37)]) m7) z2 m7;
 let z1 := [AVal.str s, AVal.func 78 [], AVal.ptr (Oid.hp 0) 0, AVal.int .i64 n, AVal.int .i64 (IntKind.i64.wrap (i + 1))];
 let z3 := Bld.mk x.ad x.b x.rows x.v;
  bif decide (i < n) then bif decide (0 ≤ i ∧ i < (↑s.length : Int) ∧ s.length ≤ 1099511627776) then bif M s i then bif c0 then bif tst ((Bld.can 0 2 z3 ∧ l1.length ≤ 1073741824) ∧ SubL [AVal.ptr (Oid.hp 0) 0, AVal.int .u8 n2] [AVal.ptr (Oid.hp 0) 0, AVal.int .u8 (↑v3.toNat : Int)] ∧ (b0H.mk x).heap = (b0H.mk z3).heap) then k AExit.normal (stL 29 [0, 1, 5, 8, 9] z1 [] [] (b0H.mk (Bld.mk (AVal.ptr (Oid.hp 0) 0) (bfB 2 (l1.append l4) m5) (x.rows.append [[AVal.int .u8 (↑v3.toNat : Int)]]) m5)).heap D) else none else none else bif tst ((Bld.can 0 2 z3 ∧ l1.length ≤ 1073741824) ∧ SubL [AVal.ptr (Oid.hp 0) 0, AVal.int .u8 37] [AVal.ptr (Oid.hp 0) 0, AVal.int .u8 (↑(UInt8.ofNat (Int.toNat 37)).toNat : Int)] ∧ (b0H.mk x).heap = (b0H.mk z3).heap) then bif c0 then bif decide (0 ≤ n6 ∧ ((2 : Int) = 2 ∧ n6 ≤ 255 ∨ (2 : Int) = 4 ∧ n6 ≤ 65535)) then bif tst ((Bld.can 0 2 z0 ∧ l8.length + l9.length ≤ 1099511627776) ∧ SubL [AVal.ptr (Oid.hp 0) 0, AVal.str l9] [AVal.ptr (Oid.hp 0) 0, AVal.str l9] ∧ (b0H.mk z0).heap = (b0H.mk z0).heap) then k AExit.normal (stL 29 [0, 1, 5, 8, 9] z1 [] [] (b0H.mk (Bld.mk (AVal.ptr (Oid.hp 0) 0) (bfB 2 (l8.append l9) m10) (z2.append (List.map (fun (c : UInt8) => [AVal.int .u8 (↑c.toNat : Int)]) l9)) m10)).heap D) else none else none else none else none else none else k (AExit.exit 0) (stL 29 [5] [AVal.ptr (Oid.hp 0) 0] [] [] (b0H.mk x).heap D)) := by
  subst e_c0 e_l1 e_n2 e_v3 e_l4 e_m5 e_n6 e_m7 e_l8 e_l9 e_m10
  kernel_rfl
noncomputable def layWn (X : Int → Int → List UInt8) (M : List UInt8 → Int → Bool) (R : List UInt8 → List UInt8) (E : Bld → List UInt8 → Bld) : Lay := (layWn0 X M R).addL 73 (wrFH 74 E)
noncomputable def layWe (X : Int → Int → List UInt8) (M : List UInt8 → Int → Bool) (R : List UInt8 → List UInt8) (E : Bld → List UInt8 → Bld) : Lay := (layWe0 X M R).addL 73 (wrFH 78 E)
theorem norm_fun (X : Int → Int → List UInt8) (M : List UInt8 → Int → Bool) (R : List UInt8 → List UInt8) (E : Bld → List UInt8 → Bld) (s : List UInt8) (k : Out → Ans) (l0 : List UInt8) (e_l0 : l0 = ((Bld.mk (E (Bld.mk AVal.nilptr AVal.nilX [] 0) (R s)).ad (E (Bld.mk AVal.nilptr AVal.nilX [] 0) (R s)).b
 (E (Bld.mk AVal.nilptr AVal.nilX [] 0) (R s)).rows (E (Bld.mk AVal.nilptr AVal.nilX [] 0) (R s)).v).t)) : iFun Tryz.prog ((layWn X M R E).hd Tryz.prog) (layWn X M R E).fhs 0 44 [.str s] [] k = (
 let z1 := Bld.mk AVal.nilptr AVal.nilX [] 0;
 let z0 := E z1 (R s);
 bif decide (s.length ≤ 17592186044416) then bif tst ((Bld.can 0 2 z1 ∧ 0 = 0 ∧ Int.toNat 0 = 0 ∧ (R s).length ≤ 268435456) ∧ SubTL [AVal.str (R s), AVal.func 74 [], AVal.ptr (Oid.hp 0) 0, AVal.int .i64 (↑(R s).length : Int), AVal.int .i64 0] [AVal.str (R s), AVal.func 74 [], AVal.ptr (Oid.hp 0) 0, AVal.int .i64 (↑(R s).length : Int), AVal.int .i64 (↑(Int.toNat 0) : Int)] ∧ ([] : List (List AVal)) = [] ∧ [Obj.var [AVal.nilptr, AVal.nilX], Obj.note 71 2, Obj.arr 1 [] 0, Obj.note 5 0] = (b0H.mk z1).heap) then bif tst ((Bld.can 0 2 (Bld.mk z0.ad z0.b z0.rows z0.v) ∧ l0.length ≤ 1099511627776) ∧ SubL [AVal.ptr (Oid.hp 0) 0] [AVal.ptr (Oid.hp 0) 0] ∧ (b0H.mk z0).heap = (b0H.mk (Bld.mk z0.ad z0.b z0.rows z0.v)).heap) then k (Out.ret (AVal.str l0) []) else none else none else none) := by
  subst e_l0
  kernel_rfl
theorem penc_fun (X : Int → Int → List UInt8) (M : List UInt8 → Int → Bool) (R : List UInt8 → List UInt8) (E : Bld → List UInt8 → Bld) (s : List UInt8) (k : Out → Ans) (l0 : List UInt8) (e_l0 : l0 = ((Bld.mk (E (Bld.mk AVal.nilptr AVal.nilX [] 0) (R s)).ad (E (Bld.mk AVal.nilptr AVal.nilX [] 0) (R s)).b
 (E (Bld.mk AVal.nilptr AVal.nilX [] 0) (R s)).rows (E (Bld.mk AVal.nilptr AVal.nilX [] 0) (R s)).v).t)) : iFun Tryz.prog ((layWe X M R E).hd Tryz.prog) (layWe X M R E).fhs 0 45 [.str s] [] k = (
 let z1 := Bld.mk AVal.nilptr AVal.nilX [] 0;
 let z0 := E z1 (R s);
 bif decide (s.length ≤ 17592186044416) then bif tst ((Bld.can 0 2 z1 ∧ 0 = 0 ∧ Int.toNat 0 = 0 ∧ (R s).length ≤ 268435456) ∧ SubTL [AVal.str (R s), AVal.func 78 [], AVal.ptr (Oid.hp 0) 0, AVal.int .i64 (↑(R s).length : Int), AVal.int .i64 0] [AVal.str (R s), AVal.func 78 [], AVal.ptr (Oid.hp 0) 0, AVal.int .i64 (↑(R s).length : Int), AVal.int .i64 (↑(Int.toNat 0) : Int)] ∧ ([] : List (List AVal)) = [] ∧ [Obj.var [AVal.nilptr, AVal.nilX], Obj.note 71 2, Obj.arr 1 [] 0, Obj.note 5 0] = (b0H.mk z1).heap) then bif tst ((Bld.can 0 2 (Bld.mk z0.ad z0.b z0.rows z0.v) ∧ l0.length ≤ 1099511627776) ∧ SubL [AVal.ptr (Oid.hp 0) 0] [AVal.ptr (Oid.hp 0) 0] ∧ (b0H.mk z0).heap = (b0H.mk (Bld.mk z0.ad z0.b z0.rows z0.v)).heap) then k (Out.ret (AVal.str l0) []) else none else none else none) := by
  subst e_l0
  kernel_rfl
noncomputable def layPl : Lay := Lay.nil.addF 103 ibTold
theorem pln_fun (n : Int) (k : Out → Ans) : iFun Tryz.prog (layPl.hd Tryz.prog) layPl.fhs 0 68 [.int .i64 n] [] k = (
 let n0 : Int := IntKind.u8.wrap (↑(BitVec.ofInt 8 (IntKind.u8.wrap n) ||| BitVec.ofInt 8 32).toNat : Int);
  k
  (Out.ret
  (AVal.bool
  (bif decide (n < 128) then
  bif
  bif bif decide (n0 ≥ 97) then decide (n0 ≤ 122) else false then true
  else bif decide (n ≥ 48) then decide (n ≤ 57) else false then
  true
  else decide (ibM [32, 95, 46, 44] (IntKind.u8.wrap n) ≥ 0)
  else false))
   [])) := by kernel_rfl
def plnTold (Q : Int → Bool) : FSp := mkFS [.i .i64] (fun xs => true) (fun xs k => k (.ret (.bool (Q (aI xs 0))) []))
def ucRow (c : Int) : List AVal := [.int .i64 c]
def uchTold (C : List UInt8 → List Int) : FSp := mkFS [.s] (fun xs => decide ((aS xs 0).length ≤ 1099511627776)) (fun xs k => k (.ret (encL false ucRow 0 (C (aS xs 0))) []))
noncomputable def layLq0 (X : Int → Int → List UInt8) (Q : Int → Bool) (C : List UInt8 → List Int) : Lay := b0_lay (((Lay.nil.addF 104 (hexTold X)).addF 68 (plnTold Q)).addF 67 (uchTold C))
def okUc (l : List Int) : Prop := ∀ c ∈ l, 0 ≤ c ∧ c ≤ 1114111
noncomputable def lqSp (E : Bld → List Int → Bld) : LSp := mkL (fun vs _ H => (bld H 0 2, decL (fun r => intOf (r.getD 0 .undef)) (vs.getD 1 .undef), (aI vs 3).toNat, fullOf (vs.getD 1 .undef))) (fun x => x.1.can 0 2 ∧ x.1.t.length = 1 ∧ x.2.2.1 = 0 ∧ x.2.1.length ≤ 67108864 ∧ okUc x.2.1) (fun x => [.ptr (.hp 0) 0, encL x.2.2.2 ucRow 0 x.2.1, .int .i64 x.2.1.length, .int .i64 x.2.2.1]) (fun _ => []) (fun x => (b0H.mk x.1).heap)
 (fun x k => k (.exit 0) [.ptr (.hp 0) 0] [] (b0H.mk (E x.1 x.2.1)).heap)
noncomputable def lqFH (E : Bld → List Int → Bld) : FH := { FH.of [(4, loopSpec 38 [3,8,9,10] [] [3] [] (lqSp E))] with heap := [3], typed := [(3, [(0, bT)])], exact := true }
theorem lq_step (X : Int → Int → List UInt8) (Q : Int → Bool) (C : List UInt8 → List Int) (E : Bld → List Int → Bld) (x : Bld) (f : Bool) (l : List Int) (n i : Int) (D : List (FuncId × List AVal)) (k : Kont) (n0 : Int) (e_n0 : n0 = (l.getD i.toNat 0))
 (l1 : List UInt8) (e_l1 : l1 = ((Bld.mk x.ad x.b x.rows x.v).t))
 (m2 : Nat) (e_m2 : m2 = (l1.length))
 (n3 : Int) (e_n3 : n3 = (IntKind.u8.wrap n0))
 (v4 : UInt8) (e_v4 : v4 = (UInt8.ofNat n3.toNat))
 (l5 : List UInt8) (e_l5 : l5 = ([v4]))
 (m6 : Nat) (e_m6 : m6 = (wsV l1 l5 x.v))
 (c7 : Bool) (e_c7 : c7 = (tst
  ((Bld.can 0 2 (Bld.mk x.ad x.b x.rows x.v) ∧ m2 + 2 ≤ 1099511627776) ∧
    SubL [AVal.ptr (Oid.hp 0) 0, AVal.str [92, 117]] [AVal.ptr (Oid.hp 0) 0, AVal.str [92, 117]] ∧
     (b0H.mk x).heap = (b0H.mk (Bld.mk x.ad x.b x.rows x.v)).heap)))
 (n8 : Int) (e_n8 : n8 = (IntKind.i64.wrap (n0 - 65536)))
 (n9 : Int) (e_n9 : n9 = (IntKind.i64.wrap (55296 + n8.fdiv 1024)))
 (m10 : Nat) (e_m10 : m10 = (wsV l1 [92, 117] x.v))
 (l11 : List UInt8) (e_l11 : l11 = ((Bld.mk (AVal.ptr (Oid.hp 0) 0) (bfB 2 (l1.append [92, 117]) m10)
  (x.rows.append [[AVal.int .u8 92], [AVal.int .u8 117]]) m10).t))
 (m12 : Nat) (e_m12 : m12 = (l11.length))
 (l13 : List UInt8) (e_l13 : l13 = (X n9 4))
 (m14 : Nat) (e_m14 : m14 = (wsV l11 l13 m10))
 (l15 : List UInt8) (e_l15 : l15 = ((Bld.mk (AVal.ptr (Oid.hp 0) 0) (bfB 2 (l11.append l13) m14)
  ((x.rows.append [[AVal.int .u8 92], [AVal.int .u8 117]]).append
    (List.map (fun (c : UInt8) => [AVal.int .u8 (↑c.toNat : Int)]) l13))
  m14).t))
 (n16 : Int) (e_n16 : n16 = (IntKind.i64.wrap (56320 + IntKind.i64.wrap (↑(BitVec.ofInt 64 n8 &&& BitVec.ofInt 64 1023).toNat : Int))))
 (m17 : Nat) (e_m17 : m17 = (wsV l15 [92, 117] m14))
 (l18 : List UInt8) (e_l18 : l18 = ((Bld.mk (AVal.ptr (Oid.hp 0) 0) (bfB 2 (l15.append [92, 117]) m17)
  (((x.rows.append [[AVal.int .u8 92], [AVal.int .u8 117]]).append
   (List.map (fun (c : UInt8) => [AVal.int .u8 (↑c.toNat : Int)]) l13)).append
    [[AVal.int .u8 92], [AVal.int .u8 117]])
  m17).t))
 (l19 : List UInt8) (e_l19 : l19 = (X n16 4))
 (m20 : Nat) (e_m20 : m20 = (wsV l18 l19 m17))
 (l21 : List UInt8) (e_l21 : l21 = (X n0 4))
 (m22 : Nat) (e_m22 : m22 = (wsV l11 l21 m10)) : lturn Tryz.prog (layLq0 X Q C) (lqFH E) 40 4 [3,8,9,10] [] [3] [] (stL 38 [3,8,9,10] [.ptr (.hp 0) 0, encL f ucRow 0 l, .int .i64 n, .int .i64 i] [] [] (b0H.mk x).heap D) k = (
 let z2 := [[AVal.int .u8 92], [AVal.int .u8 117]];
 let z0 := x.rows.append z2;
 let z1 := Bld.mk (AVal.ptr (Oid.hp 0) 0) (bfB 2 (l1.append [92, 117]) m10) z0 m10;
 let z3 := bfB 2 (l15.append [92, 117]) m17;
 let z4 := bfB 2 (l11.append l13) m14;
  bif decide (i < n) then bif decide (0 ≤ i) && decide (i < (↑l.length : Int)) then bif Q n0 then bif tst ((Bld.can 0 2 (Bld.mk x.ad x.b x.rows x.v) ∧ m2 ≤ 1073741824) ∧ SubL [AVal.ptr (Oid.hp 0) 0, AVal.int .u8 n3] [AVal.ptr (Oid.hp 0) 0, AVal.int .u8 (↑v4.toNat : Int)] ∧ (b0H.mk x).heap = (b0H.mk (Bld.mk x.ad x.b x.rows x.v)).heap) then k AExit.normal (stL 38 [3, 8, 9, 10] [AVal.ptr (Oid.hp 0) 0, AVal.list f l.length fun (i : Nat) => ucRow (l.getD i 0), AVal.int .i64 n, AVal.int .i64 (IntKind.i64.wrap (i + 1))] [] [] (b0H.mk (Bld.mk (AVal.ptr (Oid.hp 0) 0) (bfB 2 (l1.append l5) m6) (x.rows.append [[AVal.int .u8 (↑v4.toNat : Int)]]) m6)).heap D) else none else bif decide (n0 > 65535) then bif c7 then bif decide (0 ≤ n9 ∧ ((4 : Int) = 2 ∧ n9 ≤ 255 ∨ (4 : Int) = 4 ∧ n9 ≤ 65535)) then bif tst ((Bld.can 0 2 z1 ∧ m12 + l13.length ≤ 1099511627776) ∧ SubL [AVal.ptr (Oid.hp 0) 0, AVal.str l13] [AVal.ptr (Oid.hp 0) 0, AVal.str l13] ∧ (b0H.mk z1).heap = (b0H.mk z1).heap) then bif tst ((Bld.can 0 2 (Bld.mk (AVal.ptr (Oid.hp 0) 0) z4 (z0.append (List.map (fun (c : UInt8) => [AVal.int .u8 (↑c.toNat : Int)]) l13)) m14) ∧ l15.length + 2 ≤ 1099511627776) ∧ SubL [AVal.ptr (Oid.hp 0) 0, AVal.str [92, 117]] [AVal.ptr (Oid.hp 0) 0, AVal.str [92, 117]] ∧ (b0H.mk (Bld.mk (AVal.ptr (Oid.hp 0) 0) z4 (z0.append (List.map (fun (c : UInt8) => [AVal.int .u8 (↑c.toNat : Int)]) l13)) m14)).heap = (b0H.mk (Bld.mk (AVal.ptr (Oid.hp 0) 0) z4 (z0.append (List.map (fun (c : UInt8) => [AVal.int .u8 (↑c.toNat : Int)]) l13)) m14)).heap) then bif decide (0 ≤ n16 ∧ ((4 : Int) = 2 ∧ n16 ≤ 255 ∨ (4 : Int) = 4 ∧ n16 ≤ 65535)) then bif tst ((Bld.can 0 2 (Bld.mk (AVal.ptr (Oid.hp 0) 0) z3 ((z0.append (List.map (fun (c : UInt8) => [AVal.int .u8 (↑c.toNat : Int)]) l13)).append z2) m17) ∧ l18.length + l19.length ≤ 1099511627776) ∧ SubL [AVal.ptr (Oid.hp 0) 0, AVal.str l19] [AVal.ptr (Oid.hp 0) 0, AVal.str l19] ∧ (b0H.mk (Bld.mk (AVal.ptr (Oid.hp 0) 0) z3 ((z0.append (List.map (fun (c : UInt8) => [AVal.int .u8 (↑c.toNat : Int)]) l13)).append z2) m17)).heap = (b0H.mk (Bld.mk (AVal.ptr (Oid.hp 0) 0) z3 ((z0.append (List.map (fun (c : UInt8) => [AVal.int .u8 (↑c.toNat : Int)]) l13)).append z2) m17)).heap) then k AExit.normal (stL 38 [3, 8, 9, 10] [AVal.ptr (Oid.hp 0) 0, AVal.list f l.length fun (i : Nat) => ucRow (l.getD i 0), AVal.int .i64 n, AVal.int .i64 (IntKind.i64.wrap (i + 1))] [] [] (b0H.mk (Bld.mk (AVal.ptr (Oid.hp 0) 0) (bfB 2 (l18.append l19) m20) (((z0.append (List.map (fun (c : UInt8) => [AVal.int .u8 (↑c.toNat : Int)]) l13)).append z2).append (List.map (fun (c : UInt8) => [AVal.int .u8 (↑c.toNat : Int)]) l19)) m20)).heap D) else none else none else none else none else none else none else bif c7 then bif decide (0 ≤ n0 ∧ ((4 : Int) = 2 ∧ n0 ≤ 255 ∨ (4 : Int) = 4 ∧ n0 ≤ 65535)) then bif tst ((Bld.can 0 2 z1 ∧ m12 + l21.length ≤ 1099511627776) ∧ SubL [AVal.ptr (Oid.hp 0) 0, AVal.str l21] [AVal.ptr (Oid.hp 0) 0, AVal.str l21] ∧ (b0H.mk z1).heap = (b0H.mk z1).heap) then k AExit.normal (stL 38 [3, 8, 9, 10] [AVal.ptr (Oid.hp 0) 0, AVal.list f l.length fun (i : Nat) => ucRow (l.getD i 0), AVal.int .i64 n, AVal.int .i64 (IntKind.i64.wrap (i + 1))] [] [] (b0H.mk (Bld.mk (AVal.ptr (Oid.hp 0) 0) (bfB 2 (l11.append l21) m22) (z0.append (List.map (fun (c : UInt8) => [AVal.int .u8 (↑c.toNat : Int)]) l21)) m22)).heap D) else none else none else none else none else k (AExit.exit 0) (stL 38 [3] [AVal.ptr (Oid.hp 0) 0] [] [] (b0H.mk x).heap D)) := by
  subst e_n0 e_l1 e_m2 e_n3 e_v4 e_l5 e_m6 e_c7 e_n8 e_n9 e_m10 e_l11 e_m12 e_l13 e_m14 e_l15 e_n16 e_m17 e_l18 e_l19 e_m20 e_l21 e_m22
  kernel_rfl
noncomputable def layLq (X : Int → Int → List UInt8) (Q : Int → Bool) (C : List UInt8 → List Int) (E : Bld → List Int → Bld) : Lay := (layLq0 X Q C).addL 40 (lqFH E)
theorem lquote_fun (X : Int → Int → List UInt8) (Q : Int → Bool) (C : List UInt8 → List Int) (E : Bld → List Int → Bld) (s : List UInt8) (k : Out → Ans) (m0 : Nat) (e_m0 : m0 = ((decL (fun (r : List AVal) => intOf (r.getD 0 AVal.undef))
 (AVal.list false (C s).length fun (i : Nat) => ucRow ((C s).getD i 0))).length))
 (m1 : Nat) (e_m1 : m1 = ((E
  (Bld.mk (AVal.ptr (Oid.hp 0) 0)
   (AVal.own 2 0 1 (wsV (Bld.mk AVal.nilptr AVal.nilX [] 0).t [UInt8.ofNat (Int.toNat 34)] 0) false)
   [[AVal.int .u8 (↑(UInt8.ofNat (Int.toNat 34)).toNat : Int)]]
   (wsV (Bld.mk AVal.nilptr AVal.nilX [] 0).t [UInt8.ofNat (Int.toNat 34)] 0))
  (decL (fun (r : List AVal) => intOf (r.getD 0 AVal.undef))
   (AVal.list false (C s).length fun (i : Nat) => ucRow ((C s).getD i 0)))).v))
 (l2 : List UInt8) (e_l2 : l2 = ((Bld.mk
  (E
   (Bld.mk (AVal.ptr (Oid.hp 0) 0)
    (AVal.own 2 0 1 (wsV (Bld.mk AVal.nilptr AVal.nilX [] 0).t [UInt8.ofNat (Int.toNat 34)] 0) false)
    [[AVal.int .u8 (↑(UInt8.ofNat (Int.toNat 34)).toNat : Int)]]
    (wsV (Bld.mk AVal.nilptr AVal.nilX [] 0).t [UInt8.ofNat (Int.toNat 34)] 0))
   (decL (fun (r : List AVal) => intOf (r.getD 0 AVal.undef))
    (AVal.list false (C s).length fun (i : Nat) => ucRow ((C s).getD i 0)))).ad
  (E
   (Bld.mk (AVal.ptr (Oid.hp 0) 0)
    (AVal.own 2 0 1 (wsV (Bld.mk AVal.nilptr AVal.nilX [] 0).t [UInt8.ofNat (Int.toNat 34)] 0) false)
    [[AVal.int .u8 (↑(UInt8.ofNat (Int.toNat 34)).toNat : Int)]]
    (wsV (Bld.mk AVal.nilptr AVal.nilX [] 0).t [UInt8.ofNat (Int.toNat 34)] 0))
   (decL (fun (r : List AVal) => intOf (r.getD 0 AVal.undef))
    (AVal.list false (C s).length fun (i : Nat) => ucRow ((C s).getD i 0)))).b
  (E
   (Bld.mk (AVal.ptr (Oid.hp 0) 0)
    (AVal.own 2 0 1 (wsV (Bld.mk AVal.nilptr AVal.nilX [] 0).t [UInt8.ofNat (Int.toNat 34)] 0) false)
    [[AVal.int .u8 (↑(UInt8.ofNat (Int.toNat 34)).toNat : Int)]]
    (wsV (Bld.mk AVal.nilptr AVal.nilX [] 0).t [UInt8.ofNat (Int.toNat 34)] 0))
   (decL (fun (r : List AVal) => intOf (r.getD 0 AVal.undef))
    (AVal.list false (C s).length fun (i : Nat) => ucRow ((C s).getD i 0)))).rows
  m1).t))
 (m3 : Nat) (e_m3 : m3 = (wsV l2 [UInt8.ofNat (Int.toNat 34)] m1))
 (l4 : List UInt8) (e_l4 : l4 = ((Bld.mk (AVal.ptr (Oid.hp 0) 0) (bfB 2 (l2.append [UInt8.ofNat (Int.toNat 34)]) m3)
  ((E
   (Bld.mk (AVal.ptr (Oid.hp 0) 0)
    (AVal.own 2 0 1 (wsV (Bld.mk AVal.nilptr AVal.nilX [] 0).t [UInt8.ofNat (Int.toNat 34)] 0) false)
    [[AVal.int .u8 (↑(UInt8.ofNat (Int.toNat 34)).toNat : Int)]]
    (wsV (Bld.mk AVal.nilptr AVal.nilX [] 0).t [UInt8.ofNat (Int.toNat 34)] 0))
   (decL (fun (r : List AVal) => intOf (r.getD 0 AVal.undef))
    (AVal.list false (C s).length fun (i : Nat) => ucRow ((C s).getD i 0)))).rows.append
    [[AVal.int .u8 (↑(UInt8.ofNat (Int.toNat 34)).toNat : Int)]])
  m3).t)) : iFun Tryz.prog ((layLq X Q C E).hd Tryz.prog) (layLq X Q C E).fhs 0 40 [.str s] [] k = (
 let z1 := [[AVal.int .u8 (↑(UInt8.ofNat (Int.toNat 34)).toNat : Int)]];
 let z5 := Bld.mk AVal.nilptr AVal.nilX [] 0;
 let z6 := [UInt8.ofNat (Int.toNat 34)];
 let z2 := wsV z5.t z6 0;
 let z0 := Bld.mk (AVal.ptr (Oid.hp 0) 0) (AVal.own 2 0 1 z2 false) z1 z2;
 let z3 := bfB 2 (l2.append z6) m3;
 let z4 := [AVal.ptr (Oid.hp 0) 0, AVal.int .u8 (↑(UInt8.ofNat (Int.toNat 34)).toNat : Int)];
 let z7 := [AVal.ptr (Oid.hp 0) 0, AVal.int .u8 34];
 bif tst ((Bld.can 0 2 z5 ∧ 0 ≤ 1073741824) ∧ SubL z7 z4 ∧ [Obj.var [AVal.nilptr, AVal.nilX], Obj.note 71 2, Obj.arr 1 [] 0, Obj.note 5 0] = (b0H.mk z5).heap) then bif decide (s.length ≤ 1099511627776) then bif tst ((Bld.can 0 2 z0 ∧ 1 = 1 ∧ Int.toNat 0 = 0 ∧ m0 ≤ 67108864 ∧ okUc (decL (fun (r : List AVal) => intOf (r.getD 0 AVal.undef)) (AVal.list false (C s).length fun (i : Nat) => ucRow ((C s).getD i 0)))) ∧ SubTL [AVal.ptr (Oid.hp 0) 0, AVal.list false (C s).length fun (i : Nat) => ucRow ((C s).getD i 0), AVal.int .i64 (↑(C s).length : Int), AVal.int .i64 0] [AVal.ptr (Oid.hp 0) 0, AVal.list false m0 fun (i : Nat) => ucRow ((decL (fun (r : List AVal) => intOf (r.getD 0 AVal.undef)) (AVal.list false (C s).length fun (i : Nat) => ucRow ((C s).getD i 0))).getD i 0), AVal.int .i64 (↑m0 : Int), AVal.int .i64 (↑(Int.toNat 0) : Int)] ∧ ([] : List (List AVal)) = [] ∧ (b0H.mk (Bld.mk (AVal.ptr (Oid.hp 0) 0) (bfB 2 z6 z2) z1 z2)).heap = (b0H.mk z0).heap) then bif tst ((Bld.can 0 2 (Bld.mk (E z0 (decL (fun (r : List AVal) => intOf (r.getD 0 AVal.undef)) (AVal.list false (C s).length fun (i : Nat) => ucRow ((C s).getD i 0)))).ad (E z0 (decL (fun (r : List AVal) => intOf (r.getD 0 AVal.undef)) (AVal.list false (C s).length fun (i : Nat) => ucRow ((C s).getD i 0)))).b (E z0 (decL (fun (r : List AVal) => intOf (r.getD 0 AVal.undef)) (AVal.list false (C s).length fun (i : Nat) => ucRow ((C s).getD i 0)))).rows m1) ∧ l2.length ≤ 1073741824) ∧ SubL z7 z4 ∧ (b0H.mk (E z0 (decL (fun (r : List AVal) => intOf (r.getD 0 AVal.undef)) (AVal.list false (C s).length fun (i : Nat) => ucRow ((C s).getD i 0))))).heap = (b0H.mk (Bld.mk (E z0 (decL (fun (r : List AVal) => intOf (r.getD 0 AVal.undef)) (AVal.list false (C s).length fun (i : Nat) => ucRow ((C s).getD i 0)))).ad (E z0 (decL (fun (r : List AVal) => intOf (r.getD 0 AVal.undef)) (AVal.list false (C s).length fun (i : Nat) => ucRow ((C s).getD i 0)))).b (E z0 (decL (fun (r : List AVal) => intOf (r.getD 0 AVal.undef)) (AVal.list false (C s).length fun (i : Nat) => ucRow ((C s).getD i 0)))).rows m1)).heap) then bif tst ((Bld.can 0 2 (Bld.mk (AVal.ptr (Oid.hp 0) 0) z3 ((E z0 (decL (fun (r : List AVal) => intOf (r.getD 0 AVal.undef)) (AVal.list false (C s).length fun (i : Nat) => ucRow ((C s).getD i 0)))).rows.append z1) m3) ∧ l4.length ≤ 1099511627776) ∧ SubL [AVal.ptr (Oid.hp 0) 0] [AVal.ptr (Oid.hp 0) 0] ∧ (b0H.mk (Bld.mk (AVal.ptr (Oid.hp 0) 0) z3 ((E z0 (decL (fun (r : List AVal) => intOf (r.getD 0 AVal.undef)) (AVal.list false (C s).length fun (i : Nat) => ucRow ((C s).getD i 0)))).rows.append z1) m3)).heap = (b0H.mk (Bld.mk (AVal.ptr (Oid.hp 0) 0) z3 ((E z0 (decL (fun (r : List AVal) => intOf (r.getD 0 AVal.undef)) (AVal.list false (C s).length fun (i : Nat) => ucRow ((C s).getD i 0)))).rows.append z1) m3)).heap) then k (Out.ret (AVal.str l4) (b0H.mk (Bld.mk (AVal.ptr (Oid.hp 0) 0) z3 [] (bif l4 == [] then m3 else m3 + 1))).heap) else none else none else none else none else none) := by
  subst e_m0 e_m1 e_l2 e_m3 e_l4
  kernel_rfl
end Go.Mu
