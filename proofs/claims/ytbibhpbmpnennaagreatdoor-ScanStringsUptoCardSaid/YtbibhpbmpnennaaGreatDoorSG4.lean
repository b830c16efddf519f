/-
  Lemmas on the given program (part 4).
-/
import Derived.Test.YtbibhpbmpnennaaGreatDoorSG3
import Derived.Test.YtbibhpbmpnennaaGreatDoorProg
import Derived.KernelRfl
import Derived.Shelf.LaysM
import Derived.Shelf.Strings.Shaped
import Derived.WalkKit
import Derived.ProofKit
import Derived.Lib.UnsafeStr
import Derived.Shelf.RegionOpenPlain
import Derived.Shelf.GgClosure.StringsIndexFunc
import Derived.Lib.TrimUEq
import Derived.Shelf.Strings.BuilderRune
import Derived.Shelf.Strings.BuilderK
import Derived.Shelf.Unicode.Decode
import Derived.Shelf.Unicode.DecodeAny
import Derived.RangeFuncNested
import Derived.RangeFuncBound
import Derived.RangeFuncCalls
import Derived.RangeFuncLeaves
import Derived.Shelf.Abstract
import Derived.Shelf.RegionOpen
import Derived.OwnWalkIn
import Derived.TacticsInMore
import Derived.LoopNIn
import Derived.LoopIn
import Derived.Lib.QuoteLoop
import Derived.Lib.TrimU
import Derived.Shelf.Strings.MapGrows
import Derived.Shelf.Strings.OnBuilder
import Derived.Shelf.Strings.Split
import Derived.Shelf.Strings.Cut
import Derived.Lib.SlBytesConst
import Derived.Shelf.Small.Strs
import Derived.Lib.RuneBytes
import Derived.Lib.MapLaws
import Derived.RangeFuncBox
import Derived.Maps.AppendAt
import Derived.Shelf.Strings.Fields
set_option linter.unusedVariables false
set_option linter.unusedSimpArgs false
set_option maxRecDepth 100000
namespace Go.Mu
open Go Go.Proofs
end Go.Mu
set_option linter.unusedVariables false
set_option linter.unusedSimpArgs false
set_option maxRecDepth 100000
set_option maxHeartbeats 2000000
namespace Go.Mu
open Go Go.Proofs
structure ItemD where
  kind : Int
  text : List UInt8
  at_ : Int
structure SpH where
  U0 : Obj
  U1 : Obj
  U2 : Obj
  s : List UInt8
  o : AVal
  ad : AVal
  b : AVal
  a : Int
  tr : Bool
  O : Obj
  rows : List (List AVal)
  v : Nat
end Go.Mu
set_option linter.unusedVariables false
set_option linter.unusedSimpArgs false
set_option maxRecDepth 100000
namespace Go.Mu
open Go Go.Proofs
structure WdH where
  U0 : Obj
  U1 : Obj
  U2 : Obj
  s : List UInt8
  base : Int
  a : Int
  o : AVal
  O : Obj
end Go.Mu
set_option linter.unusedVariables false
set_option linter.unusedSimpArgs false
namespace Go.Mu
open Go Go.Proofs
structure Bld where
  ad : AVal
  b : AVal
  rows : List (List AVal)
  v : Nat
end Go.Mu
set_option linter.unusedVariables false
set_option linter.unusedSimpArgs false
set_option maxRecDepth 100000
namespace Go.Mu
open Go Go.Proofs
structure b7H where
  P0 : Obj
  P1 : Obj
  P2 : Obj
  P3 : Obj
  P4 : Obj
  P5 : Obj
  P6 : Obj
  x : Bld
end Go.Mu
set_option linter.unusedVariables false
set_option linter.unusedSimpArgs false
set_option maxRecDepth 100000
namespace Go.Mu
open Go Go.Proofs
structure StA where
  w : WdH
  x : Bld
  at_ : Nat
  i : Nat
end Go.Mu
set_option linter.unusedVariables false
set_option linter.unusedSimpArgs false
set_option maxRecDepth 100000
namespace Go.Mu
open Go Go.Proofs
theorem small_fun (n : Int) (k : Out → Ans) : iFun Tryz.prog (Lay.nil.hd Tryz.prog) Lay.nil.fhs 0 81 [.int .u8 n] [] k = (
  bif bif decide (n ≥ 65) then decide (n ≤ 90) else false then
  k (Out.ret (AVal.int IntKind.u8 (IntKind.u8.wrap (n + 32))) [])
  else k (Out.ret (AVal.int IntKind.u8 n) [])) := by kernel_rfl
theorem encode_fun (n : Int) (k : Out → Ans) : iFun Tryz.prog (Lay.nil.hd Tryz.prog) Lay.nil.fhs 0 63 [.int .i64 n] [] k = (
 let c0 : Bool := bif decide (n < 0) then true else decide (n > 1114111);
 let n1 : Int := IntKind.u32.wrap (IntKind.i32.wrap n);
 let n2 : Int := IntKind.u8.wrap (IntKind.i32.wrap n);
 let l3 : List UInt8 :=
  [byteOf
  [AVal.int IntKind.u8
  (IntKind.u8.wrap
  (↑(BitVec.ofInt 8 128 |||
  BitVec.ofInt 8 (IntKind.u8.wrap (↑(BitVec.ofInt 8 n2 &&& BitVec.ofInt 8 63).toNat : Int))).toNat :
  Int))]];
 let c4 : Bool := decide (n1 < 55296);
 let l5 : List UInt8 :=
  byteOf
  [AVal.int IntKind.u8
  (IntKind.u8.wrap
  (↑(BitVec.ofInt 8 128 |||
  BitVec.ofInt 8
  (IntKind.u8.wrap
  (↑(BitVec.ofInt 8 (IntKind.u8.wrap ((IntKind.i32.wrap n).fdiv 64)) &&&
  BitVec.ofInt 8 63).toNat :
  Int))).toNat :
  Int))] ::
  l3;
  bif bif decide (0 ≤ IntKind.i32.wrap n) then decide (IntKind.i32.wrap n < 55296) else false then
  bif bif c0 then true else false then k (Out.ret (AVal.tuple [AVal.str [], AVal.int IntKind.i64 4]) [])
  else
  bif decide (n1 ≤ 127) then
  k (Out.ret (AVal.tuple [AVal.str [byteOf [AVal.int IntKind.u8 n2]], AVal.int IntKind.i64 0]) [])
  else
  bif decide (n1 ≤ 2047) then
  k
  (Out.ret
  (AVal.tuple
  [AVal.str
  (byteOf
  [AVal.int IntKind.u8
  (IntKind.u8.wrap
  (↑(BitVec.ofInt 8 192 |||
  BitVec.ofInt 8 (IntKind.u8.wrap ((IntKind.i32.wrap n).fdiv 64))).toNat :
  Int))] ::
  l3),
  AVal.int IntKind.i64 0])
  [])
  else
  bif c4 then
  bif c4 then
  k
  (Out.ret
  (AVal.tuple
  [AVal.str
  (byteOf
  [AVal.int IntKind.u8
  (IntKind.u8.wrap
  (↑(BitVec.ofInt 8 224 |||
  BitVec.ofInt 8 (IntKind.u8.wrap ((IntKind.i32.wrap n).fdiv 4096))).toNat :
  Int))] ::
  l5),
  AVal.int IntKind.i64 0])
  [])
  else
  bif bif decide (n1 > 65535) then decide (n1 ≤ 1114111) else false then
  k
  (Out.ret
  (AVal.tuple
  [AVal.str
  (byteOf
  [AVal.int IntKind.u8
  (IntKind.u8.wrap
  (↑(BitVec.ofInt 8 240 |||
  BitVec.ofInt 8 (IntKind.u8.wrap ((IntKind.i32.wrap n).fdiv 262144))).toNat :
  Int))] ::
  byteOf
  [AVal.int IntKind.u8
  (IntKind.u8.wrap
  (↑(BitVec.ofInt 8 128 |||
  BitVec.ofInt 8
  (IntKind.u8.wrap
  (↑(BitVec.ofInt 8 (IntKind.u8.wrap ((IntKind.i32.wrap n).fdiv 4096)) &&&
  BitVec.ofInt 8 63).toNat :
  Int))).toNat :
  Int))] ::
  l5),
  AVal.int IntKind.i64 0])
  [])
  else
  k
  (Out.ret
  (AVal.tuple
  [AVal.str
  [byteOf [AVal.int IntKind.u8 239], byteOf [AVal.int IntKind.u8 191],
  byteOf [AVal.int IntKind.u8 189]],
  AVal.int IntKind.i64 0])
  [])
  else
  bif bif decide (57343 < n1) then decide (n1 ≤ 65535) else false then
  k
  (Out.ret
  (AVal.tuple
  [AVal.str
  (byteOf
  [AVal.int IntKind.u8
  (IntKind.u8.wrap
  (↑(BitVec.ofInt 8 224 |||
  BitVec.ofInt 8 (IntKind.u8.wrap ((IntKind.i32.wrap n).fdiv 4096))).toNat :
  Int))] ::
  l5),
  AVal.int IntKind.i64 0])
  [])
  else
  bif bif decide (n1 > 65535) then decide (n1 ≤ 1114111) else false then
  k
  (Out.ret
  (AVal.tuple
  [AVal.str
  (byteOf
  [AVal.int IntKind.u8
  (IntKind.u8.wrap
  (↑(BitVec.ofInt 8 240 |||
  BitVec.ofInt 8 (IntKind.u8.wrap ((IntKind.i32.wrap n).fdiv 262144))).toNat :
  Int))] ::
  byteOf
  [AVal.int IntKind.u8
  (IntKind.u8.wrap
  (↑(BitVec.ofInt 8 128 |||
  BitVec.ofInt 8
  (IntKind.u8.wrap
  (↑(BitVec.ofInt 8 (IntKind.u8.wrap ((IntKind.i32.wrap n).fdiv 4096)) &&&
  BitVec.ofInt 8 63).toNat :
  Int))).toNat :
  Int))] ::
  l5),
  AVal.int IntKind.i64 0])
  [])
  else
  k
  (Out.ret
  (AVal.tuple
  [AVal.str
  [byteOf [AVal.int IntKind.u8 239], byteOf [AVal.int IntKind.u8 191],
  byteOf [AVal.int IntKind.u8 189]],
  AVal.int IntKind.i64 0])
  [])
  else
  bif bif decide (57343 < IntKind.i32.wrap n) then decide (IntKind.i32.wrap n ≤ 1114111) else false then
  bif bif c0 then true else false then k (Out.ret (AVal.tuple [AVal.str [], AVal.int IntKind.i64 4]) [])
  else
  bif decide (n1 ≤ 127) then
  k (Out.ret (AVal.tuple [AVal.str [byteOf [AVal.int IntKind.u8 n2]], AVal.int IntKind.i64 0]) [])
  else
  bif decide (n1 ≤ 2047) then
  k
  (Out.ret
  (AVal.tuple
  [AVal.str
  (byteOf
  [AVal.int IntKind.u8
  (IntKind.u8.wrap
  (↑(BitVec.ofInt 8 192 |||
  BitVec.ofInt 8 (IntKind.u8.wrap ((IntKind.i32.wrap n).fdiv 64))).toNat :
  Int))] ::
  l3),
  AVal.int IntKind.i64 0])
  [])
  else
  bif c4 then
  bif c4 then
  k
  (Out.ret
  (AVal.tuple
  [AVal.str
  (byteOf
  [AVal.int IntKind.u8
  (IntKind.u8.wrap
  (↑(BitVec.ofInt 8 224 |||
  BitVec.ofInt 8 (IntKind.u8.wrap ((IntKind.i32.wrap n).fdiv 4096))).toNat :
  Int))] ::
  l5),
  AVal.int IntKind.i64 0])
  [])
  else
  bif bif decide (n1 > 65535) then decide (n1 ≤ 1114111) else false then
  k
  (Out.ret
  (AVal.tuple
  [AVal.str
  (byteOf
  [AVal.int IntKind.u8
  (IntKind.u8.wrap
  (↑(BitVec.ofInt 8 240 |||
  BitVec.ofInt 8 (IntKind.u8.wrap ((IntKind.i32.wrap n).fdiv 262144))).toNat :
  Int))] ::
  byteOf
  [AVal.int IntKind.u8
  (IntKind.u8.wrap
  (↑(BitVec.ofInt 8 128 |||
  BitVec.ofInt 8
  (IntKind.u8.wrap
  (↑(BitVec.ofInt 8
  (IntKind.u8.wrap ((IntKind.i32.wrap n).fdiv 4096)) &&&
  BitVec.ofInt 8 63).toNat :
  Int))).toNat :
  Int))] ::
  l5),
  AVal.int IntKind.i64 0])
  [])
  else
  k
  (Out.ret
  (AVal.tuple
  [AVal.str
  [byteOf [AVal.int IntKind.u8 239], byteOf [AVal.int IntKind.u8 191],
  byteOf [AVal.int IntKind.u8 189]],
  AVal.int IntKind.i64 0])
  [])
  else
  bif bif decide (57343 < n1) then decide (n1 ≤ 65535) else false then
  k
  (Out.ret
  (AVal.tuple
  [AVal.str
  (byteOf
  [AVal.int IntKind.u8
  (IntKind.u8.wrap
  (↑(BitVec.ofInt 8 224 |||
  BitVec.ofInt 8 (IntKind.u8.wrap ((IntKind.i32.wrap n).fdiv 4096))).toNat :
  Int))] ::
  l5),
  AVal.int IntKind.i64 0])
  [])
  else
  bif bif decide (n1 > 65535) then decide (n1 ≤ 1114111) else false then
  k
  (Out.ret
  (AVal.tuple
  [AVal.str
  (byteOf
  [AVal.int IntKind.u8
  (IntKind.u8.wrap
  (↑(BitVec.ofInt 8 240 |||
  BitVec.ofInt 8 (IntKind.u8.wrap ((IntKind.i32.wrap n).fdiv 262144))).toNat :
  Int))] ::
  byteOf
  [AVal.int IntKind.u8
  (IntKind.u8.wrap
  (↑(BitVec.ofInt 8 128 |||
  BitVec.ofInt 8
  (IntKind.u8.wrap
  (↑(BitVec.ofInt 8
  (IntKind.u8.wrap ((IntKind.i32.wrap n).fdiv 4096)) &&&
  BitVec.ofInt 8 63).toNat :
  Int))).toNat :
  Int))] ::
  l5),
  AVal.int IntKind.i64 0])
  [])
  else
  k
  (Out.ret
  (AVal.tuple
  [AVal.str
  [byteOf [AVal.int IntKind.u8 239], byteOf [AVal.int IntKind.u8 191],
  byteOf [AVal.int IntKind.u8 189]],
  AVal.int IntKind.i64 0])
  [])
  else
  bif bif c0 then true else true then k (Out.ret (AVal.tuple [AVal.str [], AVal.int IntKind.i64 4]) [])
  else
  bif decide (n1 ≤ 127) then
  k (Out.ret (AVal.tuple [AVal.str [byteOf [AVal.int IntKind.u8 n2]], AVal.int IntKind.i64 0]) [])
  else
  bif decide (n1 ≤ 2047) then
  k
  (Out.ret
  (AVal.tuple
  [AVal.str
  (byteOf
  [AVal.int IntKind.u8
  (IntKind.u8.wrap
  (↑(BitVec.ofInt 8 192 |||
  BitVec.ofInt 8 (IntKind.u8.wrap ((IntKind.i32.wrap n).fdiv 64))).toNat :
  Int))] ::
  l3),
  AVal.int IntKind.i64 0])
  [])
  else
  bif c4 then
  bif c4 then
  k
  (Out.ret
  (AVal.tuple
  [AVal.str
  (byteOf
  [AVal.int IntKind.u8
  (IntKind.u8.wrap
  (↑(BitVec.ofInt 8 224 |||
  BitVec.ofInt 8 (IntKind.u8.wrap ((IntKind.i32.wrap n).fdiv 4096))).toNat :
  Int))] ::
  l5),
  AVal.int IntKind.i64 0])
  [])
  else
  bif bif decide (n1 > 65535) then decide (n1 ≤ 1114111) else false then
  k
  (Out.ret
  (AVal.tuple
  [AVal.str
  (byteOf
  [AVal.int IntKind.u8
  (IntKind.u8.wrap
  (↑(BitVec.ofInt 8 240 |||
  BitVec.ofInt 8 (IntKind.u8.wrap ((IntKind.i32.wrap n).fdiv 262144))).toNat :
  Int))] ::
  byteOf
  [AVal.int IntKind.u8
  (IntKind.u8.wrap
  (↑(BitVec.ofInt 8 128 |||
  BitVec.ofInt 8
  (IntKind.u8.wrap
  (↑(BitVec.ofInt 8
  (IntKind.u8.wrap ((IntKind.i32.wrap n).fdiv 4096)) &&&
  BitVec.ofInt 8 63).toNat :
  Int))).toNat :
  Int))] ::
  l5),
  AVal.int IntKind.i64 0])
  [])
  else
  k
  (Out.ret
  (AVal.tuple
  [AVal.str
  [byteOf [AVal.int IntKind.u8 239], byteOf [AVal.int IntKind.u8 191],
  byteOf [AVal.int IntKind.u8 189]],
  AVal.int IntKind.i64 0])
  [])
  else
  bif bif decide (57343 < n1) then decide (n1 ≤ 65535) else false then
  k
  (Out.ret
  (AVal.tuple
  [AVal.str
  (byteOf
  [AVal.int IntKind.u8
  (IntKind.u8.wrap
  (↑(BitVec.ofInt 8 224 |||
  BitVec.ofInt 8 (IntKind.u8.wrap ((IntKind.i32.wrap n).fdiv 4096))).toNat :
  Int))] ::
  l5),
  AVal.int IntKind.i64 0])
  [])
  else
  bif bif decide (n1 > 65535) then decide (n1 ≤ 1114111) else false then
  k
  (Out.ret
  (AVal.tuple
  [AVal.str
  (byteOf
  [AVal.int IntKind.u8
  (IntKind.u8.wrap
  (↑(BitVec.ofInt 8 240 |||
  BitVec.ofInt 8 (IntKind.u8.wrap ((IntKind.i32.wrap n).fdiv 262144))).toNat :
  Int))] ::
  byteOf
  [AVal.int IntKind.u8
  (IntKind.u8.wrap
  (↑(BitVec.ofInt 8 128 |||
  BitVec.ofInt 8
  (IntKind.u8.wrap
  (↑(BitVec.ofInt 8
  (IntKind.u8.wrap ((IntKind.i32.wrap n).fdiv 4096)) &&&
  BitVec.ofInt 8 63).toNat :
  Int))).toNat :
  Int))] ::
  l5),
  AVal.int IntKind.i64 0])
  [])
  else
  k
  (Out.ret
  (AVal.tuple
  [AVal.str
  [byteOf [AVal.int IntKind.u8 239], byteOf [AVal.int IntKind.u8 191],
  byteOf [AVal.int IntKind.u8 189]],
  AVal.int IntKind.i64 0])
                      [])) := by kernel_rfl
end Go.Mu
set_option linter.unusedVariables false
set_option linter.unusedSimpArgs false
set_option maxRecDepth 100000
namespace Go.Mu
open Go Go.Proofs
structure NuA where
  b : Bool
  n : Nat
  f : Bool
  l : List UInt8
  i : Nat
  H : Heap
end Go.Mu
set_option linter.unusedVariables false
set_option linter.unusedSimpArgs false
set_option maxRecDepth 100000
namespace Go.Mu
open Go Go.Proofs
structure OneR where
  e : Int
  off : Nat
  kind : Int
  text : List UInt8
  len : Nat
end Go.Mu
set_option linter.unusedVariables false
set_option linter.unusedSimpArgs false
set_option maxRecDepth 100000
namespace Go.Mu
open Go Go.Proofs
section
variable {P : Program}
end
structure WvA where
  w : WdH
  rows : List (List AVal)
  u : Nat
end Go.Mu
set_option linter.unusedVariables false
set_option linter.unusedSimpArgs false
set_option maxRecDepth 100000
namespace Go.Mu
open Go Go.Proofs
structure SkA where
  s : List UInt8
  i : Nat
  H : Heap
end Go.Mu
set_option linter.unusedVariables false
set_option linter.unusedSimpArgs false
set_option maxRecDepth 100000
namespace Go.Mu
open Go Go.Proofs
structure HsA where
  s : List UInt8
  n : Int
  i : Nat
  H : Heap
structure RdA where
  b : Bool
  s : List UInt8
  i : Nat
  H : Heap
structure RnA where
  b : Bool
  s : List UInt8
  n : Nat
  i : Nat
  H : Heap
end Go.Mu
set_option linter.unusedVariables false
set_option linter.unusedSimpArgs false
set_option maxRecDepth 100000
namespace Go.Mu
open Go Go.Proofs
def ibM (s : List UInt8) (n : Int) : Int := Lib.indexByte s (UInt8.ofNat n.toNat)
def ibTold : FSp := mkFS [.s, .i .u8] (fun _ => true) (fun xs k => k (.ret (.int .i64 (ibM (aS xs 0) (aI xs 1))) []))
theorem ib_fun (s : List UInt8) (n : Int) (k : Out → Ans) : iFun Tryz.prog (Lay.nil.hd Tryz.prog) Lay.nil.fhs 0 58 [.str s, .int .u8 n] [] k = (
  k (Out.ret (AVal.int IntKind.i64 (Lib.indexByte s n.toNat.toUInt8)) [])) := by kernel_rfl
theorem ibTold_ok : ∀ xs H k out, ibTold xs H k = some out → ∃ o, CallOK Tryz.prog 58 xs H o ∧ k o = some out := mkFS_ok fun ys xs e h => by
  obtain ⟨s, n, rfl⟩ : ∃ s n, xs = [.str s, .int .u8 n] := ⟨_, _, e⟩
  exact ⟨_, fun k => rfl, Lay.nil_ok.callF (G := []) rfl (fun k => ib_fun s n k)⟩
noncomputable def layY1 : Lay := Lay.nil.addF 58 ibTold
theorem layY1_ok : layY1.OK Tryz.prog := Lay.nil_ok.addF ibTold_ok
def smM (n : Int) : Int := bif decide (n ≥ 65) && decide (n ≤ 90) then IntKind.u8.wrap (n + 32) else n
def smTold : FSp := mkFS [.i .u8] (fun _ => true) (fun xs k => k (.ret (.int .u8 (smM (aI xs 0))) []))
theorem smTold_ok : ∀ xs H k out, smTold xs H k = some out → ∃ o, CallOK Tryz.prog 81 xs H o ∧ k o = some out := mkFS_ok fun ys xs e h => by
  obtain ⟨n, rfl⟩ : ∃ n, xs = [.int .u8 n] := ⟨_, e⟩
  refine ⟨_, fun k => rfl, Lay.nil_ok.callF (G := []) rfl (fun k => (small_fun n k).trans ?_)⟩
  show _ = k (.ret (.int .u8 (smM n)) [])
  unfold smM
  rw [bif_and]
  cases decide (n ≥ 65) && decide (n ≤ 90) <;> rfl
noncomputable def layY2 : Lay := layY1.addF 81 smTold
theorem layY2_ok : layY2.OK Tryz.prog := layY1_ok.addF smTold_ok
def nmrM (set s : List UInt8) : Bool := s.all (fun c => !decide (ibM set (c.toNat : Int) < 0))
def octDg : List UInt8 := [48, 49, 50, 51, 52, 53, 54, 55, 56, 57]
def octHx : List UInt8 := [48, 49, 50, 51, 52, 53, 54, 55, 56, 57, 97, 98, 99, 100, 101, 102, 65, 66, 67, 68, 69, 70]
structure NmA where
  s : List UInt8
  set : List UInt8
  n : Int
  i : Nat
  H : Heap
noncomputable def nmrSp (R : List UInt8 → List UInt8 → Bool) : LSp := mkL (fun vs _ H => NmA.mk (aS vs 0) (aS vs 1) (aI vs 2) (aI vs 3).toNat H) (fun a => a.i ≤ a.s.length ∧ a.s.length ≤ 1099511627776 ∧ a.n = a.s.length) (fun a => [.str a.s, .str a.set, .int .i64 a.n, .int .i64 a.i]) (fun _ => []) (fun a => a.H)
  (fun a k => cond (R a.set (a.s.drop a.i)) (k (.exit 0) [.str a.s, .undef] [] a.H) (k .ret [.str a.s, .bool false] [] a.H))
noncomputable def nmrFH (R : List UInt8 → List UInt8 → Bool) : FH := .of [(5, loopSpec 23 [0,5,9,10] [] [0,4] [] (nmrSp R))]
theorem nmr_step (R : List UInt8 → List UInt8 → Bool) (s set : List UInt8) (n i : Int) (H : Heap) (D : List (FuncId × List AVal)) (k : Kont) : lturn Tryz.prog layY1 (nmrFH R) 61 5 [0,5,9,10] [] [0,4] [] (stL 23 [0,5,9,10] [.str s, .str set, .int .i64 n, .int .i64 i] [] [] H D) k = (
  bif decide (i < n) then
  bif decide (0 ≤ i) && decide (i < (↑s.length : Int)) then
  bif decide (ibM set (↑(s.getD i.toNat 0).toNat : Int) < 0) then
  k AExit.ret (stL 23 [0, 4] [AVal.str s, AVal.bool false] [] [] H D)
  else
  k AExit.normal
  (stL 23 [0, 5, 9, 10]
  [AVal.str s, AVal.str set, AVal.int IntKind.i64 n, AVal.int IntKind.i64 (IntKind.i64.wrap (i + 1))] [] [] H D)
  else none
  else k (AExit.exit 0) (stL 23 [0, 4] [AVal.str s, AVal.undef] [] [] H D)) := by kernel_rfl
theorem nmr_runs (s set : List UInt8) (hs : s.length ≤ 1099511627776) (H : Heap) (R : List UInt8 → List UInt8 → Bool) : ∀ (m i : Nat), s.length - i ≤ m → i ≤ s.length →
    (nmrM set (s.drop i) = true → LoopRuns (lturn Tryz.prog layY1 (nmrFH R) 61 5 [0,5,9,10] [] [0,4] []) 23 [0,5,9,10] [] [0,4] [] [.str s, .str set, .int .i64 s.length, .int .i64 (i : Nat)] [] H (.exit 0) [.str s, .undef] [] H) ∧
    (nmrM set (s.drop i) = false → LoopRuns (lturn Tryz.prog layY1 (nmrFH R) 61 5 [0,5,9,10] [] [0,4] []) 23 [0,5,9,10] [] [0,4] [] [.str s, .str set, .int .i64 s.length, .int .i64 (i : Nat)] [] H .ret [.str s, .bool false] [] H) := by
  intro m
  induction m with
  | zero =>
    intro i hm hi
    have e : s.drop i = [] := List.drop_eq_nil_of_le (by omega)
    rw [e]
    refine ⟨fun _ => .stop (by simp) (fun D k => ?_), (fun h => by cases h)⟩
    rw [nmr_step]
    simp (disch := omega) only [dF, cond_false]
  | succ m ih =>
    intro i hm hi
    have key := fun D k => nmr_step R s set s.length i H D k
    by_cases hlt : i < s.length
    · have ed := drop_cons_of s i 0 hlt
      simp (disch := omega) only [dT, cond_true, Bool.and_self, Int.toNat_natCast, wrap_add1] at key
      rw [ed, show nmrM set (s.getD i 0 :: s.drop (i + 1)) = (!decide (ibM set ((s.getD i 0).toNat : Int) < 0) && nmrM set (s.drop (i + 1))) from rfl]
      cases hc : decide (ibM set ((s.getD i 0).toNat : Int) < 0) with
      | true =>
        simp only [hc, cond_true] at key
        exact ⟨(fun h => by cases h), fun _ => .stop (by simp) key⟩
      | false =>
        simp only [hc, cond_false] at key
        rw [Bool.not_false, Bool.true_and]
        have := ih (i + 1) (by omega) (by omega)
        exact ⟨fun h => .step key (this.1 h), fun h => .step key (this.2 h)⟩
    · have e : s.drop i = [] := List.drop_eq_nil_of_le (by omega)
      rw [e]
      refine ⟨fun _ => .stop (by simp) (fun D k => ?_), (fun h => by cases h)⟩
      rw [nmr_step]
      simp (disch := omega) only [dF, cond_false]
theorem nmrSp_ok : SpOK (lturn Tryz.prog layY1 (nmrFH nmrM) 61 5 [0,5,9,10] [] [0,4] []) 23 [0,5,9,10] [] [0,4] [] (nmrSp nmrM) := mkL_ok fun a h => by
  obtain ⟨s, set, n, i, H⟩ := a
  obtain ⟨h1, h2, h3⟩ := h
  simp only at h1 h2 h3
  subst h3
  have key := nmr_runs s set h2 H nmrM _ i (Nat.le_refl _) h1
  show ∃ e vs bs H', (∀ k : AExit → List AVal → List (List AVal) → Heap → Ans, cond (nmrM set (s.drop i)) _ _ = k e vs bs H') ∧ _
  cases hb : nmrM set (s.drop i) with
  | true => exact ⟨_, _, _, _, fun k => rfl, key.1 hb⟩
  | false => exact ⟨_, _, _, _, fun k => rfl, key.2 hb⟩
noncomputable def layY3 (R : List UInt8 → List UInt8 → Bool) : Lay := layY1.addL 61 (nmrFH R)
theorem nmr_fun (R : List UInt8 → List UInt8 → Bool) (s : List UInt8) (b : Bool) (k : Out → Ans) : iFun Tryz.prog ((layY3 R).hd Tryz.prog) (layY3 R).fhs 0 61 [.str s, .bool b] [] k = (
 let n0 : Int := (↑s.length : Int);
 let l1 : List UInt8 := List.drop (Int.toNat 0) s;
  bif b then
  bif
  tst
  ((Int.toNat 0 ≤ s.length ∧ s.length ≤ 1099511627776 ∧ n0 = n0) ∧
  SubTL
  [AVal.str s,
  AVal.str [48, 49, 50, 51, 52, 53, 54, 55, 56, 57, 97, 98, 99, 100, 101, 102, 65, 66, 67, 68, 69, 70],
  AVal.int IntKind.i64 n0, AVal.int IntKind.i64 0]
  [AVal.str s,
  AVal.str [48, 49, 50, 51, 52, 53, 54, 55, 56, 57, 97, 98, 99, 100, 101, 102, 65, 66, 67, 68, 69, 70],
  AVal.int IntKind.i64 n0, AVal.int IntKind.i64 (↑(Int.toNat 0) : Int)] ∧
  ([] : List (List AVal)) = [] ∧ ([] : Heap) = []) then
  bif R [48, 49, 50, 51, 52, 53, 54, 55, 56, 57, 97, 98, 99, 100, 101, 102, 65, 66, 67, 68, 69, 70] l1 then
  k (Out.ret (AVal.bool (decide (n0 ≤ 7))) [])
  else k (Out.ret (AVal.bool false) [])
  else none
  else
  bif
  tst
  ((Int.toNat 0 ≤ s.length ∧ s.length ≤ 1099511627776 ∧ n0 = n0) ∧
  SubTL
  [AVal.str s, AVal.str [48, 49, 50, 51, 52, 53, 54, 55, 56, 57], AVal.int IntKind.i64 n0,
  AVal.int IntKind.i64 0]
  [AVal.str s, AVal.str [48, 49, 50, 51, 52, 53, 54, 55, 56, 57], AVal.int IntKind.i64 n0,
  AVal.int IntKind.i64 (↑(Int.toNat 0) : Int)] ∧
  ([] : List (List AVal)) = [] ∧ ([] : Heap) = []) then
  bif R [48, 49, 50, 51, 52, 53, 54, 55, 56, 57] l1 then k (Out.ret (AVal.bool (decide (n0 ≤ 7))) [])
  else k (Out.ret (AVal.bool false) [])
  else none) := by kernel_rfl
theorem layY3_ok : (layY3 nmrM).OK Tryz.prog := layY1_ok.loop1 (id := 5) (by kernel_rfl) (by kernel_rfl) (by kernel_rfl) nmrSp_ok
def numB (s : List UInt8) (b : Bool) : Bool := nmrM (bif b then octHx else octDg) s && decide (s.length ≤ 7)
def numrTold : FSp := mkFS [.s, .b] (fun xs => decide ((aS xs 0).length ≤ 1099511627776)) (fun xs k => k (.ret (.bool (numB (aS xs 0) (aB xs 1))) []))
theorem numrTold_ok : ∀ xs H k out, numrTold xs H k = some out → ∃ o, CallOK Tryz.prog 61 xs H o ∧ k o = some out := mkFS_ok fun ys xs e h => by
  obtain ⟨s, b, rfl⟩ : ∃ s b, xs = [.str s, .bool b] := ⟨_, _, e⟩
  replace h : s.length ≤ 1099511627776 := of_decide_eq_true h
  refine ⟨_, fun k => rfl, layY3_ok.callF (G := []) rfl (fun k => (nmr_fun nmrM s b k).trans ?_)⟩
  show _ = k (.ret (.bool (numB s b)) [])
  have e7 : decide ((s.length : Int) ≤ 7) = decide (s.length ≤ 7) := decide_eq_decide.2 (by omega)
  unfold numB
  simp only [e7, Int.toNat_zero, List.drop_zero]
  cases b with
  | true =>
    refine (congrArg (fun c => cond c _ none) (tst_true ⟨⟨Nat.zero_le _, h, trivial⟩, .refl _, trivial, trivial⟩)).trans ?_
    simp only [cond_true]
    show _ = k (.ret (.bool (nmrM octHx s && _)) [])
    unfold octHx
    cases nmrM [48, 49, 50, 51, 52, 53, 54, 55, 56, 57, 97, 98, 99, 100, 101, 102, 65, 66, 67, 68, 69, 70] s <;> rfl
  | false =>
    refine (congrArg (fun c => cond c _ none) (tst_true ⟨⟨Nat.zero_le _, h, trivial⟩, .refl _, trivial, trivial⟩)).trans ?_
    simp only [cond_true, cond_false]
    show _ = k (.ret (.bool (nmrM octDg s && _)) [])
    unfold octDg
    cases nmrM [48, 49, 50, 51, 52, 53, 54, 55, 56, 57] s <;> rfl
def hexT : List UInt8 := [48, 49, 50, 51, 52, 53, 54, 55, 56, 57, 97, 98, 99, 100, 101, 102]
def hexD (c : UInt8) : Int := ibM hexT (smM (c.toNat : Int))
def hexS (n d : Int) : Int := IntKind.i64.wrap (((BitVec.ofInt 64 (IntKind.i64.wrap (n * 16)) ||| BitVec.ofInt 64 d).toNat : Nat) : Int)
def uhM : Int → List UInt8 → Bool × Int
  | n, [] => (true, n)
  | n, c :: l => bif decide (hexD c < 0) then (false, n) else uhM (hexS n (hexD c)) l
def vaS (n : Int) (c : UInt8) : Int := IntKind.i64.wrap (IntKind.i64.wrap (n * 10) + IntKind.i64.wrap (IntKind.u8.wrap ((c.toNat : Int) - 48)))
def vaM (n : Int) (l : List UInt8) : Int := l.foldl vaS n
structure UhA where
  n : Int
  f : Bool
  l : List UInt8
  m : Int
  i : Nat
  H : Heap
abbrev UhR := Int → List UInt8 → Bool × Int
noncomputable def uhSp (R : UhR) : LSp := mkL (fun vs _ H => UhA.mk (aI vs 0) (fullOf (vs.getD 1 .undef)) (decL decB (vs.getD 1 .undef)) (aI vs 2) (aI vs 3).toNat H) (fun a => a.i ≤ a.l.length ∧ a.l.length ≤ 1099511627776 ∧ a.m = a.l.length) (fun a => [.int .i64 a.n, encL a.f byteRow 0 a.l, .int .i64 a.m, .int .i64 a.i]) (fun _ => []) (fun a => a.H)
  (fun a k => cond (R a.n (a.l.drop a.i)).1 (k (.exit 1) [.undef, .undef, .int .i64 (R a.n (a.l.drop a.i)).2] [] a.H) (k .ret [.int .i64 0, .int .i64 33, .int .i64 (R a.n (a.l.drop a.i)).2] [] a.H))
noncomputable def uhFH (R : UhR) : FH := .of [(7, loopSpec 33 [4,16,17,18] [] [2,3,4] [] (uhSp R))]
theorem uh_step (R : UhR) (n : Int) (f : Bool) (l : List UInt8) (m i : Int) (H : Heap) (D : List (FuncId × List AVal)) (k : Kont) : lturn Tryz.prog layY2 (uhFH R) 73 7 [4,16,17,18] [] [2,3,4] [] (stL 33 [4,16,17,18] [.int .i64 n, encL f byteRow 0 l, .int .i64 m, .int .i64 i] [] [] H D) k = (
 let n0 : Int :=
  ibM [48, 49, 50, 51, 52, 53, 54, 55, 56, 57, 97, 98, 99, 100, 101, 102] (smM (↑(l.getD i.toNat 0).toNat : Int));
  bif decide (i < m) then
  bif decide (0 ≤ i) && decide (i < (↑l.length : Int)) then
  bif decide (n0 < 0) then
  k AExit.ret (stL 33 [2, 3, 4] [AVal.int IntKind.i64 0, AVal.int IntKind.i64 33, AVal.int IntKind.i64 n] [] [] H D)
  else
  k AExit.normal
  (stL 33 [4, 16, 17, 18]
  [AVal.int IntKind.i64
  (IntKind.i64.wrap (↑(BitVec.ofInt 64 (IntKind.i64.wrap (n * 16)) ||| BitVec.ofInt 64 n0).toNat : Int)),
  AVal.list f l.length fun (i : Nat) => [AVal.int IntKind.u8 (↑(l.getD i 0).toNat : Int)],
  AVal.int IntKind.i64 m, AVal.int IntKind.i64 (IntKind.i64.wrap (i + 1))]
  [] [] H D)
  else none
  else k (AExit.exit 1) (stL 33 [2, 3, 4] [AVal.undef, AVal.undef, AVal.int IntKind.i64 n] [] [] H D)) := by kernel_rfl
theorem uh_runs (f : Bool) (l : List UInt8) (hs : l.length ≤ 1099511627776) (H : Heap) (R : UhR) : ∀ (m i : Nat) (n : Int), l.length - i ≤ m → i ≤ l.length →
    ((uhM n (l.drop i)).1 = true → LoopRuns (lturn Tryz.prog layY2 (uhFH R) 73 7 [4,16,17,18] [] [2,3,4] []) 33 [4,16,17,18] [] [2,3,4] [] [.int .i64 n, encL f byteRow 0 l, .int .i64 l.length, .int .i64 (i : Nat)] [] H (.exit 1) [.undef, .undef, .int .i64 (uhM n (l.drop i)).2] [] H) ∧
    ((uhM n (l.drop i)).1 = false → LoopRuns (lturn Tryz.prog layY2 (uhFH R) 73 7 [4,16,17,18] [] [2,3,4] []) 33 [4,16,17,18] [] [2,3,4] [] [.int .i64 n, encL f byteRow 0 l, .int .i64 l.length, .int .i64 (i : Nat)] [] H .ret [.int .i64 0, .int .i64 33, .int .i64 (uhM n (l.drop i)).2] [] H) := by
  intro m
  induction m with
  | zero =>
    intro i n hm hi
    have e : l.drop i = [] := List.drop_eq_nil_of_le (by omega)
    rw [e]
    refine ⟨fun _ => .stop (by simp) (fun D k => ?_), (fun h => by cases h)⟩
    rw [uh_step]
    simp (disch := omega) only [dF, cond_false]
    rfl
  | succ m ih =>
    intro i n hm hi
    have key := fun D k => uh_step R n f l l.length i H D k
    by_cases hlt : i < l.length
    · have ed := drop_cons_of l i 0 hlt
      simp (disch := omega) only [dT, cond_true, Bool.and_self, Int.toNat_natCast, wrap_add1] at key
      rw [ed, uhM]
      replace key : ∀ (D : List (FuncId × List AVal)) (k : Kont), lturn Tryz.prog layY2 (uhFH R) 73 7 [4,16,17,18] [] [2,3,4] [] (stL 33 [4,16,17,18] [.int .i64 n, encL f byteRow 0 l, .int .i64 l.length, .int .i64 (i : Nat)] [] [] H D) k = bif decide (hexD (l.getD i 0) < 0) then k .ret (stL 33 [2,3,4] [.int .i64 0, .int .i64 33, .int .i64 n] [] [] H D) else k .normal (stL 33 [4,16,17,18] [.int .i64 (hexS n (hexD (l.getD i 0))), encL f byteRow 0 l, .int .i64 l.length, .int .i64 ((i + 1 : Nat) : Int)] [] [] H D) := key
      cases hc : decide (hexD (l.getD i 0) < 0) with
      | true =>
        simp only [hc, cond_true] at key ⊢
        exact ⟨(fun h => by cases h), fun _ => .stop (by simp) key⟩
      | false =>
        simp only [hc, cond_false] at key ⊢
        have := ih (i + 1) (hexS n (hexD (l.getD i 0))) (by omega) (by omega)
        exact ⟨fun h => .step key (this.1 h), fun h => .step key (this.2 h)⟩
    · have e : l.drop i = [] := List.drop_eq_nil_of_le (by omega)
      rw [e]
      refine ⟨fun _ => .stop (by simp) (fun D k => ?_), (fun h => by cases h)⟩
      rw [uh_step]
      simp (disch := omega) only [dF, cond_false]
      rfl
theorem uhSp_ok : SpOK (lturn Tryz.prog layY2 (uhFH uhM) 73 7 [4,16,17,18] [] [2,3,4] []) 33 [4,16,17,18] [] [2,3,4] [] (uhSp uhM) := mkL_ok fun a h => by
  obtain ⟨n, f, l, m, i, H⟩ := a
  obtain ⟨h1, h2, h3⟩ := h
  simp only at h1 h2 h3
  subst h3
  have key := uh_runs f l h2 H uhM _ i n (Nat.le_refl _) h1
  show ∃ e vs bs H', (∀ k : AExit → List AVal → List (List AVal) → Heap → Ans, cond (uhM n (l.drop i)).1 _ _ = k e vs bs H') ∧ _
  cases hb : (uhM n (l.drop i)).1 with
  | true => exact ⟨_, _, _, _, fun k => rfl, key.1 hb⟩
  | false => exact ⟨_, _, _, _, fun k => rfl, key.2 hb⟩
noncomputable def layY4 (R : UhR) : Lay := layY2.addL 73 (uhFH R)
theorem uh_fun (R : UhR) (s : List UInt8) (k : Out → Ans) : iFun Tryz.prog ((layY4 R).hd Tryz.prog) (layY4 R).fhs 0 73 [.str s] [] k = (
 let n0 : Int := (↑s.length : Int);
 let l1 : List UInt8 :=
  decL (fun (r : List AVal) => byteOf r)
  (AVal.list false s.length fun (i : Nat) => [AVal.int IntKind.u8 (↑(s.getD i 0).toNat : Int)]);
 let m2 : Nat := l1.length;
  bif s == [] then k (Out.ret (AVal.tuple [AVal.int IntKind.i64 0, AVal.int IntKind.i64 8]) [])
  else
  bif decide (n0 > 8) then k (Out.ret (AVal.tuple [AVal.int IntKind.i64 0, AVal.int IntKind.i64 5]) [])
  else
  bif
  tst
  ((Int.toNat 0 ≤ m2 ∧ m2 ≤ 1099511627776 ∧ n0 = (↑m2 : Int)) ∧
  SubTL
  [AVal.int IntKind.i64 0,
  AVal.list false s.length fun (i : Nat) => [AVal.int IntKind.u8 (↑(s.getD i 0).toNat : Int)],
  AVal.int IntKind.i64 n0, AVal.int IntKind.i64 0]
  [AVal.int IntKind.i64 0,
  AVal.list false m2 fun (i : Nat) =>
  [AVal.int IntKind.u8
  (↑((decL (fun (r : List AVal) => byteOf r)
  (AVal.list false s.length fun (i : Nat) =>
  [AVal.int IntKind.u8 (↑(s.getD i 0).toNat : Int)])).getD
  i 0).toNat :
  Int)],
  AVal.int IntKind.i64 n0, AVal.int IntKind.i64 (↑(Int.toNat 0) : Int)] ∧
  ([] : List (List AVal)) = [] ∧ ([] : Heap) = []) then
  bif (R 0 (List.drop (Int.toNat 0) l1)).fst then
  k
  (Out.ret (AVal.tuple [AVal.int IntKind.i64 (R 0 (List.drop (Int.toNat 0) l1)).snd, AVal.int IntKind.i64 0])
  [])
  else k (Out.ret (AVal.tuple [AVal.int IntKind.i64 0, AVal.int IntKind.i64 33]) [])
  else none) := by kernel_rfl
theorem layY4_ok : (layY4 uhM).OK Tryz.prog := layY2_ok.loop1 (id := 7) (by kernel_rfl) (by kernel_rfl) (by kernel_rfl) uhSp_ok
def unhexM (s : List UInt8) : Int × Int := bif s == [] then (0, 8) else bif decide ((s.length : Int) > 8) then (0, 5) else bif (uhM 0 s).1 then ((uhM 0 s).2, 0) else (0, 33)
def unhexTold : FSp := mkFS [.s] (fun _ => true) (fun xs k => k (.ret (.tuple [.int .i64 (unhexM (aS xs 0)).1, .int .i64 (unhexM (aS xs 0)).2]) []))
theorem bytes_back (s : List UInt8) : decL (fun (r : List AVal) => byteOf r) (AVal.list false s.length fun (i : Nat) => [AVal.int IntKind.u8 ((s.getD i 0).toNat : Int)]) = s := decL_encL (d := 0) (full := false) decB_enc s
theorem unhexTold_ok : ∀ xs H k out, unhexTold xs H k = some out → ∃ o, CallOK Tryz.prog 73 xs H o ∧ k o = some out := mkFS_ok fun ys xs e h => by
  obtain ⟨s, rfl⟩ : ∃ s, xs = [.str s] := ⟨_, e⟩
  refine ⟨_, fun k => rfl, layY4_ok.callF (G := []) rfl (fun k => (uh_fun uhM s k).trans ?_)⟩
  show _ = k (.ret (.tuple [.int .i64 (unhexM s).1, .int .i64 (unhexM s).2]) [])
  unfold unhexM
  simp only [bytes_back]
  cases s == [] with
  | true => rfl
  | false =>
    simp only [cond_false]
    by_cases h8 : (s.length : Int) > 8
    · rw [dT h8]; rfl
    · rw [dF h8]
      simp only [cond_false]
      refine (congrArg (fun c => cond c _ none) (tst_true ⟨⟨Nat.zero_le _, by omega, trivial⟩, .refl _, by trivial⟩)).trans ?_
      simp only [cond_true, Int.toNat_zero, List.drop_zero]
      cases (uhM 0 s).1 <;> rfl
noncomputable def layY5 : Lay := (Lay.nil.addF 73 unhexTold)
theorem layY5_ok : layY5.OK Tryz.prog := Lay.nil_ok.addF unhexTold_ok
noncomputable def vaSp (R : Int → List UInt8 → Int) : LSp := mkL (fun vs _ H => UhA.mk (aI vs 0) (fullOf (vs.getD 1 .undef)) (decL decB (vs.getD 1 .undef)) (aI vs 2) (aI vs 3).toNat H) (fun a => a.i ≤ a.l.length ∧ a.l.length ≤ 1099511627776 ∧ a.m = a.l.length) (fun a => [.int .i64 a.n, encL a.f byteRow 0 a.l, .int .i64 a.m, .int .i64 a.i]) (fun _ => []) (fun a => a.H)
  (fun a k => k (.exit 0) [.int .i64 (R a.n (a.l.drop a.i))] [] a.H)
noncomputable def vaFH (R : Int → List UInt8 → Int) : FH := .of [(6, loopSpec 32 [7,18,19,20] [] [7] [] (vaSp R))]
theorem va_step (R : Int → List UInt8 → Int) (n : Int) (f : Bool) (l : List UInt8) (m i : Int) (H : Heap) (D : List (FuncId × List AVal)) (k : Kont) : lturn Tryz.prog layY5 (vaFH R) 62 6 [7,18,19,20] [] [7] [] (stL 32 [7,18,19,20] [.int .i64 n, encL f byteRow 0 l, .int .i64 m, .int .i64 i] [] [] H D) k = (
  bif decide (i < m) then
  bif decide (0 ≤ i) && decide (i < (↑l.length : Int)) then
  k AExit.normal
  (stL 32 [7, 18, 19, 20]
  [AVal.int IntKind.i64
  (IntKind.i64.wrap
  (IntKind.i64.wrap (n * 10) +
  IntKind.i64.wrap (IntKind.u8.wrap ((↑(l.getD i.toNat 0).toNat : Int) - 48)))),
  AVal.list f l.length fun (i : Nat) => [AVal.int IntKind.u8 (↑(l.getD i 0).toNat : Int)],
  AVal.int IntKind.i64 m, AVal.int IntKind.i64 (IntKind.i64.wrap (i + 1))]
  [] [] H D)
  else none
  else k (AExit.exit 0) (stL 32 [7] [AVal.int IntKind.i64 n] [] [] H D)) := by kernel_rfl
theorem va_runs (f : Bool) (l : List UInt8) (hs : l.length ≤ 1099511627776) (H : Heap) (R : Int → List UInt8 → Int) : ∀ (m i : Nat) (n : Int), l.length - i ≤ m → i ≤ l.length →
    LoopRuns (lturn Tryz.prog layY5 (vaFH R) 62 6 [7,18,19,20] [] [7] []) 32 [7,18,19,20] [] [7] [] [.int .i64 n, encL f byteRow 0 l, .int .i64 l.length, .int .i64 (i : Nat)] [] H (.exit 0) [.int .i64 (vaM n (l.drop i))] [] H := by
  intro m
  induction m with
  | zero =>
    intro i n hm hi
    have e : l.drop i = [] := List.drop_eq_nil_of_le (by omega)
    rw [e]
    refine .stop (by simp) (fun D k => ?_)
    rw [va_step]
    simp (disch := omega) only [dF, cond_false]
    rfl
  | succ m ih =>
    intro i n hm hi
    have key := fun D k => va_step R n f l l.length i H D k
    by_cases hlt : i < l.length
    · have ed := drop_cons_of l i 0 hlt
      simp (disch := omega) only [dT, cond_true, Bool.and_self, Int.toNat_natCast, wrap_add1] at key
      rw [ed]
      replace key : ∀ (D : List (FuncId × List AVal)) (k : Kont), lturn Tryz.prog layY5 (vaFH R) 62 6 [7,18,19,20] [] [7] [] (stL 32 [7,18,19,20] [.int .i64 n, encL f byteRow 0 l, .int .i64 l.length, .int .i64 (i : Nat)] [] [] H D) k = k .normal (stL 32 [7,18,19,20] [.int .i64 (vaS n (l.getD i 0)), encL f byteRow 0 l, .int .i64 l.length, .int .i64 ((i + 1 : Nat) : Int)] [] [] H D) := key
      exact .step key (ih (i + 1) (vaS n (l.getD i 0)) (by omega) (by omega))
    · have e : l.drop i = [] := List.drop_eq_nil_of_le (by omega)
      rw [e]
      refine .stop (by simp) (fun D k => ?_)
      rw [va_step]
      simp (disch := omega) only [dF, cond_false]
      rfl
theorem vaSp_ok : SpOK (lturn Tryz.prog layY5 (vaFH vaM) 62 6 [7,18,19,20] [] [7] []) 32 [7,18,19,20] [] [7] [] (vaSp vaM) := mkL_ok fun a h => by
  obtain ⟨n, f, l, m, i, H⟩ := a
  obtain ⟨h1, h2, h3⟩ := h
  simp only at h1 h2 h3
  subst h3
  exact ⟨_, _, _, _, fun k => rfl, va_runs f l h2 H vaM _ i n (Nat.le_refl _) h1⟩
end Go.Mu
set_option linter.unusedVariables false
set_option linter.unusedSimpArgs false
set_option maxRecDepth 100000
namespace Go.Mu
open Go Go.Proofs
noncomputable def laySm : Lay := Lay.nil.addF 81 smTold
theorem laySm_ok : laySm.OK Tryz.prog := Lay.nil_ok.addF smTold_ok
structure TuA where
  q : Nat
  n : Int
  v : Nat
  rows : List (List AVal)
  i : Nat
def allB (rows : List (List AVal)) : Bool := rows.all isByteRow
def ownL : AVal → Nat
  | .own _ _ n _ _ => n
  | _ => 0
def tuR (rows : List (List AVal)) (i : Nat) : List (List AVal) := rows.take i ++ (rows.drop i).map (fun r => [.int .u8 (smM (intOf (r.getD 0 .undef)))])
noncomputable def tuSp (R : List (List AVal) → Nat → List (List AVal)) : LSp := mkL (fun vs _ H => TuA.mk (ownL (vs.getD 1 .undef)) (aI vs 3) (verO (H.getD 0 (.var []))) (rowsO (H.getD 0 (.var []))) (aI vs 4).toNat) (fun a => a.q = a.rows.length ∧ a.n = a.rows.length ∧ a.i ≤ a.rows.length ∧ a.rows.length ≤ 1099511627776 ∧ allB a.rows = true)
  (fun a => [.func 81 [], .own 0 0 a.q a.v false, .own 0 0 a.q a.v false, .int .i64 a.n, .int .i64 (a.i : Nat)]) (fun _ => []) (fun a => [.arr 1 a.rows a.v])
  (fun a k => k (.exit 0) [.own 0 0 a.q a.v false] [] [.arr 1 (R a.rows a.i) a.v])
noncomputable def tuFH (R : List (List AVal) → Nat → List (List AVal)) : FH := { FH.of [(3, loopSpec 26 [1,5,10,11,12] [] [5] [] (tuSp R))] with own := [9] }
theorem tu_step (R : List (List AVal) → Nat → List (List AVal)) (n v : Nat) (m i : Int) (rows : List (List AVal)) (D : List (FuncId × List AVal)) (k : Kont) : lturn Tryz.prog laySm (tuFH R) 80 3 [1,5,10,11,12] [] [5] [] (stL 26 [1,5,10,11,12] [.func 81 [], .own 0 0 n v false, .own 0 0 n v false, .int .i64 m, .int .i64 i] [] [] [.arr 1 rows v] D) k = (
 let c0 : Bool := v == v;
 let c1 : Bool := c0 && decide (0 ≤ i) && decide (i < (↑n : Int));
 let m2 : Nat := 0 + i.toNat;
 let c3 : Bool := c0 && decide (m2 < rows.length) && true;
  bif decide (i < m) then
  bif c1 then
  bif c3 && isInt IntKind.u8 ((rows.getD m2 []).getD 0 AVal.undef) then
  bif c1 then
  bif c3 then
  k AExit.normal
  (stL 26 [1, 5, 10, 11, 12]
  [AVal.func 81 [], AVal.own 0 0 n v false, AVal.own 0 0 n v false, AVal.int IntKind.i64 m,
  AVal.int IntKind.i64 (IntKind.i64.wrap (i + 1))]
  [] []
  [Obj.arr 1
  (rows.set m2
  ((rows.getD m2 []).set 0 (AVal.int IntKind.u8 (smM (intOf ((rows.getD m2 []).getD 0 AVal.undef))))))
  v]
  D)
  else none
  else none
  else none
  else none
  else k (AExit.exit 0) (stL 26 [5] [AVal.own 0 0 n v false] [] [] [Obj.arr 1 rows v] D)) := by kernel_rfl
noncomputable def layTu (R : List (List AVal) → Nat → List (List AVal)) : Lay := laySm.addL 80 (tuFH R)
theorem lower_fun (R : List (List AVal) → Nat → List (List AVal)) (s : List UInt8) (k : Out → Ans) : iFun Tryz.prog ((layTu R).hd Tryz.prog) (layTu R).fhs 0 69 [.str s] [] k = (
 let m0 : Nat := ownL (AVal.own 0 0 s.length 0 false);
 let m1 : Nat := (List.map (fun (c : UInt8) => [AVal.int IntKind.u8 (↑c.toNat : Int)]) s).length;
 let n2 : Int := (↑s.length : Int);
  bif
  tst
  ((m0 = m1 ∧
  n2 = (↑m1 : Int) ∧
  Int.toNat 0 ≤ m1 ∧
  m1 ≤ 1099511627776 ∧
  allB (List.map (fun (c : UInt8) => [AVal.int IntKind.u8 (↑c.toNat : Int)]) s) = true) ∧
  SubTL
  [AVal.func 81 [], AVal.own 0 0 s.length 0 false, AVal.own 0 0 s.length 0 false, AVal.int IntKind.i64 n2,
  AVal.int IntKind.i64 0]
  [AVal.func 81 [], AVal.own 0 0 m0 0 false, AVal.own 0 0 m0 0 false, AVal.int IntKind.i64 n2,
  AVal.int IntKind.i64 (↑(Int.toNat 0) : Int)] ∧
  ([] : List (List AVal)) = [] ∧
  [Obj.arr 1 (List.map (fun (c : UInt8) => [AVal.int IntKind.u8 (↑c.toNat : Int)]) s) 0] =
  [Obj.arr 1 (List.map (fun (c : UInt8) => [AVal.int IntKind.u8 (↑c.toNat : Int)]) s) 0]) then
  bif
  decide
  (0 + m0 ≤
  (R (List.map (fun (c : UInt8) => [AVal.int IntKind.u8 (↑c.toNat : Int)]) s) (Int.toNat 0)).length) &&
  (List.take m0
  (List.drop 0
  (R (List.map (fun (c : UInt8) => [AVal.int IntKind.u8 (↑c.toNat : Int)]) s) (Int.toNat 0)))).all
  fun (r : List AVal) =>
  match r with
  | [v] => isInt IntKind.u8 v
  | x => false then
  k
  (Out.ret
  (AVal.str
  (List.map (fun (r : List AVal) => UInt8.ofNat (intOf (r.getD 0 AVal.undef)).toNat)
  (List.take m0
  (List.drop 0
  (R (List.map (fun (c : UInt8) => [AVal.int IntKind.u8 (↑c.toNat : Int)]) s) (Int.toNat 0))))))
  [])
  else none
  else none) := by kernel_rfl
def subR (r : List AVal) : List AVal := [.int .u8 (smM (intOf (r.getD 0 .undef)))]
theorem allB_get {rows : List (List AVal)} (h : allB rows = true) {i : Nat} (hi : i < rows.length) : ∃ v, rows.getD i [] = [v] ∧ isInt .u8 v = true := by
  unfold allB at h
  rw [List.all_eq_true] at h
  have hm : rows.getD i [] ∈ rows := by
    rw [List.getD_eq_getElem?_getD, List.getElem?_eq_getElem hi]
    exact List.getElem_mem _
  have := h _ hm
  match hr : rows.getD i [], this with
  | [v], hv => exact ⟨v, rfl, hv⟩
theorem tuR_step {rows : List (List AVal)} {i : Nat} (hi : i < rows.length) : tuR (rows.set i (subR (rows.getD i []))) (i + 1) = tuR rows i := by
  unfold tuR
  have e1 : rows.drop i = rows.getD i [] :: rows.drop (i + 1) := drop_cons_of rows i [] hi
  have e2 : (rows.set i (subR (rows.getD i []))).drop (i + 1) = rows.drop (i + 1) := List.drop_set_of_lt (by omega)
  have e3 : (rows.set i (subR (rows.getD i []))).take (i + 1) = rows.take i ++ [subR (rows.getD i [])] := by
    rw [List.take_add_one, List.take_set_of_le (by omega), List.getElem?_set_self hi]
    rfl
  rw [e1, e2, e3, List.map_cons, List.append_assoc]
  rfl
theorem allB_set {rows : List (List AVal)} (h : allB rows = true) (i : Nat) (n : Int) : allB (rows.set i [.int .u8 n]) = true := by
  unfold allB at h ⊢
  rw [List.all_eq_true] at h ⊢
  intro r hr
  rcases List.mem_or_eq_of_mem_set hr with hr | rfl
  · exact h r hr
  · rfl
noncomputable abbrev tuTurn (R : List (List AVal) → Nat → List (List AVal)) := lturn Tryz.prog laySm (tuFH R) 80 3 [1,5,10,11,12] [] [5] []
theorem tu_runs (R : List (List AVal) → Nat → List (List AVal)) (v : Nat) : ∀ (m i : Nat) (rows : List (List AVal)), rows.length - i ≤ m → i ≤ rows.length → rows.length ≤ 1099511627776 → allB rows = true →
    LoopRuns (tuTurn R) 26 [1,5,10,11,12] [] [5] [] [.func 81 [], .own 0 0 rows.length v false, .own 0 0 rows.length v false, .int .i64 rows.length, .int .i64 (i : Nat)] [] [.arr 1 rows v] (.exit 0) [.own 0 0 rows.length v false] [] [.arr 1 (tuR rows i) v] := by
  intro m
  induction m with
  | zero =>
    intro i rows hm hi hl hb
    have e : tuR rows i = rows := by unfold tuR; rw [List.drop_eq_nil_of_le (by omega), List.take_of_length_le (by omega)]; simp
    rw [e]
    refine .stop (by simp) (fun D k => ?_)
    refine (tu_step R rows.length v rows.length i rows D k).trans ?_
    simp (disch := omega) only [dF, cond_false]
  | succ m ih =>
    intro i rows hm hi hl hb
    have key := fun D k => tu_step R rows.length v rows.length i rows D k
    by_cases hlt : i < rows.length
    · obtain ⟨x, hx, hx2⟩ := allB_get hb hlt
      have e1 : IntKind.i64.wrap ((i : Int) + 1) = ((i + 1 : Nat) : Int) := wrap_add1 (by omega)
      simp (disch := omega) only [dT, cond_true, Bool.and_self, beq_self_eq_true, Int.toNat_natCast, Nat.zero_add, hx, List.getD_cons_zero, hx2, e1, Bool.and_true] at key
      have hs : [x].set 0 (AVal.int .u8 (smM (intOf x))) = subR (rows.getD i []) := by rw [hx]; rfl
      rw [hs] at key
      have ih2 := ih (i + 1) (rows.set i (subR (rows.getD i []))) (by rw [List.length_set]; omega) (by rw [List.length_set]; omega) (by rw [List.length_set]; omega) (allB_set hb _ _)
      rw [tuR_step hlt, List.length_set] at ih2
      exact .step key ih2
    · have e : tuR rows i = rows := by unfold tuR; rw [List.drop_eq_nil_of_le (by omega), List.take_of_length_le (by omega)]; simp
      rw [e]
      refine .stop (by simp) (fun D k => ?_)
      refine (tu_step R rows.length v rows.length i rows D k).trans ?_
      simp (disch := omega) only [dF, cond_false]
theorem tuSp_ok : SpOK (tuTurn tuR) 26 [1,5,10,11,12] [] [5] [] (tuSp tuR) := mkL_ok fun a h => by
  obtain ⟨q, n, v, rows, i⟩ := a
  obtain ⟨h0, h1, h2, h3, h4⟩ := h
  simp only at h0 h1 h2 h3 h4
  subst h0 h1
  exact ⟨_, _, _, _, fun k => rfl, tu_runs tuR v _ i rows (Nat.le_refl _) h2 h3 h4⟩
theorem layTu_ok : (layTu tuR).OK Tryz.prog := laySm_ok.loop1 (id := 3) (by kernel_rfl) (by kernel_rfl) (by kernel_rfl) tuSp_ok
def lowC (c : UInt8) : UInt8 := UInt8.ofNat (smM (c.toNat : Int)).toNat
def lowM (s : List UInt8) : List UInt8 := s.map lowC
theorem tuR_all (s : List UInt8) : tuR (s.map fun c => [AVal.int IntKind.u8 (c.toNat : Int)]) 0 = s.map fun c => [AVal.int IntKind.u8 (smM (c.toNat : Int))] := by
  unfold tuR
  rw [List.take_zero, List.nil_append, List.drop_zero, List.map_map]
  rfl
theorem lower_call (s : List UInt8) (hs : s.length ≤ 1099511627776) (k : Out → Ans) : iFun Tryz.prog ((layTu tuR).hd Tryz.prog) (layTu tuR).fhs 0 69 [.str s] [] k = k (.ret (.str (lowM s)) []) := by
  refine (lower_fun tuR s k).trans ?_
  have hb : allB (s.map fun c => [AVal.int IntKind.u8 (c.toNat : Int)]) = true := by
    unfold allB
    rw [List.all_eq_true]
    intro r hr
    obtain ⟨c, _, rfl⟩ := List.mem_map.1 hr
    rfl
  have hl : (s.map fun c => [AVal.int IntKind.u8 (c.toNat : Int)]).length = s.length := List.length_map _
  refine (congrArg (fun c => cond c _ none) (tst_true ⟨⟨by rw [hl]; rfl, by rw [hl], Nat.zero_le _, by rw [hl]; exact hs, hb⟩, .refl _, rfl, rfl⟩)).trans ((cond_true _ _).trans ?_)
  have e0 : Int.toNat 0 = 0 := rfl
  rw [e0, tuR_all]
  have hm : ownL (AVal.own 0 0 s.length 0 false) = s.length := rfl
  rw [hm, List.drop_zero]
  have ht : (s.map fun c => [AVal.int IntKind.u8 (smM (c.toNat : Int))]).take s.length = s.map fun c => [AVal.int IntKind.u8 (smM (c.toNat : Int))] := List.take_of_length_le (by simp)
  rw [ht, dT (by simp)]
  have ha : ((s.map fun c => [AVal.int IntKind.u8 (smM (c.toNat : Int))]).all fun (r : List AVal) => match r with | [v] => isInt IntKind.u8 v | x => false) = true := by
    rw [List.all_eq_true]
    intro r hr
    obtain ⟨c, _, rfl⟩ := List.mem_map.1 hr
    rfl
  rw [ha, List.map_map]
  rfl
def lowTold : FSp := mkFS [.s] (fun xs => decide ((aS xs 0).length ≤ 1099511627776)) (fun xs k => k (.ret (.str (lowM (aS xs 0))) []))
theorem lowTold_ok : ∀ xs H k out, lowTold xs H k = some out → ∃ o, CallOK Tryz.prog 69 xs H o ∧ k o = some out := mkFS_ok fun ys xs e h => by
  obtain ⟨s, rfl⟩ : ∃ s, xs = [.str s] := ⟨_, e⟩
  have h2 : s.length ≤ 1099511627776 := of_decide_eq_true h
  exact ⟨_, fun k => rfl, layTu_ok.callF (G := []) rfl (fun k => lower_call s h2 k)⟩
end Go.Mu
set_option linter.unusedVariables false
set_option linter.unusedSimpArgs false
set_option maxRecDepth 100000
namespace Go.Mu
open Go Go.Proofs
noncomputable def layY6 (R : Int → List UInt8 → Int) : Lay := layY5.addL 62 (vaFH R)
theorem va_fun (R : Int → List UInt8 → Int) (s : List UInt8) (b : Bool) (k : Out → Ans) : iFun Tryz.prog ((layY6 R).hd Tryz.prog) (layY6 R).fhs 0 62 [.str s, .bool b] [] k = (
 let l0 : List UInt8 :=
  decL (fun (r : List AVal) => byteOf r)
  (AVal.list false s.length fun (i : Nat) => [AVal.int IntKind.u8 (↑(s.getD i 0).toNat : Int)]);
 let m1 : Nat := l0.length;
 let n2 : Int := (↑s.length : Int);
  bif b then k (Out.ret (AVal.int IntKind.i64 (unhexM s).fst) [])
  else
  bif
  tst
  ((Int.toNat 0 ≤ m1 ∧ m1 ≤ 1099511627776 ∧ n2 = (↑m1 : Int)) ∧
  SubTL
  [AVal.int IntKind.i64 0,
  AVal.list false s.length fun (i : Nat) => [AVal.int IntKind.u8 (↑(s.getD i 0).toNat : Int)],
  AVal.int IntKind.i64 n2, AVal.int IntKind.i64 0]
  [AVal.int IntKind.i64 0,
  AVal.list false m1 fun (i : Nat) =>
  [AVal.int IntKind.u8
  (↑((decL (fun (r : List AVal) => byteOf r)
  (AVal.list false s.length fun (i : Nat) =>
  [AVal.int IntKind.u8 (↑(s.getD i 0).toNat : Int)])).getD
  i 0).toNat :
  Int)],
  AVal.int IntKind.i64 n2, AVal.int IntKind.i64 (↑(Int.toNat 0) : Int)] ∧
  ([] : List (List AVal)) = [] ∧ ([] : Heap) = []) then
  k (Out.ret (AVal.int IntKind.i64 (R 0 (List.drop (Int.toNat 0) l0))) [])
  else none) := by kernel_rfl
def Leaf (F : (Out → Ans) → Ans) : Prop := ∃ (t : List UInt8) (e : Int), t.length ≤ 4 ∧ ∀ k, F k = k (.ret (.tuple [.str t, .int .i64 e]) [])
theorem leaf_bif {b : Bool} {F G : (Out → Ans) → Ans} (h1 : Leaf F) (h2 : Leaf G) : Leaf (fun k => bif b then F k else G k) := by
  cases b
  · exact h2
  · exact h1
theorem leaf_k (t : List UInt8) (e : Int) (h : t.length ≤ 4) : Leaf (fun k => k (.ret (.tuple [.str t, .int .i64 e]) [])) := ⟨t, e, h, fun k => rfl⟩
theorem encode_leaf (n : Int) : Leaf (fun k => iFun Tryz.prog (Lay.nil.hd Tryz.prog) Lay.nil.fhs 0 63 [.int .i64 n] [] k) := by
  have e := funext (encode_fun n)
  rw [show (fun k => iFun Tryz.prog (Lay.nil.hd Tryz.prog) Lay.nil.fhs 0 63 [.int .i64 n] [] k) = _ from e]
  dsimp only
  repeat' (first | exact leaf_k _ _ (by simp) | refine leaf_bif ?_ ?_)
noncomputable def encS' (n : Int) : List UInt8 := Classical.choose (encode_leaf n)
noncomputable def encE (n : Int) : Int := Classical.choose (Classical.choose_spec (encode_leaf n))
theorem encS_len (n : Int) : (encS' n).length ≤ 4 := (Classical.choose_spec (Classical.choose_spec (encode_leaf n))).1
theorem encode_is (n : Int) (k : Out → Ans) : iFun Tryz.prog (Lay.nil.hd Tryz.prog) Lay.nil.fhs 0 63 [.int .i64 n] [] k = k (.ret (.tuple [.str (encS' n), .int .i64 (encE n)]) []) := (Classical.choose_spec (Classical.choose_spec (encode_leaf n))).2 k
noncomputable def encTold : FSp := mkFS [.i .i64] (fun _ => true) (fun xs k => k (.ret (.tuple [.str (encS' (aI xs 0)), .int .i64 (encE (aI xs 0))]) []))
theorem encTold_ok : ∀ xs H k out, encTold xs H k = some out → ∃ o, CallOK Tryz.prog 63 xs H o ∧ k o = some out := mkFS_ok fun ys xs e h => by
  obtain ⟨n, rfl⟩ : ∃ n, xs = [.int .i64 n] := ⟨_, e⟩
  exact ⟨_, fun k => rfl, Lay.nil_ok.callF (G := []) rfl (fun k => encode_is n k)⟩
def valA (s : List UInt8) (b : Bool) : Int := bif b then (unhexM s).1 else vaM 0 s
theorem layY6_ok : (layY6 vaM).OK Tryz.prog := layY5_ok.loop1 (id := 6) (by kernel_rfl) (by kernel_rfl) (by kernel_rfl) vaSp_ok
def valTold : FSp := mkFS [.s, .b] (fun xs => decide ((aS xs 0).length ≤ 1099511627776)) (fun xs k => k (.ret (.int .i64 (valA (aS xs 0) (aB xs 1))) []))
theorem valTold_ok : ∀ xs H k out, valTold xs H k = some out → ∃ o, CallOK Tryz.prog 62 xs H o ∧ k o = some out := mkFS_ok fun ys xs e h => by
  obtain ⟨s, b, rfl⟩ : ∃ s b, xs = [.str s, .bool b] := ⟨_, _, e⟩
  replace h : s.length ≤ 1099511627776 := of_decide_eq_true h
  refine ⟨_, fun k => rfl, layY6_ok.callF (G := []) rfl (fun k => (va_fun vaM s b k).trans ?_)⟩
  show _ = k (.ret (.int .i64 (valA s b)) [])
  unfold valA
  simp only [bytes_back]
  cases b with
  | true => rfl
  | false =>
    simp only [cond_false]
    refine (congrArg (fun c => cond c _ none) (tst_true ⟨⟨Nat.zero_le _, h, trivial⟩, .refl _, by trivial⟩)).trans ?_
    simp only [cond_true, Int.toNat_zero, List.drop_zero]
noncomputable def layY7 : Lay := (((Lay.nil.addF 58 ibTold).addF 61 numrTold).addF 62 valTold).addF 63 encTold
theorem layY7_ok : layY7.OK Tryz.prog := (((Lay.nil_ok.addF ibTold_ok).addF numrTold_ok).addF valTold_ok).addF encTold_ok
theorem rone_fun (s : List UInt8) (k : Out → Ans) (n0 : Int) (e_n0 : n0 = ((↑s.length : Int)))
  (c1 : Bool) (e_c1 : c1 = (s == []))
  (n2 : Int) (e_n2 : n2 = (if 16 < n0 then 16 else n0))
  (n3 : Int) (e_n3 : n3 = (ibM (List.drop (Int.toNat 0) (List.take n2.toNat s)) 59))
  (c4 : Bool) (e_c4 : c4 = (decide (1 ≤ n3) && decide (n3 ≤ n0)))
  (l5 : List UInt8) (e_l5 : l5 = (List.drop (Int.toNat 1) (List.take n3.toNat s)))
  (m6 : Nat) (e_m6 : m6 = (l5.length))
  (n7 : Int) (e_n7 : n7 = ((↑m6 : Int)))
  (c8 : Bool) (e_c8 : c8 = (decide (1 ≤ n7)))
  (c9 : Bool) (e_c9 : c9 = (decide (n7 ≥ 1)))
  (l10 : List UInt8) (e_l10 : l10 = (List.drop (Int.toNat 1) (List.take n7.toNat l5)))
  (m11 : Nat) (e_m11 : m11 = (l10.length))
  (n12 : Int) (e_n12 : n12 = ((↑m11 : Int)))
  (c13 : Bool) (e_c13 : c13 = (l10 == []))
  (c14 : Bool) (e_c14 : c14 = (!c13))
  (l15 : List UInt8) (e_l15 : l15 = (List.drop (Int.toNat 1) (List.take n12.toNat l10)))
  (c16 : Bool) (e_c16 : c16 = (decide (l15.length ≤ 1099511627776)))
  (n17 : Int) (e_n17 : n17 = (valA l15 true))
  (c18 : Bool) (e_c18 : c18 = (decide (m11 ≤ 1099511627776)))
  (n19 : Int) (e_n19 : n19 = (valA l10 false)) : iFun Tryz.prog (layY7.hd Tryz.prog) layY7.fhs 0 46 [.str s] [] k = (
  bif decide (0 < n0) || !!c1 then
  bif bif c1 then true else (↑(s.getD 0 0).toNat : Int) != 38 then
  k (Out.ret (AVal.tuple [AVal.str [], AVal.int IntKind.i64 0]) [])
  else
  bif decide (0 ≤ n2) && decide (n2 ≤ n0) then
  bif decide (n3 < 0) then k (Out.ret (AVal.tuple [AVal.str [], AVal.int IntKind.i64 0]) [])
  else
  bif c4 then
  bif l5 == [97, 109, 112] then
  k (Out.ret (AVal.tuple [AVal.str [38], AVal.int IntKind.i64 (IntKind.i64.wrap (n3 + 1))]) [])
  else
  bif l5 == [108, 116] then
  k (Out.ret (AVal.tuple [AVal.str [60], AVal.int IntKind.i64 (IntKind.i64.wrap (n3 + 1))]) [])
  else
  bif l5 == [103, 116] then
  k (Out.ret (AVal.tuple [AVal.str [62], AVal.int IntKind.i64 (IntKind.i64.wrap (n3 + 1))]) [])
  else
  bif l5 == [113, 117, 111, 116] then
  k (Out.ret (AVal.tuple [AVal.str [34], AVal.int IntKind.i64 (IntKind.i64.wrap (n3 + 1))]) [])
  else
  bif l5 == [97, 112, 111, 115] then
  k (Out.ret (AVal.tuple [AVal.str [39], AVal.int IntKind.i64 (IntKind.i64.wrap (n3 + 1))]) [])
  else
  bif c4 then
  bif c8 || !c9 then
  bif !bif c9 then List.drop (Int.toNat 0) (List.take (Int.toNat 1) l5) == [35] else false then
  bif decide (0 < n7) || true then
  bif decide (m6 ≤ 1099511627776) then
  k (Out.ret (AVal.tuple [AVal.str [], AVal.int IntKind.i64 0]) [])
  else none
  else none
  else
  bif c8 && decide (n7 ≤ n7) then
  bif decide (0 < n12) || !c14 then
  bif
  bif c14 then
  IntKind.u8.wrap
  (↑(BitVec.ofInt 8 (↑(l10.getD 0 0).toNat : Int) ||| BitVec.ofInt 8 32).toNat :
  Int) ==
  120
  else false then
  bif decide (1 ≤ n12) && decide (n12 ≤ n12) then
  bif c16 then
  bif bif l15 == [] then true else !numB l15 true then
  k (Out.ret (AVal.tuple [AVal.str [], AVal.int IntKind.i64 0]) [])
  else
  bif c16 then
  bif bif encE n17 != 0 then true else n17 == 0 then
  k
  (Out.ret
  (AVal.tuple
  [AVal.str [239, 191, 189],
  AVal.int IntKind.i64 (IntKind.i64.wrap (n3 + 1))])
  [])
  else
  k
  (Out.ret
  (AVal.tuple
  [AVal.str (encS' n17),
  AVal.int IntKind.i64 (IntKind.i64.wrap (n3 + 1))])
  [])
  else none
  else none
  else none
  else
  bif c18 then
  bif bif c13 then true else !numB l10 false then
  k (Out.ret (AVal.tuple [AVal.str [], AVal.int IntKind.i64 0]) [])
  else
  bif c18 then
  bif bif encE n19 != 0 then true else n19 == 0 then
  k
  (Out.ret
  (AVal.tuple
  [AVal.str [239, 191, 189],
  AVal.int IntKind.i64 (IntKind.i64.wrap (n3 + 1))])
  [])
  else
  k
  (Out.ret
  (AVal.tuple
  [AVal.str (encS' n19), AVal.int IntKind.i64 (IntKind.i64.wrap (n3 + 1))])
  [])
  else none
  else none
  else none
  else none
  else none
  else none
  else none
  else none
  else none) := by
  subst e_n0 e_c1 e_n2 e_n3 e_c4 e_l5 e_m6 e_n7 e_c8 e_c9 e_l10 e_m11 e_n12 e_c13 e_c14 e_l15 e_c16 e_n17 e_c18 e_n19
  kernel_rfl
end Go.Mu
set_option linter.unusedVariables false
set_option linter.unusedSimpArgs false
set_option maxRecDepth 100000
namespace Go.Mu
open Go Go.Proofs
theorem ib_lt : ∀ (l : List UInt8) (c : UInt8), Lib.indexByte l c < l.length
  | [], c => by show (-1 : Int) < 0; decide
  | b :: l, c => by
    have := ib_lt l c
    rw [Lib.indexByte, List.length_cons]
    split
    · omega
    · split <;> omega
def OL (s : List UInt8) (F : (Out → Ans) → Ans) : Prop := ∃ (t : List UInt8) (n : Nat), t.length ≤ 4 ∧ (n = 0 → t = []) ∧ n ≤ s.length ∧ ∀ k, F k = k (.ret (.tuple [.str t, .int .i64 (n : Nat)]) [])
theorem ol_bif {s : List UInt8} {b : Bool} {F G : (Out → Ans) → Ans} (h1 : OL s F) (h2 : OL s G) : OL s (fun k => bif b then F k else G k) := by
  cases b
  · exact h2
  · exact h1
theorem ol_0 (s : List UInt8) : OL s (fun k => k (.ret (.tuple [.str [], .int .i64 0]) [])) := ⟨[], 0, by simp, fun _ => rfl, Nat.zero_le _, fun k => rfl⟩
theorem ol_k {s : List UInt8} (t : List UInt8) (n : Nat) (h : t.length ≤ 4) (h2 : 1 ≤ n ∧ n ≤ s.length) : OL s (fun k => k (.ret (.tuple [.str t, .int .i64 (n : Nat)]) [])) := ⟨t, n, h, fun h0 => by omega, h2.2, fun k => rfl⟩
theorem one_ol (t : List UInt8) (ht : t.length < 1099511627776) : OL (38 :: t) (fun k => iFun Tryz.prog (layY7.hd Tryz.prog) layY7.fhs 0 46 [.str (38 :: t)] [] k) := by
  obtain ⟨s, hs⟩ : ∃ s, s = 38 :: t := ⟨_, rfl⟩
  rw [← hs]
  have hl : s.length = t.length + 1 := by rw [hs]; rfl
  obtain ⟨n0, e0⟩ : ∃ n0 : Int, n0 = s.length := ⟨_, rfl⟩
  obtain ⟨c1, e1⟩ : ∃ c1, c1 = (s == []) := ⟨_, rfl⟩
  obtain ⟨n2, e2⟩ : ∃ n2 : Int, n2 = (if 16 < n0 then 16 else n0) := ⟨_, rfl⟩
  obtain ⟨n3, e3⟩ : ∃ n3, n3 = ibM (List.drop (Int.toNat 0) (List.take n2.toNat s)) 59 := ⟨_, rfl⟩
  obtain ⟨c4, e4⟩ : ∃ c4, c4 = (decide (1 ≤ n3) && decide (n3 ≤ n0)) := ⟨_, rfl⟩
  obtain ⟨l5, e5⟩ : ∃ l5, l5 = List.drop (Int.toNat 1) (List.take n3.toNat s) := ⟨_, rfl⟩
  obtain ⟨m6, e6⟩ : ∃ m6, m6 = l5.length := ⟨_, rfl⟩
  obtain ⟨n7, e7⟩ : ∃ n7 : Int, n7 = m6 := ⟨_, rfl⟩
  obtain ⟨c8, e8⟩ : ∃ c8, c8 = decide (1 ≤ n7) := ⟨_, rfl⟩
  obtain ⟨c9, e9⟩ : ∃ c9, c9 = decide (n7 ≥ 1) := ⟨_, rfl⟩
  obtain ⟨l10, e10⟩ : ∃ l10, l10 = List.drop (Int.toNat 1) (List.take n7.toNat l5) := ⟨_, rfl⟩
  obtain ⟨m11, e11⟩ : ∃ m11, m11 = l10.length := ⟨_, rfl⟩
  obtain ⟨n12, e12⟩ : ∃ n12 : Int, n12 = m11 := ⟨_, rfl⟩
  obtain ⟨c13, e13⟩ : ∃ c13, c13 = (l10 == []) := ⟨_, rfl⟩
  obtain ⟨c14, e14⟩ : ∃ c14, c14 = !c13 := ⟨_, rfl⟩
  obtain ⟨l15, e15⟩ : ∃ l15, l15 = List.drop (Int.toNat 1) (List.take n12.toNat l10) := ⟨_, rfl⟩
  obtain ⟨c16, e16⟩ : ∃ c16, c16 = decide (l15.length ≤ 1099511627776) := ⟨_, rfl⟩
  obtain ⟨n17, e17⟩ : ∃ n17, n17 = valA l15 true := ⟨_, rfl⟩
  obtain ⟨c18, e18⟩ : ∃ c18, c18 = decide (m11 ≤ 1099511627776) := ⟨_, rfl⟩
  obtain ⟨n19, e19⟩ : ∃ n19, n19 = valA l10 false := ⟨_, rfl⟩
  have key := funext (fun k => rone_fun s k n0 e0 c1 e1 n2 e2 n3 e3 c4 e4 l5 e5 m6 e6 n7 e7 c8 e8 c9 e9 l10 e10 m11 e11 n12 e12 c13 e13 c14 e14 l15 e15 c16 e16 n17 e17 c18 e18 n19 e19)
  rw [key]
  clear key
  have h1 : c1 = false := by rw [e1, hs]; rfl
  have hc : (((s.getD 0 0).toNat : Int) != 38) = false := by rw [hs]; rfl
  have g0 : decide (0 < n0) = true := dT (by omega)
  have h2 : 0 ≤ n2 ∧ n2 ≤ n0 := by rw [e2]; split <;> omega
  have h5 : l5.length ≤ s.length := by rw [e5]; simp; omega
  have h10 : l10.length ≤ s.length := by rw [e10]; simp; omega
  have h15 : l15.length ≤ s.length := by rw [e15]; simp; omega
  have g16 : c16 = true := by rw [e16]; exact dT (by omega)
  have g18 : c18 = true := by rw [e18]; exact dT (by omega)
  have g6 : decide (m6 ≤ 1099511627776) = true := dT (by omega)
  have g77 : decide (n7 ≤ n7) = true := dT (Int.le_refl _)
  have g1212 : decide (n12 ≤ n12) = true := dT (Int.le_refl _)
  simp only [h1, hc, g0, dT h2.1, dT h2.2, Bool.true_or, cond_true, cond_false, Bool.and_self]
  by_cases h3 : n3 < 0
  · simp only [dT h3, cond_true]; exact ol_0 s
  have h31 : 1 ≤ n3 ∧ n3 < n2 := by
    have hlt := ib_lt (List.drop (Int.toNat 0) (List.take n2.toNat s)) 59
    have hd : (List.drop (Int.toNat 0) (List.take n2.toNat s)).length = n2.toNat := by simp; omega
    have e3' : n3 = Lib.indexByte (List.drop (Int.toNat 0) (List.take n2.toNat s)) 59 := e3
    refine ⟨?_, by omega⟩
    have hp : 0 < n2.toNat := by rw [e2]; split <;> omega
    obtain ⟨q, hq⟩ : ∃ q, n2.toNat = q + 1 := ⟨n2.toNat - 1, by omega⟩
    rw [hq, hs, List.take_succ_cons] at e3'
    have : n3 = if ((38 : UInt8) == 59) = true then 0 else if (Lib.indexByte (t.take q) 59 == -1) = true then -1 else Lib.indexByte (t.take q) 59 + 1 := e3'
    rw [if_neg (by decide)] at this
    have hge := Lib.indexByte_ge (t.take q) 59
    split at this
    · omega
    · rename_i hne
      have : Lib.indexByte (t.take q) 59 ≠ -1 := by simpa using hne
      omega
  have g4 : c4 = true := by rw [e4, dT h31.1, dT (show n3 ≤ n0 by omega)]; rfl
  have hw : IntKind.i64.wrap (n3 + 1) = (((n3 + 1).toNat : Nat) : Int) := by rw [wrap_of (by omega) (by omega)]; omega
  have hn : 1 ≤ (n3 + 1).toNat ∧ (n3 + 1).toNat ≤ s.length := by omega
  simp only [dF h3, g4, hw, g6, g16, g18, g77, g1212, Bool.and_true, Bool.or_true, cond_true, cond_false]
  by_cases h7 : 1 ≤ n7
  case neg =>
    have g8 : c8 = false := by rw [e8]; exact dF h7
    have g9 : c9 = false := by rw [e9]; exact dF h7
    simp only [g8, g9, Bool.not_false, Bool.or_true, cond_true, cond_false]
    repeat' (first | exact ol_0 s | exact ol_k _ _ (by simp) hn | refine ol_bif ?_ ?_)
  have g8 : c8 = true := by rw [e8]; exact dT h7
  have g9 : c9 = true := by rw [e9]; exact dT h7
  by_cases he : l10 = []
  case pos =>
    have g13 : c13 = true := by rw [e13, he]; rfl
    have g14 : c14 = false := by rw [e14, g13]; rfl
    simp only [g8, g9, g13, g14, Bool.not_false, Bool.or_true, Bool.true_or, cond_true, cond_false]
    repeat' (first | exact ol_0 s | exact ol_k _ _ (by simp) hn | exact ol_k _ _ (encS_len _) hn | refine ol_bif ?_ ?_)
  have hp : 0 < l10.length := List.length_pos_iff.2 he
  have g13 : c13 = false := by rw [e13]; simpa using he
  have g14 : c14 = true := by rw [e14, g13]; rfl
  have g12 : decide (0 < n12) = true := dT (by omega)
  have g12' : decide (1 ≤ n12) = true := dT (by omega)
  simp only [g8, g9, g13, g14, g12, g12', Bool.not_false, Bool.not_true, Bool.or_true, Bool.true_or, cond_true, cond_false]
  repeat' (first | exact ol_0 s | exact ol_k _ _ (by simp) hn | exact ol_k _ _ (encS_len _) hn | refine ol_bif ?_ ?_)
theorem one_any (s : List UInt8) (hs : s.length ≤ 1099511627776) : OL s (fun k => iFun Tryz.prog (layY7.hd Tryz.prog) layY7.fhs 0 46 [.str s] [] k) ∧ ((s.getD 0 0 == 38) = false → ∀ k, iFun Tryz.prog (layY7.hd Tryz.prog) layY7.fhs 0 46 [.str s] [] k = k (.ret (.tuple [.str [], .int .i64 0]) [])) := by
  cases h : s.getD 0 0 == 38 with
  | true =>
    cases s with
    | nil => cases h
    | cons c t =>
      obtain rfl : c = 38 := by simpa using h
      exact ⟨one_ol t (by rw [List.length_cons] at hs; omega), (fun h => by cases h)⟩
  | false =>
    have key : ∀ k, iFun Tryz.prog (layY7.hd Tryz.prog) layY7.fhs 0 46 [.str s] [] k = k (.ret (.tuple [.str [], .int .i64 0]) []) := fun k => by
      refine (rone_fun s k _ rfl _ rfl _ rfl _ rfl _ rfl _ rfl _ rfl _ rfl _ rfl _ rfl _ rfl _ rfl _ rfl _ rfl _ rfl _ rfl _ rfl _ rfl _ rfl _ rfl).trans ?_
      have hc : (((s.getD 0 0).toNat : Int) != 38) = true := by
        have : (((s.getD 0 0).toNat : Int) == 38) = false := by rw [eqc (show 38 < 256 by decide)]; exact h
        show (!((s.getD 0 0).toNat : Int) == 38) = true
        rw [this]; rfl
      cases s with
      | nil => rfl
      | cons c t =>
        rw [dT (show (0 : Int) < ((c :: t).length : Int) by simp), hc]
        rfl
    refine ⟨?_, fun _ => key⟩
    rw [show (fun k => iFun Tryz.prog (layY7.hd Tryz.prog) layY7.fhs 0 46 [.str s] [] k) = _ from funext key]
    exact ol_0 s
open Classical in
noncomputable def oneP (s : List UInt8) : List UInt8 × Nat := if h : s.length ≤ 1099511627776 then (Classical.choose (one_any s h).1, Classical.choose (Classical.choose_spec (one_any s h).1)) else ([], 0)
theorem oneP_is (s : List UInt8) (h : s.length ≤ 1099511627776) : (oneP s).1.length ≤ 4 ∧ ((oneP s).2 = 0 → (oneP s).1 = []) ∧ (oneP s).2 ≤ s.length ∧ ∀ k, iFun Tryz.prog (layY7.hd Tryz.prog) layY7.fhs 0 46 [.str s] [] k = k (.ret (.tuple [.str (oneP s).1, .int .i64 ((oneP s).2 : Nat)]) []) := by
  have := Classical.choose_spec (Classical.choose_spec (one_any s h).1)
  unfold oneP
  rw [dif_pos h]
  exact this
noncomputable def onePTold : FSp := mkFS [.s] (fun xs => decide ((aS xs 0).length ≤ 1099511627776)) (fun xs k => k (.ret (.tuple [.str (oneP (aS xs 0)).1, .int .i64 ((oneP (aS xs 0)).2 : Nat)]) []))
theorem onePTold_ok : ∀ xs H k out, onePTold xs H k = some out → ∃ o, CallOK Tryz.prog 46 xs H o ∧ k o = some out := mkFS_ok fun ys xs e h => by
  obtain ⟨s, rfl⟩ : ∃ s, xs = [.str s] := ⟨_, e⟩
  exact ⟨_, fun k => rfl, layY7_ok.callF (G := []) rfl (fun k => (oneP_is s (of_decide_eq_true h)).2.2.2 k)⟩
end Go.Mu
set_option linter.unusedVariables false
set_option linter.unusedSimpArgs false
set_option maxRecDepth 100000
namespace Go.Proofs
open Go.RowKit Go.Shelf
attribute [local go_sem] Oper.semAt_some
end Go.Proofs
set_option linter.unusedVariables false
set_option linter.unusedSimpArgs false
set_option maxRecDepth 100000
namespace Go.Proofs
open Go.RowKit Go.Shelf
attribute [local go_sem] Oper.semAt_some
end Go.Proofs
set_option linter.unusedVariables false
set_option linter.unusedSimpArgs false
set_option maxRecDepth 100000
namespace Go.Proofs
open Go.RowKit Go.Maps Go.Shelf
attribute [local go_sem] Oper.semAt_some
end Go.Proofs
set_option linter.unusedVariables false
set_option linter.unusedSimpArgs false
namespace Go.Mu
open Go
abbrev Bs := List UInt8
structure SS where
  k : Int
  el : Bs
  ar : Bs
  dl : UInt8
  pe : Bs
  rf : Bs
  pt : Int
  wd : Bs
deriving DecidableEq
def ss0 : SS := ⟨0, [], [], 0, [], [], 0, []⟩
structure ScR where
  e : Int
  s : SS
def sOk (s : SS) : ScR := ⟨0, s⟩
def sBad (e : Int) (s : SS) : ScR := ⟨e, s⟩
def ScR.then (r : ScR) (f : SS → ScR) : ScR := bif r.e == 0 then f r.s else r
/- octets -/
def blankB (c : UInt8) : Bool := c == 32 || (decide (9 ≤ c.toNat) && decide (c.toNat ≤ 13) && c != 11)
def letterB (c : UInt8) : Bool := decide (97 ≤ (c ||| 32).toNat) && decide ((c ||| 32).toNat ≤ 122)
def smallB (c : UInt8) : UInt8 := bif decide (65 ≤ c.toNat) && decide (c.toNat ≤ 90) then c + 32 else c
def digitB (c : UInt8) : Bool := decide (48 ≤ c.toNat) && decide (c.toNat ≤ 57)
/- URLs -/
def allowedB (s : Bs) : Bool := s == [104,116,116,112] || s == [104,116,116,112,115] || s == [109,97,105,108,116,111]
def urlFirst (w : Bs) (c : UInt8) : Int × Bs :=
  bif c == 47 then (2, []) else bif c == 63 || c == 35 then (3, []) else bif c == 58 && allowedB w then (2, []) else bif c == 58 then (5, [])
  else bif decide (w.length < 16) then (1, w ++ [smallB c]) else (1, w)
def urlStep (p : Int) (w : Bs) (c : UInt8) : Int × Bs :=
  bif p == 0 then urlFirst [] c else bif p == 1 then urlFirst w c
  else bif (p == 2 || p == 4) && (c == 63 || c == 35) then (3, []) else bif p == 4 && c == 47 then (2, []) else bif p == 4 && c == 58 then (5, [])
  else bif p == 2 || p == 3 || p == 4 then (p, []) else (5, [])
/- scripts -/
def jsWordy (c : UInt8) : Bool := letterB c || digitB c || c == 95 || c == 36 || decide (127 < c.toNat)
def jsWords : List Bs := [[114,101,116,117,114,110],[116,121,112,101,111,102],[99,97,115,101],[105,110],[111,102],[100,101,108,101,116,101],[118,111,105,100],[116,104,114,111,119],[110,101,119],[101,108,115,101],[100,111],[105,110,115,116,97,110,99,101,111,102]]
def jsEnded (p : Int) (w : Bs) : Int := bif w != [] && jsWords.contains w then 0 else p
def jsCode (p : Int) (w : Bs) (c : UInt8) : Int × Bs :=
  bif jsWordy c then (1, bif decide (w.length < 16) then w ++ [c] else w)
  else
    let q := jsEnded p w
    bif blankB c then (q, []) else bif c == 34 then (2, []) else bif c == 39 then (3, []) else bif c == 96 then (15, [])
    else bif c == 47 && q == 0 then (13, []) else bif c == 47 then (14, []) else bif c == 41 || c == 93 || c == 125 then (1, []) else (0, [])
def nlB (c : UInt8) : Bool := c == 10 || c == 13
def jsQuoted (p : Int) (c : UInt8) : Int :=
  bif c == (bif p == 3 then 39 else 34) then 1 else bif c == 92 then (bif p == 3 then 5 else 4) else bif nlB c then 15 else p
def jsMatched (p : Int) (c : UInt8) : Int :=
  bif nlB c then 15 else bif c == 92 then IntKind.i64.wrap (p + 1) else bif p == 9 && c == 47 then 1 else bif p == 9 && c == 91 then 11 else bif p == 11 && c == 93 then 9 else p
def jsRemark (p : Int) (c : UInt8) : Int := bif c == 42 then 8 else bif p == 8 && c == 47 then 0 else 7
def jsSlashed (p : Int) (c : UInt8) : Int × Bs :=
  bif c == 47 then (6, []) else bif c == 42 then (7, []) else bif p == 13 then (jsMatched 9 c, []) else jsCode 0 [] c
def jsStep (p : Int) (w : Bs) (c : UInt8) : Int × Bs :=
  bif p == 0 || p == 1 then jsCode p w c else bif p == 2 || p == 3 then (jsQuoted p c, []) else bif p == 4 || p == 5 then (p - 2, [])
  else bif p == 6 then (bif nlB c then 0 else 6, []) else bif p == 7 || p == 8 then (jsRemark p c, []) else bif p == 9 || p == 11 then (jsMatched p c, [])
  else bif p == 10 || p == 12 then (p - 1, []) else bif p == 13 || p == 14 then jsSlashed p c else (15, [])
/- styles -/
def csWordy (c : UInt8) : Bool := letterB c || digitB c || c == 45 || c == 95
def csCode (w : Bs) (c : UInt8) : Int × Bs :=
  bif csWordy c && w == [63] then (0, [63]) else bif csWordy c && decide (w.length < 16) then (0, w ++ [smallB c]) else bif csWordy c then (0, w)
  else bif c == 40 && w == [117,114,108] then (8, []) else bif (c == 40 && w == [63]) || c == 92 then (9, []) else bif c == 34 then (1, []) else bif c == 39 then (2, [])
  else bif c == 47 then (5, []) else (0, [])
def csQuoted (p : Int) (c : UInt8) : Int :=
  bif (c == 34 && p == 1) || (c == 39 && p == 2) then 0 else bif c == 92 then IntKind.i64.wrap (p + 2) else bif nlB c then 9 else p
def csRemark (p : Int) (c : UInt8) : Int × Bs :=
  bif p == 5 && c == 42 then (6, []) else bif p == 5 then csCode [] c else bif c == 42 then (7, []) else bif p == 7 && c == 47 then (0, []) else (6, [])
def csStep (p : Int) (w : Bs) (c : UInt8) : Int × Bs :=
  bif p == 0 then csCode w c else bif p == 1 || p == 2 then (csQuoted p c, []) else bif p == 3 || p == 4 then (p - 2, [])
  else bif p == 5 || p == 6 || p == 7 then csRemark p c else bif p == 8 then (bif c == 41 then 0 else 8, []) else (9, [])
def feedP (f : Int → Bs → UInt8 → Int × Bs) : Int → Bs → Bs → Int × Bs
  | p, w, [] => (p, w)
  | p, w, c :: s => feedP f (f p w c).1 (f p w c).2 s
/- tables -/
def hpB (x a : Bs) : Bool := bif decide ((a.length : Int) ≥ (x.length : Int)) then a.take x.length == x else false
def elmK (s : Bs) : Int :=
  bif s == [116,105,116,108,101] || s == [116,101,120,116,97,114,101,97] then 1 else bif s == [115,116,121,108,101] then 2 else bif s == [115,99,114,105,112,116] then 3
  else bif s == [112,108,97,105,110,116,101,120,116] || s == [120,109,112] || s == [105,102,114,97,109,101] || s == [110,111,101,109,98,101,100] || s == [110,111,102,114,97,109,101,115] || s == [110,111,115,99,114,105,112,116] then 4 else 0
def atrK (el a : Bs) : Int :=
  bif [[104,114,101,102],[115,114,99],[97,99,116,105,111,110],[102,111,114,109,97,99,116,105,111,110],[99,105,116,101],[112,111,115,116,101,114],[98,97,99,107,103,114,111,117,110,100],[108,111,110,103,100,101,115,99],[109,97,110,105,102,101,115,116],[105,99,111,110]].contains a then 1
  else bif a == [100,97,116,97] then (bif el == [111,98,106,101,99,116] then 1 else 0)
  else bif a == [115,116,121,108,101] then 3
  else bif [[115,114,99,100,111,99],[115,114,99,115,101,116],[104,116,116,112,45,101,113,117,105,118],[112,105,110,103],[]].contains a then 4
  else bif hpB [111,110] a then 2 else bif hpB [120,109,108,110,115] a then 4 else 0
/- marks -/
def inB (s : SS) (a b : Int) : Bool := decide (s.k ≥ a) && decide (s.k ≤ b)
def kindM (s : SS) : Int := bif !inB s 8 10 || hpB [47] s.el then 0 else atrK s.el s.ar
def subB (s : SS) : Bool := inB s 18 19 || (inB s 9 10 && decide (kindM s ≥ 1) && decide (kindM s ≤ 3))
def markOk (s : SS) : Bool :=
  decide (s.el.length ≤ 33) && decide (s.ar.length ≤ 32) && decide (s.pe.length ≤ 34) && decide (s.rf.length ≤ 16) && decide (s.wd.length ≤ 16) && decide (s.pt ≥ 0) && decide (s.pt ≤ 15)
  && (s.el == [] || inB s 3 12 || inB s 17 19) && (s.ar == [] || inB s 6 10)
  && ((s.k == 9) == (s.dl != 0)) && (s.dl == 0 || s.dl == 34 || s.dl == 39)
  && (s.pe == [] || inB s 16 19) && (s.rf == [] || s.k == 0 || s.k == 17 || inB s 9 10) && (subB s || (s.pt == 0 && s.wd == []))
def markE (s : SS) : Int := bif !inB s 0 19 then 4 else bif markOk s then 0 else 9
/- the machine -/
def langM (s : SS) : Int := bif s.k == 18 then 3 else bif s.k == 19 then 2 else bif s.k == 9 || s.k == 10 then (bif decide (kindM s ≤ 3) then kindM s else 0) else 0
def subS (s : SS) (x : Bs) : ScR :=
  bif langM s == 1 then
    let r := feedP urlStep s.pt s.wd x
    ⟨bif s.pt != 4 || r.1 != 5 then 0 else 93, { s with pt := r.1, wd := r.2 }⟩
  else bif langM s == 2 then
    let r := feedP jsStep s.pt s.wd x
    ⟨bif r.1 != 15 then 0 else 94, { s with pt := r.1, wd := r.2 }⟩
  else bif langM s == 3 then
    let r := feedP csStep s.pt s.wd x
    ⟨bif r.1 != 9 then 0 else 95, { s with pt := r.1, wd := r.2 }⟩
  else sOk s
def flushS (s : SS) : ScR := subS { s with rf := [] } s.rf
def charS0 (s : SS) (c : UInt8) : ScR := bif c == 38 then sOk { s with rf := [38] } else subS s [c]
def charS (O : Bs → Bs × Nat) (U : Bs → Bool) (s : SS) (c : UInt8) : ScR :=
  bif s.rf != [] then
    bif (O (s.rf ++ [c])).2 == (s.rf ++ [c]).length then subS { s with rf := [] } (O (s.rf ++ [c])).1
    else bif U (s.rf ++ [c]) then sOk { s with rf := s.rf ++ [c] } else (flushS s).then (fun s => charS0 s c)
  else charS0 s c
def toS (s : SS) (k : Int) : SS := ⟨k, s.el, [], 0, [], [], 0, []⟩
def endS (s : SS) : ScR := bif !decide (elmK s.el ≤ 3) then sBad 91 s else bif elmK s.el == 0 then sOk ss0 else sOk (toS s (16 + elmK s.el))
def withinS (s : SS) (c : UInt8) : ScR :=
  bif blankB c then sOk (toS s 5) else bif c == 47 then sOk (toS s 12) else bif c == 62 then endS s else sOk { toS s 6 with ar := [smallB c] }
def tagNameS (s : SS) (c : UInt8) : ScR :=
  bif blankB c || c == 47 || c == 62 then withinS s c else bif decide ((s.el.length : Int) < 32 + (bif s.k == 4 then 1 else 0)) then sOk { s with el := s.el ++ [smallB c] } else sBad 5 s
def attrS (s : SS) (c : UInt8) : ScR :=
  bif blankB c then sOk { s with k := 7 } else bif c == 61 then sOk { s with k := 8 } else bif c == 47 || c == 62 || s.k == 7 then withinS s c
  else bif decide (s.ar.length < 32) then sOk { s with ar := s.ar ++ [smallB c] } else sBad 5 s
section
variable (O : Bs → Bs × Nat) (U : Bs → Bool)
def wantS (s : SS) (c : UInt8) : ScR :=
  bif blankB c then sOk s else bif c == 34 || c == 39 then sOk { s with k := 9, dl := c } else bif c == 62 then endS s else charS O U { s with k := 10 } c
def inValueS (s : SS) (c : UInt8) : ScR :=
  bif s.k == 9 && c == s.dl then (flushS s).then (fun s => sOk (toS s 11)) else bif s.k == 10 && (blankB c || c == 62) then (flushS s).then (fun s => withinS s c) else charS O U s c
def dataS (s : SS) (c : UInt8) : ScR := bif c == 60 then sOk { ss0 with k := 1 } else charS O U s c
def beginS (s : SS) (c : UInt8) : ScR :=
  bif letterB c then sOk { ss0 with k := 3, el := [smallB c] } else bif c == 47 then sOk { ss0 with k := 2 } else bif c == 33 then sOk { ss0 with k := 13 } else bif c == 63 then sOk { ss0 with k := 15 }
  else dataS O U ss0 c
def beginEndS (s : SS) (c : UInt8) : ScR := bif letterB c then sOk { ss0 with k := 4, el := [47, smallB c] } else bif c == 62 then sOk ss0 else sOk { ss0 with k := 15 }
def bogusS (s : SS) (c : UInt8) : ScR := bif c == 62 then sOk ss0 else sOk s
def remarkS (s : SS) (c : UInt8) : ScR :=
  bif s.k == 13 && c == 45 then sOk { s with k := 14 } else bif s.k == 14 && c == 45 then sOk { s with k := 16 } else bif s.k != 16 then bogusS { s with k := 15 } c
  else bif c == 45 && s.pe != [45,45] then sOk { s with pe := s.pe ++ [45] } else bif c == 62 && s.pe == [45,45] then sOk ss0 else bif c != 45 then sOk { s with pe := [] } else sOk s
def startsB (s p : Bs) : Bool := decide (s.length ≥ p.length) && (s.take p.length).map smallB == p.map smallB
def waitsB (s : SS) (t : Bs) : Bool := startsB (60 :: 47 :: s.el) t || (s.k == 19 && startsB [60,33,45,45] t)
def plainS (s : SS) (c : UInt8) : ScR :=
  bif c == 60 then (bif s.k == 17 then (flushS s).then (fun s => sOk { s with pe := [60] }) else sOk { s with pe := [60] }) else bif s.k == 17 then charS O U s c else subS s [c]
def rawS (s : SS) (c : UInt8) : ScR :=
  bif s.pe == [] then plainS O U s c
  else bif waitsB s (s.pe ++ [c]) then (bif (s.pe ++ [c]) != [60,33,45,45] then sOk { s with pe := s.pe ++ [c] } else sBad 94 s)
  else bif (s.pe.length == s.el.length + 2) && s.pe.getD 1 0 == 47 && (blankB c || c == 47 || c == 62) then tagNameS { ss0 with k := 4, el := 47 :: s.el } c
  else (subS { s with pe := [] } s.pe).then (fun s => plainS O U s c)
def stepS (s : SS) (c : UInt8) : ScR :=
  bif s.k == 0 then dataS O U s c else bif s.k == 1 then beginS O U s c else bif s.k == 2 then beginEndS s c else bif s.k == 3 || s.k == 4 then tagNameS s c
  else bif s.k == 5 || s.k == 11 then withinS s c else bif s.k == 6 || s.k == 7 then attrS s c else bif s.k == 8 then wantS O U s c else bif s.k == 9 || s.k == 10 then inValueS O U s c
  else bif s.k == 12 then withinS s c else bif s.k == 13 || s.k == 14 || s.k == 16 then remarkS s c else bif s.k == 15 then bogusS s c else rawS O U s c
def scanStep (s : SS) (c : UInt8) : SS × Int :=
  bif markE s != 0 then (ss0, markE s) else bif (stepS O U s c).e == 0 then ((stepS O U s c).s, 0) else (ss0, (stepS O U s c).e)
def feedL : SS → Bs → SS × Nat × Int
  | s, [] => (s, 0, 0)
  | s, c :: t => bif (scanStep O U s c).2 != 0 then (ss0, 0, (scanStep O U s c).2) else let r := feedL (scanStep O U s c).1 t; (r.1, r.2.1 + 1, r.2.2)
def scanFeed (s : SS) (t : Bs) : SS × Nat × Int := bif markE s != 0 then (ss0, 0, markE s) else feedL O U s t
end
end Go.Mu
set_option linter.unusedVariables false
set_option linter.unusedSimpArgs false
namespace Go.Mu
open Go
structure SInv (s : SS) : Prop where
  k0 : 0 ≤ s.k
  k1 : s.k ≤ 19
  el : s.el.length ≤ 33
  el2 : 17 ≤ s.k → s.el.length ≤ 32
  at_ : s.ar.length ≤ 32
  pe : s.pe.length ≤ 34
  rf : s.rf.length ≤ 16
  wd : s.wd.length ≤ 16
  p0 : 0 ≤ s.pt
  p1 : s.pt ≤ 15
  elk : s.el = [] ∨ (3 ≤ s.k ∧ s.k ≤ 12) ∨ (17 ≤ s.k ∧ s.k ≤ 19)
  atk : s.ar = [] ∨ (6 ≤ s.k ∧ s.k ≤ 10)
  dlk : s.k = 9 ↔ s.dl ≠ 0
  dlv : s.dl = 0 ∨ s.dl = 34 ∨ s.dl = 39
  pek : s.pe = [] ∨ (16 ≤ s.k ∧ s.k ≤ 19)
  pe16 : s.k = 16 → s.pe = [] ∨ s.pe = [45] ∨ s.pe = [45, 45]
  rfk : s.rf = [] ∨ s.k = 0 ∨ s.k = 17 ∨ (9 ≤ s.k ∧ s.k ≤ 10)
  ptk : subB s = true ∨ (s.pt = 0 ∧ s.wd = [])
theorem SInv.mark {s : SS} (h : SInv s) : markE s = 0 := by
  have h1 : inB s 0 19 = true := by unfold inB; simp [h.k0, h.k1]
  have h2 : markOk s = true := by
    unfold markOk inB
    simp only [Bool.and_eq_true, Bool.or_eq_true, decide_eq_true_eq, beq_iff_eq]
    have e : ((s.k == 9) = (s.dl != 0)) := by
      have := h.dlk
      by_cases h9 : s.k = 9
      · have h0 := this.1 h9
        rw [h9]; simp [h0]
      · have h0 : s.dl = 0 := by
          by_cases h0 : s.dl = 0
          · exact h0
          · exact absurd (this.2 h0) h9
        rw [h0]; simp [h9]
    have a1 := h.elk
    have a2 := h.atk
    have a3 := h.pek
    have a4 := h.rfk
    have a5 := h.dlv
    refine ⟨⟨⟨⟨⟨⟨⟨⟨⟨⟨⟨⟨⟨h.el, h.at_⟩, h.pe⟩, h.rf⟩, h.wd⟩, h.p0⟩, h.p1⟩, ?_⟩, ?_⟩, e⟩, ?_⟩, ?_⟩, ?_⟩, h.ptk⟩
    · rcases a1 with a | a | a
      · exact .inl (.inl a)
      · exact .inl (.inr ⟨a.1, a.2⟩)
      · exact .inr ⟨a.1, a.2⟩
    · rcases a2 with a | a
      · exact .inl a
      · exact .inr ⟨a.1, a.2⟩
    · rcases a5 with a | a | a
      · exact .inl (.inl a)
      · exact .inl (.inr a)
      · exact .inr a
    · rcases a3 with a | a
      · exact .inl a
      · exact .inr ⟨a.1, a.2⟩
    · rcases a4 with a | a | a | a
      · exact .inl (.inl (.inl a))
      · exact .inl (.inl (.inr a))
      · exact .inl (.inr a)
      · exact .inr ⟨a.1, a.2⟩
  unfold markE
  rw [h1, h2]; rfl
theorem ss0_inv : SInv ss0 := by
  constructor <;> simp [ss0]
def RInv (r : ScR) : Prop := r.e = 0 → SInv r.s
theorem rOk {s : SS} (h : SInv s) : RInv (sOk s) := fun _ => h
theorem rBad {e : Int} {s : SS} (h : e ≠ 0) : RInv (sBad e s) := fun h0 => absurd h0 h
theorem RInv.then {r : ScR} {f : SS → ScR} (h : RInv r) (g : SInv r.s → RInv (f r.s)) : RInv (r.then f) := by
  unfold ScR.then
  by_cases h0 : r.e = 0
  · have : (r.e == 0) = true := by simp [h0]
    rw [this]; exact g (h h0)
  · have : (r.e == 0) = false := by simp [h0]
    rw [this]; exact h
theorem r_bif {b : Bool} {x y : ScR} (h1 : b = true → RInv x) (h2 : b = false → RInv y) : RInv (bif b then x else y) := by
  cases b
  · exact h2 rfl
  · exact h1 rfl
/- parts and words -/
def PW (r : Int × Bs) : Prop := 0 ≤ r.1 ∧ r.1 ≤ 15 ∧ r.2.length ≤ 16
theorem pw_bif {b : Bool} {x y : Int × Bs} (h1 : b = true → PW x) (h2 : b = false → PW y) : PW (bif b then x else y) := by
  cases b
  · exact h2 rfl
  · exact h1 rfl
theorem pw_nil {p : Int} (h : 0 ≤ p ∧ p ≤ 15) : PW (p, []) := ⟨h.1, h.2, by simp⟩
theorem feedP_pw {f : Int → Bs → UInt8 → Int × Bs} (hf : ∀ p w c, PW (p, w) → PW (f p w c)) : ∀ (s : Bs) (p : Int) (w : Bs), PW (p, w) → PW (feedP f p w s)
  | [], p, w, h => h
  | c :: s, p, w, h => feedP_pw hf s _ _ (hf p w c h)
theorem app_len {w : Bs} {c : UInt8} (h : decide (w.length < 16) = true) : (w ++ [c]).length ≤ 16 := by
  have := of_decide_eq_true h
  rw [List.length_append]; simp only [List.length_singleton]; omega
theorem urlFirst_pw (w : Bs) (c : UInt8) (hw : w.length ≤ 16) : PW (urlFirst w c) := by
  unfold urlFirst
  repeat' (first | with_reducible apply pw_bif <;> intro)
  all_goals first
    | exact pw_nil (by omega)
    | exact ⟨by simp, by simp, hw⟩
    | (rename_i h; exact ⟨by simp, by simp, app_len h⟩)
theorem urlStep_pw (p : Int) (w : Bs) (c : UInt8) (h : PW (p, w)) : PW (urlStep p w c) := by
  obtain ⟨h1, h2, h3⟩ := h
  simp only at h1 h2 h3
  unfold urlStep
  repeat' (first | with_reducible apply pw_bif <;> intro)
  all_goals first
    | exact pw_nil (by omega)
    | exact urlFirst_pw _ _ (by simp)
    | exact urlFirst_pw _ _ h3
theorem jsEnded_r (p : Int) (w : Bs) (h : 0 ≤ p ∧ p ≤ 15) : 0 ≤ jsEnded p w ∧ jsEnded p w ≤ 15 := by
  unfold jsEnded
  cases (w != [] && jsWords.contains w)
  · exact h
  · exact ⟨by simp, by simp⟩
theorem jsCode_pw (p : Int) (w : Bs) (c : UInt8) (h : PW (p, w)) : PW (jsCode p w c) := by
  obtain ⟨h1, h2, h3⟩ := h
  simp only at h1 h2 h3
  have h4 := jsEnded_r p w ⟨h1, h2⟩
  unfold jsCode
  repeat' (first | with_reducible apply pw_bif <;> intro)
  all_goals first
    | exact pw_nil (by omega)
    | (cases hw : decide (w.length < 16)
       · exact ⟨by simp, by simp, h3⟩
       · exact ⟨by simp, by simp, app_len hw⟩)
    | exact pw_nil h4
theorem i_bif {b : Bool} {x y : Int} {P : Int → Prop} (h1 : P x) (h2 : P y) : P (bif b then x else y) := by
  cases b
  · exact h2
  · exact h1
def PR (x : Int) : Prop := 0 ≤ x ∧ x ≤ 15
theorem jsMatched_r (p : Int) (c : UInt8) (h : 0 ≤ p ∧ p ≤ 14) : PR (jsMatched p c) := by
  unfold jsMatched
  rw [wrap_of (n := p + 1) (by omega) (by omega)]
  repeat' with_reducible apply i_bif (P := PR)
  all_goals (unfold PR; omega)
theorem jsQuoted_r (p : Int) (c : UInt8) (h : 0 ≤ p ∧ p ≤ 15) : PR (jsQuoted p c) := by
  unfold jsQuoted
  repeat' with_reducible apply i_bif (P := PR)
  all_goals (unfold PR; omega)
theorem jsRemark_r (p : Int) (c : UInt8) : PR (jsRemark p c) := by
  unfold jsRemark
  repeat' with_reducible apply i_bif (P := PR)
  all_goals (unfold PR; omega)
theorem pw_pr {p : Int} (h : PR p) : PW (p, []) := ⟨h.1, h.2, by simp⟩
theorem jsSlashed_pw (p : Int) (c : UInt8) : PW (jsSlashed p c) := by
  unfold jsSlashed
  repeat' (first | with_reducible apply pw_bif <;> intro)
  all_goals first
    | exact pw_pr (jsMatched_r _ _ (by omega))
    | exact jsCode_pw _ _ _ ⟨by simp, by simp, by simp⟩
    | exact pw_nil (by omega)
theorem jsStep_pw (p : Int) (w : Bs) (c : UInt8) (h : PW (p, w)) : PW (jsStep p w c) := by
  have hh := h
  obtain ⟨h1, h2, h3⟩ := h
  simp only at h1 h2 h3
  unfold jsStep
  repeat' (first | with_reducible apply pw_bif <;> intro)
  · exact jsCode_pw _ _ _ hh
  · exact pw_pr (jsQuoted_r _ _ ⟨h1, h2⟩)
  · rename_i h; simp only [Bool.or_eq_true, beq_iff_eq] at h; exact pw_nil (by omega)
  · exact pw_pr (i_bif (P := PR) (by unfold PR; omega) (by unfold PR; omega))
  · exact pw_pr (jsRemark_r _ _)
  · rename_i h; simp only [Bool.or_eq_true, beq_iff_eq] at h; exact pw_pr (jsMatched_r _ _ (by omega))
  · rename_i h; simp only [Bool.or_eq_true, beq_iff_eq] at h; exact pw_nil (by omega)
  · exact jsSlashed_pw _ _
  · exact pw_nil (by omega)
theorem csCode_pw (w : Bs) (c : UInt8) (hw : w.length ≤ 16) : PW (csCode w c) := by
  unfold csCode
  repeat' (first | with_reducible apply pw_bif <;> intro)
  all_goals first
    | exact pw_nil (by omega)
    | exact ⟨by simp, by simp, hw⟩
    | (rename_i h; simp only [Bool.and_eq_true] at h; exact ⟨by simp, by simp, app_len h.2⟩)
    | exact ⟨by decide, by decide, by decide⟩
theorem csQuoted_r (p : Int) (c : UInt8) (h : 0 ≤ p ∧ p ≤ 13) : PR (csQuoted p c) := by
  unfold csQuoted
  rw [wrap_of (n := p + 2) (by omega) (by omega)]
  repeat' with_reducible apply i_bif (P := PR)
  all_goals (unfold PR; omega)
theorem csRemark_pw (p : Int) (c : UInt8) : PW (csRemark p c) := by
  unfold csRemark
  repeat' (first | with_reducible apply pw_bif <;> intro)
  all_goals first
    | exact pw_nil (by omega)
    | exact csCode_pw _ _ (by simp)
theorem csStep_pw (p : Int) (w : Bs) (c : UInt8) (h : PW (p, w)) : PW (csStep p w c) := by
  obtain ⟨h1, h2, h3⟩ := h
  simp only at h1 h2 h3
  unfold csStep
  repeat' (first | with_reducible apply pw_bif <;> intro)
  · exact csCode_pw _ _ h3
  · rename_i h; simp only [Bool.or_eq_true, beq_iff_eq] at h; exact pw_pr (csQuoted_r _ _ (by omega))
  · rename_i h; simp only [Bool.or_eq_true, beq_iff_eq] at h; exact pw_nil (by omega)
  · exact csRemark_pw _ _
  · exact pw_pr (i_bif (P := PR) (by unfold PR; omega) (by unfold PR; omega))
  · exact pw_nil (by omega)
/- the machine -/
theorem lang_sub {s : SS} (h : langM s ≠ 0) (hk : 0 ≤ kindM s) : subB s = true := by
  unfold langM at h
  unfold subB inB
  by_cases h18 : s.k = 18
  · rw [h18]; rfl
  by_cases h19 : s.k = 19
  · rw [h19]; rfl
  have e1 : (s.k == 18) = false := by simp [h18]
  have e2 : (s.k == 19) = false := by simp [h19]
  rw [e1, e2, cond_false, cond_false] at h
  cases h9 : (s.k == 9 || s.k == 10) with
  | false => rw [h9, cond_false] at h; exact absurd rfl h
  | true =>
    rw [h9, cond_true] at h
    cases h3 : decide (kindM s ≤ 3) with
    | false => rw [h3, cond_false] at h; exact absurd rfl h
    | true =>
      rw [h3, cond_true] at h
      simp only [Bool.or_eq_true, beq_iff_eq] at h9
      simp only [Bool.or_eq_true, Bool.and_eq_true, decide_eq_true_eq]
      exact .inr ⟨⟨⟨by omega, by omega⟩, by omega⟩, trivial⟩
theorem atrK_r (el a : Bs) : 0 ≤ atrK el a := by
  unfold atrK
  repeat' with_reducible apply i_bif (P := fun x => 0 ≤ x)
  all_goals omega
theorem kindM_r (s : SS) : 0 ≤ kindM s := by
  unfold kindM
  apply i_bif (P := fun x => 0 ≤ x)
  · omega
  · exact atrK_r _ _
theorem SInv.part {s : SS} (h : SInv s) (hs : subB s = true) {r : Int × Bs} (hr : PW r) : SInv { s with pt := r.1, wd := r.2 } :=
  ⟨h.k0, h.k1, h.el, h.el2, h.at_, h.pe, h.rf, hr.2.2, hr.1, hr.2.1, h.elk, h.atk, h.dlk, h.dlv, h.pek, h.pe16, h.rfk, .inl hs⟩
theorem SInv.ref {s : SS} (h : SInv s) {t : Bs} (ht : t.length ≤ 16) (hk : t = [] ∨ s.k = 0 ∨ s.k = 17 ∨ (9 ≤ s.k ∧ s.k ≤ 10)) : SInv { s with rf := t } :=
  ⟨h.k0, h.k1, h.el, h.el2, h.at_, h.pe, ht, h.wd, h.p0, h.p1, h.elk, h.atk, h.dlk, h.dlv, h.pek, h.pe16, hk, h.ptk⟩
theorem SInv.pend {s : SS} (h : SInv s) {t : Bs} (ht : t.length ≤ 34) (hk : t = [] ∨ (17 ≤ s.k ∧ s.k ≤ 19)) : SInv { s with pe := t } :=
  ⟨h.k0, h.k1, h.el, h.el2, h.at_, ht, h.rf, h.wd, h.p0, h.p1, h.elk, h.atk, h.dlk, h.dlv, by rcases hk with a | a; exact .inl a; exact .inr ⟨by simp only; omega, a.2⟩, fun h16 => by
    simp only at h16
    rcases hk with a | a
    · exact .inl a
    · omega, h.rfk, h.ptk⟩
theorem sub_same (s : SS) (x : Bs) : (subS s x).s.k = s.k ∧ (subS s x).s.el = s.el ∧ (subS s x).s.ar = s.ar ∧ (subS s x).s.rf = s.rf ∧ (subS s x).s.pe = s.pe ∧ (subS s x).s.dl = s.dl := by
  unfold subS
  cases langM s == 1
  · cases langM s == 2
    · cases langM s == 3 <;> exact ⟨rfl, rfl, rfl, rfl, rfl, rfl⟩
    · exact ⟨rfl, rfl, rfl, rfl, rfl, rfl⟩
  · exact ⟨rfl, rfl, rfl, rfl, rfl, rfl⟩
theorem sub_inv {s : SS} (h : SInv s) (x : Bs) : RInv (subS s x) := by
  have hp : PW (s.pt, s.wd) := ⟨h.p0, h.p1, h.wd⟩
  unfold subS
  refine r_bif (fun h1 => fun _ => ?_) (fun _ => r_bif (fun h1 => fun _ => ?_) (fun _ => r_bif (fun h1 => fun _ => ?_) (fun _ => rOk h)))
  · exact h.part (lang_sub (by rw [beq_iff_eq] at h1; omega) (kindM_r s)) (feedP_pw urlStep_pw x _ _ hp)
  · exact h.part (lang_sub (by rw [beq_iff_eq] at h1; omega) (kindM_r s)) (feedP_pw jsStep_pw x _ _ hp)
  · exact h.part (lang_sub (by rw [beq_iff_eq] at h1; omega) (kindM_r s)) (feedP_pw csStep_pw x _ _ hp)
theorem flush_inv {s : SS} (h : SInv s) : RInv (flushS s) := sub_inv (h.ref (t := []) (by simp) (.inl rfl)) _
abbrev RfK (s : SS) : Prop := s.k = 0 ∨ s.k = 17 ∨ (9 ≤ s.k ∧ s.k ≤ 10)
theorem char0_inv {s : SS} (h : SInv s) (hk : RfK s) (c : UInt8) : RInv (charS0 s c) := r_bif (fun _ => rOk (h.ref (by simp) (.inr hk))) (fun _ => sub_inv h _)
section
variable {O : Bs → Bs × Nat} {U : Bs → Bool} (hU : ∀ t, U t = true → t.length ≤ 16)
include hU
theorem char_inv {s : SS} (h : SInv s) (hk : RfK s) (c : UInt8) : RInv (charS O U s c) := by
  unfold charS
  refine r_bif (fun _ => r_bif (fun _ => sub_inv (h.ref (t := []) (by simp) (.inl rfl)) _) (fun _ => r_bif (fun hu => rOk (h.ref (hU _ hu) (.inr hk))) (fun _ => (flush_inv h).then fun h' => char0_inv h' (by
    have := (sub_same { s with rf := [] } s.rf).1
    unfold flushS RfK
    rw [this]
    exact hk) c))) (fun _ => char0_inv h hk c)
end
theorem to_inv {s : SS} {k : Int} (h1 : s.el.length ≤ 33) (hk : (5 ≤ k ∧ k ≤ 12 ∧ k ≠ 9) ∨ (17 ≤ k ∧ k ≤ 19)) (h2 : 17 ≤ k → s.el.length ≤ 32) : SInv (toS s k) := by
  unfold toS
  constructor <;> simp only [List.length_nil]
  all_goals first | omega | (simp; done) | exact h1 | exact h2 | (right; omega) | skip
  all_goals first | (constructor <;> intro h <;> first | omega | exact absurd rfl h) | (left; rfl) | (right; exact ⟨trivial, trivial⟩) | (intro; left; rfl) | skip
theorem elmK_el {s : Bs} (h : elmK s ≤ 3) (h0 : elmK s ≠ 0) : s.length ≤ 32 ∧ 1 ≤ elmK s := by
  unfold elmK at *
  cases h1 : (s == [116,105,116,108,101] || s == [116,101,120,116,97,114,101,97]) with
  | true =>
    simp only [Bool.or_eq_true, beq_iff_eq] at h1
    rcases h1 with h1 | h1 <;> rw [h1] <;> decide
  | false =>
    rw [h1] at h h0
    simp only [cond_false] at h h0 ⊢
    cases h2 : (s == [115,116,121,108,101]) with
    | true => rw [beq_iff_eq] at h2; rw [h2]; decide
    | false =>
      rw [h2] at h h0
      simp only [cond_false] at h h0 ⊢
      cases h3 : (s == [115,99,114,105,112,116]) with
      | true => rw [beq_iff_eq] at h3; rw [h3]; decide
      | false =>
        rw [h3] at h h0
        simp only [cond_false] at h h0
        revert h h0
        cases (s == [112,108,97,105,110,116,101,120,116] || s == [120,109,112] || s == [105,102,114,97,109,101] || s == [110,111,101,109,98,101,100] || s == [110,111,102,114,97,109,101,115] || s == [110,111,115,99,114,105,112,116])
        · intro _ h0; exact absurd rfl h0
        · intro h; exact absurd h (by decide)
theorem end_inv {s : SS} (h1 : s.el.length ≤ 33) : RInv (endS s) := by
  unfold endS
  refine r_bif (fun _ => rBad (by decide)) (fun h => r_bif (fun _ => rOk ss0_inv) (fun h0 => rOk ?_))
  have h : elmK s.el ≤ 3 := by
    cases hd : decide (elmK s.el ≤ 3) with
    | true => exact of_decide_eq_true hd
    | false => rw [hd] at h; exact absurd h (by decide)
  obtain ⟨a, b⟩ := elmK_el h (by simpa using h0)
  exact to_inv h1 (.inr (by omega)) (fun _ => a)
theorem SInv.attr {s : SS} (h : SInv s) {t : Bs} (ht : t.length ≤ 32) (hk : s.k = 6 ∨ s.k = 7) : SInv { s with ar := t } :=
  ⟨h.k0, h.k1, h.el, h.el2, ht, h.pe, h.rf, h.wd, h.p0, h.p1, h.elk, .inr ⟨by simp only; omega, by simp only; omega⟩, h.dlk, h.dlv, h.pek, h.pe16, h.rfk, by
    rcases h.ptk with a | a
    · unfold subB inB at a
      simp only [Bool.or_eq_true, Bool.and_eq_true, decide_eq_true_eq] at a
      omega
    · exact .inr a⟩
theorem within_inv {s : SS} (h1 : s.el.length ≤ 33) (c : UInt8) : RInv (withinS s c) := by
  unfold withinS
  refine r_bif (fun _ => rOk (to_inv h1 (by omega) (by omega))) (fun _ => r_bif (fun _ => rOk (to_inv h1 (by omega) (by omega))) (fun _ => r_bif (fun _ => end_inv h1) (fun _ => rOk ?_)))
  exact (to_inv (s := s) (k := 6) h1 (by omega) (by omega)).attr (by simp) (.inl rfl)
theorem SInv.elem {s : SS} (h : SInv s) {t : Bs} (ht : t.length ≤ 33) (hk : s.k = 3 ∨ s.k = 4) : SInv { s with el := t } :=
  ⟨h.k0, h.k1, ht, by simp only; omega, h.at_, h.pe, h.rf, h.wd, h.p0, h.p1, .inr (.inl ⟨by simp only; omega, by simp only; omega⟩), h.atk, h.dlk, h.dlv, h.pek, h.pe16, h.rfk, by
    rcases h.ptk with a | a
    · unfold subB inB at a
      simp only [Bool.or_eq_true, Bool.and_eq_true, decide_eq_true_eq] at a
      omega
    · exact .inr a⟩
theorem tagName_inv {s : SS} (h : SInv s) (hk : s.k = 3 ∨ s.k = 4) (c : UInt8) : RInv (tagNameS s c) := by
  unfold tagNameS
  refine r_bif (fun _ => within_inv h.el c) (fun _ => r_bif (fun hl => rOk (h.elem ?_ hk)) (fun _ => rBad (by decide)))
  have hl := of_decide_eq_true hl
  rw [List.length_append, List.length_singleton]
  revert hl
  cases s.k == 4 <;> simp only [cond_true, cond_false] <;> omega
theorem SInv.kind {s : SS} (h : SInv s) {k : Int} (hs : 6 ≤ s.k ∧ s.k ≤ 8) (hk : 6 ≤ k ∧ k ≤ 10 ∧ k ≠ 9) : SInv { s with k := k } := by
  have hp : s.pt = 0 ∧ s.wd = [] := by
    rcases h.ptk with a | a
    · unfold subB inB at a
      simp only [Bool.or_eq_true, Bool.and_eq_true, decide_eq_true_eq] at a
      omega
    · exact a
  have hd : s.dl = 0 := by
    by_cases h0 : s.dl = 0
    · exact h0
    · have := h.dlk.2 h0; omega
  refine ⟨by simp only; omega, by simp only; omega, h.el, by simp only; omega, h.at_, h.pe, h.rf, h.wd, h.p0, h.p1, .inr (.inl ⟨by simp only; omega, by simp only; omega⟩), .inr ⟨by simp only; omega, by simp only; omega⟩, ⟨fun h9 => by simp only at h9; omega, fun h9 => absurd hd h9⟩, h.dlv, ?_, by simp only; omega, ?_, .inr hp⟩
  · rcases h.pek with a | a
    · exact .inl a
    · omega
  · rcases h.rfk with a | a | a | a
    · exact .inl a
    · omega
    · omega
    · omega
theorem attr_inv {s : SS} (h : SInv s) (hk : s.k = 6 ∨ s.k = 7) (c : UInt8) : RInv (attrS s c) := by
  unfold attrS
  refine r_bif (fun _ => rOk (h.kind (by omega) (by omega))) (fun _ => r_bif (fun _ => rOk (h.kind (by omega) (by omega))) (fun _ => r_bif (fun _ => within_inv h.el c) (fun _ => r_bif (fun hl => rOk (h.attr ?_ hk)) (fun _ => rBad (by decide)))))
  have hl := of_decide_eq_true hl
  rw [List.length_append, List.length_singleton]
  omega
section
variable {O : Bs → Bs × Nat} {U : Bs → Bool} (hU : ∀ t, U t = true → t.length ≤ 16)
include hU
theorem want_inv {s : SS} (h : SInv s) (hk : s.k = 8) (c : UInt8) : RInv (wantS O U s c) := by
  have hp : s.pt = 0 ∧ s.wd = [] := by
    rcases h.ptk with a | a
    · unfold subB inB at a
      simp only [Bool.or_eq_true, Bool.and_eq_true, decide_eq_true_eq] at a
      omega
    · exact a
  unfold wantS
  refine r_bif (fun _ => rOk h) (fun _ => r_bif (fun hc => rOk ?_) (fun _ => r_bif (fun _ => end_inv h.el) (fun _ => char_inv hU (h.kind (k := 10) (by omega) (by omega)) (.inr (.inr ⟨by simp, by simp⟩)) c)))
  simp only [Bool.or_eq_true, beq_iff_eq] at hc
  have hc0 : c ≠ 0 := by rintro rfl; revert hc; decide
  refine ⟨by simp, by simp, h.el, by simp, h.at_, h.pe, h.rf, h.wd, h.p0, h.p1, .inr (.inl ⟨by simp, by simp⟩), .inr ⟨by simp, by simp⟩, ⟨fun _ => hc0, fun _ => rfl⟩, .inr hc, ?_, by simp, ?_, .inr hp⟩
  · rcases h.pek with a | a
    · exact .inl a
    · omega
  · exact .inr (.inr (.inr ⟨by simp, by simp⟩))
theorem inValue_inv {s : SS} (h : SInv s) (hk : s.k = 9 ∨ s.k = 10) (c : UInt8) : RInv (inValueS O U s c) := by
  have he : (flushS s).s.el = s.el := (sub_same { s with rf := [] } s.rf).2.1
  unfold inValueS
  refine r_bif (fun _ => (flush_inv h).then fun _ => rOk (to_inv (by rw [he]; exact h.el) (by omega) (by omega))) (fun _ => r_bif (fun _ => (flush_inv h).then fun _ => within_inv (by rw [he]; exact h.el) c) (fun _ => char_inv hU h (.inr (.inr ⟨by omega, by omega⟩)) c))
theorem data_inv {s : SS} (h : SInv s) (hk : s.k = 0) (c : UInt8) : RInv (dataS O U s c) := by
  unfold dataS
  refine r_bif (fun _ => rOk ?_) (fun _ => char_inv hU h (.inl hk) c)
  constructor <;> simp [ss0]
theorem begin_inv (s : SS) (c : UInt8) : RInv (beginS O U s c) := by
  unfold beginS
  refine r_bif (fun _ => rOk ?_) (fun _ => r_bif (fun _ => rOk ?_) (fun _ => r_bif (fun _ => rOk ?_) (fun _ => r_bif (fun _ => rOk ?_) (fun _ => data_inv hU ss0_inv rfl c))))
  all_goals (constructor <;> simp [ss0])
theorem plain_inv {s : SS} (h : SInv s) (hk : 17 ≤ s.k) (c : UInt8) : RInv (plainS O U s c) := by
  have h1 := h.k1
  have he : (flushS s).s.k = s.k := (sub_same { s with rf := [] } s.rf).1
  unfold plainS
  refine r_bif (fun _ => r_bif (fun _ => (flush_inv h).then fun h' => rOk (h'.pend (by simp) (.inr (by rw [he]; omega)))) (fun _ => rOk (h.pend (by simp) (.inr (by omega))))) (fun _ => r_bif (fun h17 => char_inv hU h (.inr (.inl (by simpa using h17))) c) (fun _ => sub_inv h _))
omit hU in
theorem starts_len {s p : Bs} (h : startsB s p = true) : p.length ≤ s.length := by
  unfold startsB at h
  simp only [Bool.and_eq_true, decide_eq_true_eq] at h
  exact h.1
theorem raw_inv {s : SS} (h : SInv s) (hk : 17 ≤ s.k) (c : UInt8) : RInv (rawS O U s c) := by
  have h1 := h.k1
  have hl := h.el2 hk
  unfold rawS
  refine r_bif (fun _ => plain_inv hU h hk c) (fun _ => r_bif (fun hw => r_bif (fun _ => rOk (h.pend ?_ (.inr (by omega)))) (fun _ => rBad (by decide))) (fun _ => r_bif (fun _ => ?_) (fun _ => ?_)))
  · unfold waitsB at hw
    simp only [Bool.or_eq_true, Bool.and_eq_true] at hw
    rcases hw with hw | hw
    · have := starts_len hw
      simp only [List.length_cons] at this
      omega
    · have := starts_len hw.2
      simp only [List.length_cons, List.length_nil] at this
      omega
  · refine tagName_inv ?_ (.inr rfl) c
    constructor <;> simp [ss0] <;> omega
  · have he : (subS { s with pe := [] } s.pe).s.k = s.k := (sub_same { s with pe := [] } s.pe).1
    exact (sub_inv (h.pend (t := []) (by simp) (.inl rfl)) _).then fun h' => plain_inv hU h' (by rw [he]; exact hk) c
omit hU in
theorem bogus_inv {s : SS} (h : SInv s) (c : UInt8) : RInv (bogusS s c) := r_bif (fun _ => rOk ss0_inv) (fun _ => rOk h)
omit hU in
theorem remark_inv {s : SS} (h : SInv s) (hk : s.k = 13 ∨ s.k = 14 ∨ s.k = 16) (c : UInt8) : RInv (remarkS s c) := by
  have hp : s.pt = 0 ∧ s.wd = [] := by
    rcases h.ptk with a | a
    · unfold subB inB at a
      simp only [Bool.or_eq_true, Bool.and_eq_true, decide_eq_true_eq] at a
      omega
    · exact a
  have hd : s.dl = 0 := by
    by_cases h0 : s.dl = 0
    · exact h0
    · have := h.dlk.2 h0; omega
  have hel : s.el = [] := by rcases h.elk with a | a | a; exact a; omega; omega
  have hat : s.ar = [] := by rcases h.atk with a | a; exact a; omega
  have hrf : s.rf = [] := by rcases h.rfk with a | a | a | a; exact a; omega; omega; omega
  have hpe : s.k ≠ 16 → s.pe = [] := fun hn => by rcases h.pek with a | a; exact a; omega
  have hmk : ∀ k : Int, (k = 14 ∨ k = 15 ∨ k = 16) → s.k ≠ 16 → SInv { s with k := k } := fun k hk' hn => by
    have := hpe hn
    constructor <;> simp [hel, hat, hrf, hd, this, hp.1, hp.2] <;> omega
  unfold remarkS
  refine r_bif (fun h1 => rOk ?_) (fun _ => r_bif (fun h1 => rOk ?_) (fun _ => r_bif (fun h1 => ?_) (fun h1 => ?_)))
  · simp only [Bool.and_eq_true, beq_iff_eq] at h1
    exact hmk _ (by omega) (by omega)
  · simp only [Bool.and_eq_true, beq_iff_eq] at h1
    exact hmk _ (by omega) (by omega)
  · exact bogus_inv (hmk _ (by omega) (by simpa using h1)) c
  · have h16 : s.k = 16 := by simpa using h1
    have hset : ∀ t : Bs, (t = [] ∨ t = [45] ∨ t = [45, 45]) → SInv { s with pe := t } := fun t ht => by
      have hl : t.length ≤ 2 := by rcases ht with rfl | rfl | rfl <;> simp
      exact ⟨h.k0, h.k1, h.el, h.el2, h.at_, by simp only; omega, h.rf, h.wd, h.p0, h.p1, h.elk, h.atk, h.dlk, h.dlv, .inr ⟨by simp only; omega, by simp only; omega⟩, fun _ => ht, h.rfk, h.ptk⟩
    refine r_bif (fun h2 => rOk (hset _ ?_)) (fun _ => r_bif (fun _ => rOk ss0_inv) (fun _ => r_bif (fun _ => rOk (hset _ (.inl rfl))) (fun _ => rOk h)))
    simp only [Bool.and_eq_true, bne_iff_ne] at h2
    rcases h.pe16 h16 with a | a | a
    · exact .inr (.inl (by rw [a]; rfl))
    · exact .inr (.inr (by rw [a]; rfl))
    · exact absurd a h2.2
theorem step_inv {s : SS} (h : SInv s) (c : UInt8) : RInv (stepS O U s c) := by
  have h0 := h.k0
  have h1 := h.k1
  unfold stepS
  refine r_bif (fun a => data_inv hU h (by simpa using a) c) (fun a0 => r_bif (fun a => begin_inv hU s c) (fun a1 => r_bif (fun a => ?_) (fun a2 => r_bif (fun a => tagName_inv h (by simpa using a) c) (fun a3 => r_bif (fun a => within_inv h.el c) (fun a4 => r_bif (fun a => attr_inv h (by simpa using a) c) (fun a5 => r_bif (fun a => want_inv hU h (by simpa using a) c) (fun a6 => r_bif (fun a => inValue_inv hU h (by simpa using a) c) (fun a7 => r_bif (fun a => within_inv h.el c) (fun a8 => r_bif (fun a => remark_inv h (by simpa [or_assoc] using a) c) (fun a9 => r_bif (fun a => bogus_inv h c) (fun a10 => raw_inv hU h ?_ c)))))))))))
  · unfold beginEndS
    refine r_bif (fun _ => rOk ?_) (fun _ => r_bif (fun _ => rOk ss0_inv) (fun _ => rOk ?_))
    all_goals (constructor <;> simp [ss0])
  · simp only [Bool.or_eq_false_iff, beq_eq_false_iff_ne] at *
    omega
theorem scanStep_inv {s : SS} (h : SInv s) (c : UInt8) : SInv (scanStep O U s c).1 := by
  unfold scanStep
  rw [h.mark]
  have := step_inv (O := O) hU h c
  revert this
  generalize stepS O U s c = r
  intro hr
  simp only [bne_self_eq_false, cond_false]
  cases he : r.e == 0 with
  | false => exact ss0_inv
  | true => exact hr (by simpa using he)
theorem feedL_inv : ∀ (t : Bs) {s : SS}, SInv s → SInv (feedL O U s t).1
  | [], s, h => h
  | c :: t, s, h => by
    unfold feedL
    cases (scanStep O U s c).2 != 0 with
    | true => exact ss0_inv
    | false => exact feedL_inv t (scanStep_inv hU h c)
theorem scanFeed_inv {s : SS} (h : SInv s) (t : Bs) : SInv (scanFeed O U s t).1 := by
  unfold scanFeed
  rw [h.mark]
  exact feedL_inv hU t h
omit hU in
theorem feedL_app : ∀ (a b : Bs) (s : SS), feedL O U s (a ++ b) = bif (feedL O U s a).2.2 != 0 then feedL O U s a else ((feedL O U (feedL O U s a).1 b).1, (feedL O U s a).2.1 + (feedL O U (feedL O U s a).1 b).2.1, (feedL O U (feedL O U s a).1 b).2.2)
  | [], b, s => by simp [feedL]
  | c :: a, b, s => by
    have e1 : feedL O U s (c :: (a ++ b)) = bif (scanStep O U s c).2 != 0 then (ss0, 0, (scanStep O U s c).2) else ((feedL O U (scanStep O U s c).1 (a ++ b)).1, (feedL O U (scanStep O U s c).1 (a ++ b)).2.1 + 1, (feedL O U (scanStep O U s c).1 (a ++ b)).2.2) := rfl
    have e2 : feedL O U s (c :: a) = bif (scanStep O U s c).2 != 0 then (ss0, 0, (scanStep O U s c).2) else ((feedL O U (scanStep O U s c).1 a).1, (feedL O U (scanStep O U s c).1 a).2.1 + 1, (feedL O U (scanStep O U s c).1 a).2.2) := rfl
    rw [List.cons_append, e1, e2, feedL_app a b]
    cases h : (scanStep O U s c).2 != 0 with
    | true => simp only [cond_true, h]
    | false =>
      simp only [cond_false]
      generalize feedL O U (scanStep O U s c).1 a = r
      cases r.2.2 != 0 with
      | true => rfl
      | false =>
        simp only [cond_false]
        generalize feedL O U r.1 b = q
        have : r.2.1 + q.2.1 + 1 = r.2.1 + 1 + q.2.1 := by omega
        rw [this]
omit hU in
end
end Go.Mu
set_option linter.unusedVariables false
set_option linter.unusedSimpArgs false
namespace Go.Mu
open Go
/- scan.Hole -/
def urlHole (p : Int) : Int × Int := bif p == 0 then (4, 1) else bif p == 2 || p == 3 then (p, p) else (p, 0)
def jsHole (p : Int) : Int × Int := bif p == 0 || p == 1 then (1, 1) else bif p == 2 || p == 3 then (p, 2) else (p, 0)
def inAttrM (s : SS) : SS × Int :=
  bif hpB [47] s.el then (s, 0)
  else bif kindM s == 0 then (s, 3)
  else bif kindM s == 1 then ({ s with pt := (urlHole s.pt).1, wd := [] }, bif decide ((urlHole s.pt).2 > 0) then (urlHole s.pt).2 + 3 else (urlHole s.pt).2)
  else bif kindM s == 2 then ({ s with pt := (jsHole s.pt).1, wd := [] }, bif decide ((jsHole s.pt).2 > 0) then (jsHole s.pt).2 + 8 else (jsHole s.pt).2)
  else bif kindM s == 3 then (bif s.pt == 0 then ({ s with pt := 0, wd := [63] }, 12) else ({ s with wd := [] }, 0))
  else (s, 0)
def inRawM (s : SS) : SS × Int :=
  bif s.k == 18 then (bif s.pt == 0 then ({ s with pt := 0, wd := [63] }, 11) else ({ s with wd := [] }, 0))
  else ({ s with pt := (jsHole s.pt).1, wd := [] }, bif decide ((jsHole s.pt).2 > 0) then (jsHole s.pt).2 + 6 else (jsHole s.pt).2)
def holeR (s : SS) : SS × Int :=
  bif s.pe == [] && s.rf == [] then (bif s.k == 0 then (s, 1) else bif s.k == 17 then (s, 2) else bif s.k == 9 then inAttrM s else bif s.k == 18 || s.k == 19 then inRawM s else (s, 0)) else (s, 0)
def holeM (s : SS) : SS × Int × Int := bif markE s != 0 then (ss0, 0, markE s) else bif (holeR s).2 == 0 then (ss0, 0, 91) else ((holeR s).1, (holeR s).2, 0)
/- words stand in code alone -/
def JOk (s : SS) : Prop := s.wd = [] ∨ langM s ≠ 2 ∨ s.pt = 0 ∨ s.pt = 1
def RJ (r : ScR) : Prop := r.e = 0 → JOk r.s
theorem jOk {s : SS} (h : JOk s) : RJ (sOk s) := fun _ => h
theorem jBad {e : Int} {s : SS} (h : e ≠ 0) : RJ (sBad e s) := fun h0 => absurd h0 h
theorem j_bif {b : Bool} {x y : ScR} (h1 : b = true → RJ x) (h2 : b = false → RJ y) : RJ (bif b then x else y) := by
  cases b
  · exact h2 rfl
  · exact h1 rfl
theorem RJ.then {r : ScR} {f : SS → ScR} (h : RJ r) (g : JOk r.s → RJ (f r.s)) : RJ (r.then f) := by
  unfold ScR.then
  by_cases h0 : r.e = 0
  · have : (r.e == 0) = true := by simp [h0]
    rw [this]; exact g (h h0)
  · have : (r.e == 0) = false := by simp [h0]
    rw [this]; exact h
theorem langM_congr {s t : SS} (h1 : t.k = s.k) (h2 : t.el = s.el) (h3 : t.ar = s.ar) : langM t = langM s := by
  unfold langM kindM inB
  rw [h1, h2, h3]
theorem JOk.same {s t : SS} (h : JOk s) (h1 : t.k = s.k) (h2 : t.el = s.el) (h3 : t.ar = s.ar) (h4 : t.pt = s.pt) (h5 : t.wd = s.wd) : JOk t := by
  unfold JOk at *
  rw [langM_congr h1 h2 h3, h4, h5]
  exact h
theorem j_nil {s : SS} (h : s.wd = []) : JOk s := .inl h
def PJ (r : Int × Bs) : Prop := r.2 = [] ∨ r.1 = 0 ∨ r.1 = 1
theorem pj_bif {b : Bool} {x y : Int × Bs} (h1 : PJ x) (h2 : PJ y) : PJ (bif b then x else y) := by
  cases b
  · exact h2
  · exact h1
theorem jsCode_pj (p : Int) (w : Bs) (c : UInt8) : PJ (jsCode p w c) := by
  unfold jsCode
  repeat' with_reducible apply pj_bif
  all_goals first
    | exact .inl rfl
    | exact .inr (.inr rfl)
theorem jsSlashed_pj (p : Int) (c : UInt8) : PJ (jsSlashed p c) := by
  unfold jsSlashed
  repeat' with_reducible apply pj_bif
  all_goals first
    | exact .inl rfl
    | exact jsCode_pj _ _ _
theorem jsStep_pj (p : Int) (w : Bs) (c : UInt8) : PJ (jsStep p w c) := by
  unfold jsStep
  repeat' with_reducible apply pj_bif
  all_goals first
    | exact .inl rfl
    | exact jsCode_pj _ _ _
    | exact jsSlashed_pj _ _
theorem feed_pj : ∀ (x : Bs) (p : Int) (w : Bs), PJ (p, w) → PJ (feedP jsStep p w x)
  | [], p, w, h => h
  | c :: x, p, w, h => feed_pj x _ _ (jsStep_pj p w c)
theorem sub_j {s : SS} (h : JOk s) (x : Bs) : RJ (subS s x) := by
  intro _
  have hs := sub_same s x
  have hl : langM (subS s x).s = langM s := langM_congr hs.1 hs.2.1 hs.2.2.1
  by_cases h2 : langM s = 2
  · unfold JOk at h
    have hp : PJ (s.pt, s.wd) := by
      rcases h with a | a | a | a
      · exact .inl a
      · exact absurd h2 a
      · exact .inr (.inl a)
      · exact .inr (.inr a)
    have e : (subS s x).s = { s with pt := (feedP jsStep s.pt s.wd x).1, wd := (feedP jsStep s.pt s.wd x).2 } := by unfold subS; rw [h2]; rfl
    rcases feed_pj x _ _ hp with a | a | a
    · exact .inl (by rw [e]; exact a)
    · exact .inr (.inr (.inl (by rw [e]; exact a)))
    · exact .inr (.inr (.inr (by rw [e]; exact a)))
  · exact .inr (.inl (by rw [hl]; exact h2))
theorem flush_j {s : SS} (h : JOk s) : RJ (flushS s) := sub_j (h.same (t := { s with rf := [] }) rfl rfl rfl rfl rfl) _
theorem char0_j {s : SS} (h : JOk s) (c : UInt8) : RJ (charS0 s c) := j_bif (fun _ => jOk (h.same rfl rfl rfl rfl rfl)) (fun _ => sub_j h _)
theorem end_j (s : SS) : RJ (endS s) := by
  unfold endS
  exact j_bif (fun _ => jBad (by decide)) (fun _ => j_bif (fun _ => jOk (j_nil rfl)) (fun _ => jOk (j_nil rfl)))
theorem within_j (s : SS) (c : UInt8) : RJ (withinS s c) := by
  unfold withinS
  exact j_bif (fun _ => jOk (j_nil rfl)) (fun _ => j_bif (fun _ => jOk (j_nil rfl)) (fun _ => j_bif (fun _ => end_j s) (fun _ => jOk (j_nil rfl))))
theorem SInv.wd0 {s : SS} (h : SInv s) (hk : s.k < 9 ∨ (10 < s.k ∧ s.k < 18)) : s.pt = 0 ∧ s.wd = [] := by
  rcases h.ptk with a | a
  · unfold subB inB at a
    simp only [Bool.or_eq_true, Bool.and_eq_true, decide_eq_true_eq] at a
    omega
  · exact a
theorem tagName_j {s : SS} (h : s.wd = []) (c : UInt8) : RJ (tagNameS s c) := by
  unfold tagNameS
  exact j_bif (fun _ => within_j s c) (fun _ => j_bif (fun _ => jOk (j_nil h)) (fun _ => jBad (by decide)))
theorem attr_j {s : SS} (h : s.wd = []) (c : UInt8) : RJ (attrS s c) := by
  unfold attrS
  exact j_bif (fun _ => jOk (j_nil h)) (fun _ => j_bif (fun _ => jOk (j_nil h)) (fun _ => j_bif (fun _ => within_j s c) (fun _ => j_bif (fun _ => jOk (j_nil h)) (fun _ => jBad (by decide)))))
section
variable {O : Bs → Bs × Nat} {U : Bs → Bool}
theorem char_j {s : SS} (h : JOk s) (c : UInt8) : RJ (charS O U s c) := by
  unfold charS
  exact j_bif (fun _ => j_bif (fun _ => sub_j (h.same (t := { s with rf := [] }) rfl rfl rfl rfl rfl) _) (fun _ => j_bif (fun _ => jOk (h.same rfl rfl rfl rfl rfl)) (fun _ => (flush_j h).then fun h' => char0_j h' c))) (fun _ => char0_j h c)
theorem want_j {s : SS} (h : s.wd = []) (c : UInt8) : RJ (wantS O U s c) := by
  unfold wantS
  exact j_bif (fun _ => jOk (j_nil h)) (fun _ => j_bif (fun _ => jOk (j_nil h)) (fun _ => j_bif (fun _ => end_j s) (fun _ => char_j (s := { s with k := 10 }) (j_nil h) c)))
theorem inValue_j {s : SS} (h : JOk s) (c : UInt8) : RJ (inValueS O U s c) := by
  unfold inValueS
  exact j_bif (fun _ => (flush_j h).then fun _ => jOk (j_nil rfl)) (fun _ => j_bif (fun _ => (flush_j h).then fun _ => within_j _ c) (fun _ => char_j h c))
theorem data_j {s : SS} (h : JOk s) (c : UInt8) : RJ (dataS O U s c) := by
  unfold dataS
  exact j_bif (fun _ => jOk (j_nil rfl)) (fun _ => char_j h c)
theorem plain_j {s : SS} (h : JOk s) (c : UInt8) : RJ (plainS O U s c) := by
  unfold plainS
  exact j_bif (fun _ => j_bif (fun _ => (flush_j h).then fun h' => jOk (h'.same rfl rfl rfl rfl rfl)) (fun _ => jOk (h.same rfl rfl rfl rfl rfl))) (fun _ => j_bif (fun _ => char_j h c) (fun _ => sub_j h _))
theorem raw_j {s : SS} (h : JOk s) (c : UInt8) : RJ (rawS O U s c) := by
  unfold rawS
  exact j_bif (fun _ => plain_j h c) (fun _ => j_bif (fun _ => j_bif (fun _ => jOk (h.same rfl rfl rfl rfl rfl)) (fun _ => jBad (by decide))) (fun _ => j_bif (fun _ => tagName_j rfl c) (fun _ => (sub_j (h.same (t := { s with pe := [] }) rfl rfl rfl rfl rfl) _).then fun h' => plain_j h' c)))
theorem remark_j {s : SS} (h : s.wd = []) (c : UInt8) : RJ (remarkS s c) := by
  unfold remarkS bogusS
  refine j_bif (fun _ => jOk (j_nil h)) (fun _ => j_bif (fun _ => jOk (j_nil h)) (fun _ => j_bif (fun _ => j_bif (fun _ => jOk (j_nil rfl)) (fun _ => jOk (j_nil h))) (fun _ => j_bif (fun _ => jOk (j_nil h)) (fun _ => j_bif (fun _ => jOk (j_nil rfl)) (fun _ => j_bif (fun _ => jOk (j_nil h)) (fun _ => jOk (j_nil h)))))))
theorem step_j {s : SS} (h : SInv s) (hj : JOk s) (c : UInt8) : RJ (stepS O U s c) := by
  unfold stepS
  refine j_bif (fun a => data_j hj c) (fun a0 => j_bif (fun a => ?_) (fun a1 => j_bif (fun a => ?_) (fun a2 => j_bif (fun a => tagName_j (h.wd0 ?_).2 c) (fun a3 => j_bif (fun a => within_j s c) (fun a4 => j_bif (fun a => attr_j (h.wd0 ?_).2 c) (fun a5 => j_bif (fun a => want_j (h.wd0 ?_).2 c) (fun a6 => j_bif (fun a => inValue_j hj c) (fun a7 => j_bif (fun a => within_j s c) (fun a8 => j_bif (fun a => remark_j (h.wd0 ?_).2 c) (fun a9 => j_bif (fun a => ?_) (fun a10 => raw_j hj c)))))))))))
  · unfold beginS
    exact j_bif (fun _ => jOk (j_nil rfl)) (fun _ => j_bif (fun _ => jOk (j_nil rfl)) (fun _ => j_bif (fun _ => jOk (j_nil rfl)) (fun _ => j_bif (fun _ => jOk (j_nil rfl)) (fun _ => data_j (j_nil rfl) c))))
  · unfold beginEndS
    exact j_bif (fun _ => jOk (j_nil rfl)) (fun _ => j_bif (fun _ => jOk (j_nil rfl)) (fun _ => jOk (j_nil rfl)))
  · simp only [Bool.or_eq_true, beq_iff_eq] at a; omega
  · simp only [Bool.or_eq_true, beq_iff_eq] at a; omega
  · simp only [beq_iff_eq] at a; omega
  · simp only [Bool.or_eq_true, beq_iff_eq] at a; omega
  · unfold bogusS
    exact j_bif (fun _ => jOk (j_nil rfl)) (fun _ => jOk hj)
theorem scanStep_j {s : SS} (h : SInv s) (hj : JOk s) (c : UInt8) : JOk (scanStep O U s c).1 := by
  unfold scanStep
  rw [h.mark]
  have := step_j (O := O) (U := U) h hj c
  revert this
  generalize stepS O U s c = r
  intro hr
  simp only [bne_self_eq_false, cond_false]
  cases he : r.e == 0 with
  | false => exact j_nil rfl
  | true => exact hr (by simpa using he)
theorem feedL_j (hU : ∀ t, U t = true → t.length ≤ 16) : ∀ (t : Bs) {s : SS}, SInv s → JOk s → JOk (feedL O U s t).1
  | [], s, h, hj => hj
  | c :: t, s, h, hj => by
    unfold feedL
    cases (scanStep O U s c).2 != 0 with
    | true => exact j_nil rfl
    | false => exact feedL_j hU t (scanStep_inv hU h c) (scanStep_j h hj c)
/- within a script -/
structure JS (s : SS) : Prop where
  inv : SInv s
  lang : langM s = 2
  kind : s.k = 19 ∨ s.k = 9
  pe : s.pe = []
  rf : s.rf = []
def pwS (s : SS) (r : Int × Bs) : SS := { s with pt := r.1, wd := r.2 }
theorem js_step {s : SS} (h : JS s) {c : UInt8} (h60 : c ≠ 60) (h38 : c ≠ 38) (hq : s.k = 9 → c ≠ 34 ∧ c ≠ 39) (h15 : (jsStep s.pt s.wd c).1 ≠ 15) : scanStep O U s c = (pwS s (jsStep s.pt s.wd c), 0) := by
  have hs : subS s [c] = ⟨0, pwS s (jsStep s.pt s.wd c)⟩ := by
    unfold subS
    rw [h.lang]
    show ScR.mk (bif (jsStep s.pt s.wd c).1 != 15 then 0 else 94) _ = _
    have : ((jsStep s.pt s.wd c).1 != 15) = true := by simpa using h15
    rw [this]; rfl
  have e60 : (c == 60) = false := by simpa using h60
  have e38 : (c == 38) = false := by simpa using h38
  have hstep : stepS O U s c = subS s [c] := by
    rcases h.kind with hk | hk
    · unfold stepS rawS plainS
      rw [hk, h.pe, e60]
      rfl
    · have hd : (c == s.dl) = false := by
        have h1 := h.inv.dlv
        have h2 := h.inv.dlk.1 hk
        have h3 := hq hk
        simp only [beq_eq_false_iff_ne]
        rcases h1 with a | a | a
        · exact absurd a h2
        · rw [a]; exact h3.1
        · rw [a]; exact h3.2
      unfold stepS inValueS charS charS0
      rw [hk, hd, h.rf, e38]
      rfl
  unfold scanStep
  rw [h.inv.mark, hstep, hs]
  rfl
theorem JS.next {s : SS} (h : JS s) {r : Int × Bs} (hr : PW r) : JS (pwS s r) := by
  have hsub : subB s = true := lang_sub (by rw [h.lang]; decide) (kindM_r s)
  exact ⟨h.inv.part hsub hr, (langM_congr rfl rfl rfl).trans h.lang, h.kind, h.pe, h.rf⟩
def strC (c : UInt8) : Bool := c != 34 && c != 39 && c != 92 && c != 10 && c != 13 && c != 60 && c != 38
inductive Ins : Bs → Prop
  | nil : Ins []
  | cons {c : UInt8} {x : Bs} (h : strC c = true) (hx : Ins x) : Ins (c :: x)
  | esc {x : Bs} (hx : Ins x) : Ins (92 :: 117 :: x)
theorem Ins.append {x y : Bs} (hx : Ins x) (hy : Ins y) : Ins (x ++ y) := by
  induction hx with
  | nil => exact hy
  | cons h _ ih => exact .cons h ih
  | esc _ ih => exact .esc ih
theorem pwS_self {s : SS} {p : Int} (hp : s.pt = p) (hw : s.wd = []) : pwS s (p, []) = s := by
  unfold pwS
  rw [← hp, ← hw]
theorem pwS_pwS (s : SS) (a b : Int × Bs) : pwS (pwS s a) b = pwS s b := rfl
theorem feedL_step {s : SS} {c : UInt8} {x : Bs} {s' : SS} (h : scanStep O U s c = (s', 0)) : feedL O U s (c :: x) = ((feedL O U s' x).1, (feedL O U s' x).2.1 + 1, (feedL O U s' x).2.2) := by
  show (bif (scanStep O U s c).2 != 0 then _ else _) = _
  rw [h]; rfl
theorem str_step {s : SS} {p : Int} (h : JS s) (hp : s.pt = p) (h23 : p = 2 ∨ p = 3) (hw : s.wd = []) {c : UInt8} (hc : strC c = true) : scanStep O U s c = (s, 0) := by
  simp only [strC, Bool.and_eq_true, bne_iff_ne] at hc
  obtain ⟨⟨⟨⟨⟨⟨c1, c2⟩, c3⟩, c4⟩, c5⟩, c6⟩, c7⟩ := hc
  have e : jsStep s.pt s.wd c = (p, []) := by
    rw [hp]
    have e1 : (c == 34) = false := by simpa using c1
    have e2 : (c == 39) = false := by simpa using c2
    have e3 : (c == 92) = false := by simpa using c3
    have e4 : (c == 10) = false := by simpa using c4
    have e5 : (c == 13) = false := by simpa using c5
    have eq : jsQuoted p c = p := by
      unfold jsQuoted nlB
      rw [e3, e4, e5]
      rcases h23 with rfl | rfl
      · show (bif c == 34 then _ else _) = _
        rw [e1]; rfl
      · show (bif c == 39 then _ else _) = _
        rw [e2]; rfl
    unfold jsStep
    rw [eq]
    rcases h23 with rfl | rfl <;> rfl
  rw [js_step h c6 c7 (fun _ => ⟨c1, c2⟩) (by rw [e]; simp only; omega), e, pwS_self hp hw]
theorem ins_feed {s : SS} {p : Int} (h : JS s) (hp : s.pt = p) (h23 : p = 2 ∨ p = 3) (hw : s.wd = []) {x : Bs} (hx : Ins x) : feedL O U s x = (s, x.length, 0) := by
  induction hx with
  | nil => rfl
  | cons hc _ ih => rw [feedL_step (str_step h hp h23 hw hc), ih]; rfl
  | @esc x _ ih =>
    have e1 : jsStep s.pt s.wd 92 = (p + 2, []) := by rw [hp]; rcases h23 with rfl | rfl <;> rfl
    have h1 : PW (p + 2, ([] : Bs)) := by rcases h23 with rfl | rfl <;> exact ⟨by decide, by decide, by decide⟩
    have hn := h.next h1
    have e2 : jsStep (pwS s (p + 2, [])).pt (pwS s (p + 2, [])).wd 117 = (p, []) := by
      show jsStep (p + 2) [] 117 = _
      rcases h23 with rfl | rfl <;> rfl
    rw [feedL_step (js_step h (by decide) (by decide) (fun _ => ⟨by decide, by decide⟩) (by rw [e1]; simp only; omega)), e1, feedL_step (js_step hn (by decide) (by decide) (fun _ => ⟨by decide, by decide⟩) (by rw [e2]; simp only; omega)), e2, pwS_pwS, pwS_self hp hw, ih]
    rfl
theorem feedL_then {s t : SS} {a b : Bs} {n : Nat} (h : feedL O U s a = (t, n, 0)) : feedL O U s (a ++ b) = ((feedL O U t b).1, n + (feedL O U t b).2.1, (feedL O U t b).2.2) := by
  rw [feedL_app, h]; rfl
theorem blank_js (p : Int) (w : Bs) (h : p = 0 ∨ p = 1) : ∃ q, (q = 0 ∨ q = 1) ∧ jsStep p w 32 = (q, []) := by
  refine ⟨jsEnded p w, ?_, ?_⟩
  · unfold jsEnded
    cases (w != [] && jsWords.contains w)
    · exact h
    · exact .inl rfl
  · rcases h with rfl | rfl <;> rfl
theorem quote_js (q : Int) (h : q = 0 ∨ q = 1) : jsStep q [] 34 = (2, []) := by rcases h with rfl | rfl <;> rfl
def QuoteIs (O : Bs → Bs × Nat) (U : Bs → Bool) (s : SS) (q : Bs) : Prop := ∀ t : SS, JS t → t.k = s.k → (jsStep t.pt t.wd 34).1 ≠ 15 → feedL O U t q = (pwS t (jsStep t.pt t.wd 34), q.length, 0)
theorem value_feed {s : SS} (hU : ∀ t, U t = true → t.length ≤ 16) (h : JS s) (hp : s.pt = 0 ∨ s.pt = 1) {q i : Bs} (hq : QuoteIs O U s q) (hi : Ins i) : feedL O U s (32 :: (q ++ (i ++ (q ++ [32])))) = (pwS s (1, []), (32 :: (q ++ (i ++ (q ++ [32])))).length, 0) := by
  obtain ⟨q0, hq0, e0⟩ := blank_js s.pt s.wd hp
  have h1 : JS (pwS s (q0, [])) := h.next (by rcases hq0 with rfl | rfl <;> exact ⟨by decide, by decide, by decide⟩)
  have e1 := quote_js q0 hq0
  have h2 : JS (pwS s (2, [])) := h.next ⟨by decide, by decide, by decide⟩
  have h3 : JS (pwS s (1, [])) := h.next ⟨by decide, by decide, by decide⟩
  have f1 : feedL O U (pwS s (q0, [])) q = (pwS s (2, []), q.length, 0) := by
    have := hq (pwS s (q0, [])) h1 rfl (by show (jsStep q0 [] 34).1 ≠ 15; rw [e1]; decide)
    rw [this]
    show (pwS s (jsStep q0 [] 34), _, _) = _
    rw [e1]
  have f2 : feedL O U (pwS s (2, [])) i = (pwS s (2, []), i.length, 0) := ins_feed h2 rfl (.inl rfl) rfl hi
  have f3 : feedL O U (pwS s (2, [])) q = (pwS s (1, []), q.length, 0) := hq (pwS s (2, [])) h2 rfl (by show (1 : Int) ≠ 15; decide)
  have f4 : feedL O U (pwS s (1, [])) [32] = (pwS s (1, []), 1, 0) := by
    rw [feedL_step (js_step h3 (by decide) (by decide) (fun _ => ⟨by decide, by decide⟩) (by show (1 : Int) ≠ 15; decide))]
    rfl
  rw [feedL_step (js_step h (by decide) (by decide) (fun _ => ⟨by decide, by decide⟩) (by rw [e0]; rcases hq0 with rfl | rfl <;> decide)), e0, feedL_then f1, feedL_then f2, feedL_then f3, f4]
  simp only [List.length_cons, List.length_append, List.length_nil]
theorem quote_raw {s : SS} (hk : s.k = 19) : QuoteIs O U s [34] := fun t h ht h15 => by
  rw [feedL_step (js_step h (by decide) (by decide) (fun h9 => by rw [ht, hk] at h9; cases h9) h15)]
  rfl
theorem quote_ref {s : SS} (hU : ∀ t, U t = true → t.length ≤ 16) (hk : s.k = 9) (o1 : (O [38, 35]).2 ≠ 2) (u1 : U [38, 35] = true) (o2 : (O [38, 35, 51]).2 ≠ 3) (u2 : U [38, 35, 51] = true) (o3 : (O [38, 35, 51, 52]).2 ≠ 4) (u3 : U [38, 35, 51, 52] = true) (o4 : O [38, 35, 51, 52, 59] = ([34], 5)) : QuoteIs O U s [38, 35, 51, 52, 59] := fun t h ht h15 => by
  have hk : t.k = 9 := ht.trans hk
  have hd : ∀ c : UInt8, c ≠ 34 → c ≠ 39 → (c == t.dl) = false := fun c h3 h4 => by
    have h1 := h.inv.dlv
    have h2 := h.inv.dlk.1 hk
    simp only [beq_eq_false_iff_ne]
    rcases h1 with a | a | a
    · exact absurd a h2
    · rw [a]; exact h3
    · rw [a]; exact h4
  have hi : ∀ r : Bs, r.length ≤ 16 → SInv { t with rf := r } := fun r hr => h.inv.ref hr (.inr (.inr (.inr ⟨by omega, by omega⟩)))
  have st : ∀ (r : Bs) (c : UInt8), r.length ≤ 16 → c ≠ 34 → c ≠ 39 → ∀ x : ScR, charS O U { t with rf := r } c = x → x.e = 0 → scanStep O U { t with rf := r } c = (x.s, 0) := fun r c hr c1 c2 x hx he => by
    have : stepS O U { t with rf := r } c = charS O U { t with rf := r } c := by
      unfold stepS inValueS
      simp only [hk, hd c c1 c2]
      rfl
    unfold scanStep
    rw [(hi r hr).mark, this, hx, he]
    rfl
  have e0 : t = { t with rf := [] } := by rw [← h.rf]
  have s1 : scanStep O U t 38 = ({ t with rf := [38] }, 0) := by
    rw [e0]
    exact st [] 38 (by decide) (by decide) (by decide) (sOk { t with rf := [38] }) rfl rfl
  have mid : ∀ (r : Bs) (c : UInt8), r ≠ [] → r.length ≤ 15 → c ≠ 34 → c ≠ 39 → (O (r ++ [c])).2 ≠ (r ++ [c]).length → U (r ++ [c]) = true → scanStep O U { t with rf := r } c = ({ t with rf := r ++ [c] }, 0) := fun r c h0 hr c1 c2 ho hu => by
    refine st r c (by omega) c1 c2 (sOk { t with rf := r ++ [c] }) ?_ rfl
    unfold charS
    have a1 : (r != []) = true := by simpa using h0
    have a2 : ((O (r ++ [c])).2 == (r ++ [c]).length) = false := by simpa using ho
    simp only [a1, a2, hu]
    rfl
  have s2 : scanStep O U { t with rf := [38] } 35 = ({ t with rf := [38, 35] }, 0) := mid [38] 35 (by decide) (by decide) (by decide) (by decide) o1 u1
  have s3 : scanStep O U { t with rf := [38, 35] } 51 = ({ t with rf := [38, 35, 51] }, 0) := mid [38, 35] 51 (by decide) (by decide) (by decide) (by decide) o2 u2
  have s4 : scanStep O U { t with rf := [38, 35, 51] } 52 = ({ t with rf := [38, 35, 51, 52] }, 0) := mid [38, 35, 51] 52 (by decide) (by decide) (by decide) (by decide) o3 u3
  have s5 : scanStep O U { t with rf := [38, 35, 51, 52] } 59 = (pwS t (jsStep t.pt t.wd 34), 0) := by
    have hs : subS { t with rf := [] } [34] = ⟨0, pwS t (jsStep t.pt t.wd 34)⟩ := by
      rw [← e0]
      unfold subS
      rw [h.lang]
      show ScR.mk (bif (jsStep t.pt t.wd 34).1 != 15 then 0 else 94) _ = _
      have : ((jsStep t.pt t.wd 34).1 != 15) = true := by simpa using h15
      rw [this]; rfl
    refine st [38, 35, 51, 52] 59 (by decide) (by decide) (by decide) ⟨0, pwS t (jsStep t.pt t.wd 34)⟩ ?_ rfl
    unfold charS
    show (bif (O [38, 35, 51, 52, 59]).2 == 5 then subS { t with rf := [] } (O [38, 35, 51, 52, 59]).1 else _) = _
    rw [o4]
    exact hs
  rw [feedL_step s1, feedL_step s2, feedL_step s3, feedL_step s4, feedL_step s5]
  rfl
end
theorem jsHole_c (p : Int) : (jsHole p = (1, 1) ∧ (p = 0 ∨ p = 1)) ∨ (jsHole p = (p, 2) ∧ (p = 2 ∨ p = 3)) ∨ jsHole p = (p, 0) := by
  unfold jsHole
  cases h1 : (p == 0 || p == 1) with
  | true => exact .inl ⟨rfl, by simpa using h1⟩
  | false =>
    cases h2 : (p == 2 || p == 3) with
    | true => exact .inr (.inl ⟨rfl, by simpa using h2⟩)
    | false => exact .inr (.inr rfl)
theorem urlHole_c (p : Int) : (urlHole p).2 ≤ 3 := by
  unfold urlHole
  cases h1 : (p == 0) with
  | true => show (1 : Int) ≤ 3; decide
  | false =>
    cases h2 : (p == 2 || p == 3) with
    | true => show p ≤ 3; simp only [Bool.or_eq_true, beq_iff_eq] at h2; omega
    | false => show (0 : Int) ≤ 3; decide
theorem hole_js {t : SS} (h : SInv t) (hj : JOk t) (he : (holeM t).2.2 = 0) (hk : 7 ≤ (holeM t).2.1 ∧ (holeM t).2.1 ≤ 10) :
    JS t ∧ ((holeM t).2.1 ≤ 8 → t.k = 19) ∧ (9 ≤ (holeM t).2.1 → t.k = 9) ∧
    ((holeM t).2.1 = 7 ∨ (holeM t).2.1 = 9 → (t.pt = 0 ∨ t.pt = 1) ∧ (holeM t).1 = pwS t (1, [])) ∧
    ((holeM t).2.1 = 8 ∨ (holeM t).2.1 = 10 → (t.pt = 2 ∨ t.pt = 3) ∧ t.wd = [] ∧ (holeM t).1 = t) := by
  unfold holeM at *
  rw [h.mark] at *
  simp only [bne_self_eq_false, cond_false] at *
  cases h0 : (holeR t).2 == 0 with
  | true => rw [h0] at he; exact absurd he (show ¬ (91 : Int) = 0 by decide)
  | false =>
    rw [h0] at hk
    simp only [cond_false] at hk ⊢
    have core : ∀ d : Int, langM t = 2 → t.pe = [] → t.rf = [] → (t.k = 19 ∨ t.k = 9) → holeR t = (pwS t ((jsHole t.pt).1, []), bif decide ((jsHole t.pt).2 > 0) then (jsHole t.pt).2 + d else (jsHole t.pt).2) → (d = 6 ∧ t.k = 19 ∨ d = 8 ∧ t.k = 9) →
        JS t ∧ ((holeR t).2 ≤ 8 → t.k = 19) ∧ (9 ≤ (holeR t).2 → t.k = 9) ∧ ((holeR t).2 = 7 ∨ (holeR t).2 = 9 → (t.pt = 0 ∨ t.pt = 1) ∧ (holeR t).1 = pwS t (1, [])) ∧ ((holeR t).2 = 8 ∨ (holeR t).2 = 10 → (t.pt = 2 ∨ t.pt = 3) ∧ t.wd = [] ∧ (holeR t).1 = t) := by
      intro d hl hpe hrf hkk hr hd
      refine ⟨⟨h, hl, hkk, hpe, hrf⟩, ?_⟩
      rcases jsHole_c t.pt with ⟨a, b⟩ | ⟨a, b⟩ | a
      · rw [hr, a]
        simp only [show decide ((1 : Int) > 0) = true from rfl, cond_true]
        refine ⟨fun _ => by omega, fun _ => by omega, fun _ => ⟨b, by first | rfl | trivial⟩, fun h => by omega⟩
      · have hw : t.wd = [] := by rcases hj with x | x | x | x; exact x; exact absurd hl x; omega; omega
        rw [hr, a]
        simp only [show decide ((2 : Int) > 0) = true from rfl, cond_true]
        refine ⟨fun _ => by omega, fun _ => by omega, fun _ => by omega, fun _ => ⟨b, hw, pwS_self rfl hw⟩⟩
      · rw [hr, a] at h0
        exact absurd h0 (show ¬ ((0 : Int) == 0) = false by decide)
    unfold holeR at *
    cases hp : (t.pe == [] && t.rf == []) with
    | false => rw [hp] at hk; exact absurd hk.1 (show ¬ (7 : Int) ≤ 0 by decide)
    | true =>
      rw [hp] at hk core
      simp only [cond_true] at hk core ⊢
      simp only [Bool.and_eq_true, beq_iff_eq] at hp
      by_cases k0 : t.k = 0
      · rw [k0] at hk; exact absurd hk.1 (show ¬ (7 : Int) ≤ 1 by decide)
      have b0 : (t.k == 0) = false := by simpa using k0
      by_cases k17 : t.k = 17
      · rw [k17] at hk; exact absurd hk.1 (show ¬ (7 : Int) ≤ 2 by decide)
      have b17 : (t.k == 17) = false := by simpa using k17
      rw [b0, b17] at hk core ⊢
      simp only [cond_false] at hk core ⊢
      by_cases k9 : t.k = 9
      · have b9 : (t.k == 9) = true := by simpa using k9
        rw [b9] at hk core ⊢
        simp only [cond_true] at hk core ⊢
        unfold inAttrM at *
        cases hs : hpB [47] t.el with
        | true => rw [hs] at hk; exact absurd hk.1 (show ¬ (7 : Int) ≤ 0 by decide)
        | false =>
          rw [hs] at hk core
          simp only [cond_false] at hk core ⊢
          by_cases e0 : kindM t = 0
          · rw [e0] at hk; exact absurd hk.1 (show ¬ (7 : Int) ≤ 3 by decide)
          have f0 : (kindM t == 0) = false := by simpa using e0
          rw [f0] at hk core ⊢
          simp only [cond_false] at hk core ⊢
          by_cases e1 : kindM t = 1
          · rw [e1] at hk
            simp only [beq_self_eq_true, cond_true] at hk
            have := urlHole_c t.pt
            cases hd : decide ((urlHole t.pt).2 > 0) <;> rw [hd] at hk <;> simp only [cond_true, cond_false] at hk <;> omega
          have f1 : (kindM t == 1) = false := by simpa using e1
          rw [f1] at hk core ⊢
          simp only [cond_false] at hk core ⊢
          by_cases e2 : kindM t = 2
          · have f2 : (kindM t == 2) = true := by simpa using e2
            rw [f2] at core ⊢
            simp only [cond_true] at core ⊢
            exact core 8 (by unfold langM; rw [k9, e2]; rfl) hp.1 hp.2 (.inr k9) rfl (.inr ⟨rfl, k9⟩)
          have f2 : (kindM t == 2) = false := by simpa using e2
          rw [f2] at hk
          simp only [cond_false] at hk
          revert hk
          cases kindM t == 3 <;> cases t.pt == 0 <;> intro hk <;> simp only [cond_true, cond_false] at hk <;> omega
      have b9 : (t.k == 9) = false := by simpa using k9
      rw [b9] at hk core ⊢
      simp only [cond_false] at hk core ⊢
      cases k1819 : (t.k == 18 || t.k == 19) with
      | false => rw [k1819] at hk; exact absurd hk.1 (show ¬ (7 : Int) ≤ 0 by decide)
      | true =>
        rw [k1819] at hk core
        simp only [cond_true] at hk core ⊢
        unfold inRawM at *
        by_cases k18 : t.k = 18
        · rw [k18] at hk
          cases hpt : t.pt == 0 <;> rw [hpt] at hk <;> simp only [beq_self_eq_true, cond_true, cond_false] at hk <;> omega
        have b18 : (t.k == 18) = false := by simpa using k18
        have k19 : t.k = 19 := by simpa [b18] using k1819
        rw [b18] at core ⊢
        simp only [cond_false] at core ⊢
        exact core 6 (by unfold langM; rw [k19]; rfl) hp.1 hp.2 (.inl k19) rfl (.inl ⟨rfl, k19⟩)
end Go.Mu
set_option linter.unusedVariables false
set_option linter.unusedSimpArgs false
set_option maxRecDepth 100000
namespace Go.Mu
open Go Go.Proofs
def okc (n : Int) : Bool := decide (0 ≤ n) && decide (n < 256)
def c8Told (B : Int → Bool) : FSp := mkFS [.i .u8] (fun xs => okc (aI xs 0)) (fun xs k => k (.ret (.bool (B (aI xs 0))) []))
def pwTold (F : Int → Bs → Int → Int × Bs) : FSp := mkFS [.i .i64, .s, .i .u8] (fun xs => okc (aI xs 2) && decide ((aS xs 1).length ≤ 1048576)) (fun xs k => k (.ret (.tuple [.int .i64 (F (aI xs 0) (aS xs 1) (aI xs 2)).1, .str (F (aI xs 0) (aS xs 1) (aI xs 2)).2]) []))
def enTold (F : Int → Bs → Int) : FSp := mkFS [.i .i64, .s] (fun xs => decide ((aS xs 1).length ≤ 1048576)) (fun xs k => k (.ret (.int .i64 (F (aI xs 0) (aS xs 1))) []))
def wcTold (F : Bs → Int → Int × Bs) : FSp := mkFS [.s, .i .u8] (fun xs => okc (aI xs 1) && decide ((aS xs 0).length ≤ 1048576)) (fun xs k => k (.ret (.tuple [.int .i64 (F (aS xs 0) (aI xs 1)).1, .str (F (aS xs 0) (aI xs 1)).2]) []))
def pcTold (F : Int → Int → Int) : FSp := mkFS [.i .i64, .i .u8] (fun xs => okc (aI xs 1)) (fun xs k => k (.ret (.int .i64 (F (aI xs 0) (aI xs 1))) []))
def spTold (F : Int → Int → Int × Bs) : FSp := mkFS [.i .i64, .i .u8] (fun xs => okc (aI xs 1)) (fun xs k => k (.ret (.tuple [.int .i64 (F (aI xs 0) (aI xs 1)).1, .str (F (aI xs 0) (aI xs 1)).2]) []))
def layC8 (L B : Int → Bool) : Lay := (((Lay.nil.addF 69 lowTold).addF 50 (c8Told L)).addF 52 (c8Told B))
theorem blank_fun (c : UInt8) (k : Out → Ans) : iFun Tryz.prog (Lay.nil.hd Tryz.prog) Lay.nil.fhs 0 52 [.int .u8 c.toNat] [] k = (
 let n0 : Int := (↑c.toNat : Int);
  k
  (Out.ret
  (AVal.bool
  (bif n0 == 32 then true else bif bif decide (n0 ≥ 9) then decide (n0 ≤ 13) else false then n0 != 11 else false))
      [])) := by kernel_rfl
theorem letter_fun (c : UInt8) (k : Out → Ans) : iFun Tryz.prog (Lay.nil.hd Tryz.prog) Lay.nil.fhs 0 50 [.int .u8 c.toNat] [] k = (
 let n0 : Int := IntKind.u8.wrap (↑(BitVec.ofInt 8 (↑c.toNat : Int) ||| BitVec.ofInt 8 32).toNat : Int);
  k (Out.ret (AVal.bool (bif decide (n0 ≥ 97) then decide (n0 ≤ 122) else false)) [])) := by kernel_rfl
theorem url_fun (L B : Int → Bool) (p : Int) (w : Bs) (c : UInt8) (k : Out → Ans) : iFun Tryz.prog ((layC8 L B).hd Tryz.prog) (layC8 L B).fhs 0 76 [.int .i64 p, .str w, .int .u8 c.toNat] [] k = (
 let c0 : Bool := p == 0;
 let c1 : Bool := bif c0 then true else p == 1;
 let n2 : Int := (↑c.toNat : Int);
 let c3 : Bool := n2 == 47;
 let c4 : Bool := bif n2 == 63 then true else n2 == 35;
 let c5 : Bool := n2 == 58;
 let v6 : UInt8 := byteOf [AVal.int IntKind.u8 n2];
 let c7 : Bool := p == 2;
 let c8 : Bool := p == 4;
  bif c0 then
  bif c1 then
  bif c3 then k (Out.ret (AVal.tuple [AVal.int IntKind.i64 2, AVal.str []]) [])
  else
  bif c4 then k (Out.ret (AVal.tuple [AVal.int IntKind.i64 3, AVal.str []]) [])
  else
  bif bif c5 then false else false then k (Out.ret (AVal.tuple [AVal.int IntKind.i64 2, AVal.str []]) [])
  else
  bif c5 then k (Out.ret (AVal.tuple [AVal.int IntKind.i64 5, AVal.str []]) [])
  else k (Out.ret (AVal.tuple [AVal.int IntKind.i64 1, AVal.str [lowC v6]]) [])
  else
  bif bif bif c7 then true else c8 then c4 else false then
  k (Out.ret (AVal.tuple [AVal.int IntKind.i64 3, AVal.str []]) [])
  else
  bif bif c8 then c3 else false then k (Out.ret (AVal.tuple [AVal.int IntKind.i64 2, AVal.str []]) [])
  else
  bif bif c8 then c5 else false then k (Out.ret (AVal.tuple [AVal.int IntKind.i64 5, AVal.str []]) [])
  else
  bif bif bif c7 then true else p == 3 then true else c8 then
  k (Out.ret (AVal.tuple [AVal.int IntKind.i64 p, AVal.str []]) [])
  else k (Out.ret (AVal.tuple [AVal.int IntKind.i64 5, AVal.str []]) [])
  else
  bif c1 then
  bif c3 then k (Out.ret (AVal.tuple [AVal.int IntKind.i64 2, AVal.str []]) [])
  else
  bif c4 then k (Out.ret (AVal.tuple [AVal.int IntKind.i64 3, AVal.str []]) [])
  else
  bif
  bif c5 then
  bif bif w == [104, 116, 116, 112] then true else w == [104, 116, 116, 112, 115] then true
  else w == [109, 97, 105, 108, 116, 111]
  else false then
  k (Out.ret (AVal.tuple [AVal.int IntKind.i64 2, AVal.str []]) [])
  else
  bif c5 then k (Out.ret (AVal.tuple [AVal.int IntKind.i64 5, AVal.str []]) [])
  else
  bif decide ((↑(List.length w) : Int) < 16) then
  bif decide (List.length w + 1 ≤ 4611686018427387904) then
  k (Out.ret (AVal.tuple [AVal.int IntKind.i64 1, AVal.str (List.append w (lowM [v6]))]) [])
  else none
  else k (Out.ret (AVal.tuple [AVal.int IntKind.i64 1, AVal.str w]) [])
  else
  bif bif bif c7 then true else c8 then c4 else false then
  k (Out.ret (AVal.tuple [AVal.int IntKind.i64 3, AVal.str []]) [])
  else
  bif bif c8 then c3 else false then k (Out.ret (AVal.tuple [AVal.int IntKind.i64 2, AVal.str []]) [])
  else
  bif bif c8 then c5 else false then k (Out.ret (AVal.tuple [AVal.int IntKind.i64 5, AVal.str []]) [])
  else
  bif bif bif c7 then true else p == 3 then true else c8 then
  k (Out.ret (AVal.tuple [AVal.int IntKind.i64 p, AVal.str []]) [])
  else k (Out.ret (AVal.tuple [AVal.int IntKind.i64 5, AVal.str []]) [])) := by kernel_rfl
end Go.Mu
set_option linter.unusedVariables false
set_option linter.unusedSimpArgs false
set_option maxRecDepth 100000
namespace Go.Mu
open Go Go.Proofs
theorem cswy_fun (L B : Int → Bool) (c : UInt8) (k : Out → Ans) : iFun Tryz.prog ((layC8 L B).hd Tryz.prog) (layC8 L B).fhs 0 97 [.int .u8 c.toNat] [] k = (
 let n0 : Int := (↑c.toNat : Int);
  bif okc n0 then
  k
  (Out.ret
  (AVal.bool
  (bif
  bif bif L n0 then true else bif decide (n0 ≥ 48) then decide (n0 ≤ 57) else false then true
  else n0 == 45 then
  true
  else n0 == 95))
  [])
  else none) := by kernel_rfl
def layCs0 (W L B : Int → Bool) : Lay := (layC8 L B).addF 97 (c8Told W)
theorem cscd_fun (W L B : Int → Bool) (w : Bs) (c : UInt8) (k : Out → Ans) : iFun Tryz.prog ((layCs0 W L B).hd Tryz.prog) (layCs0 W L B).fhs 0 91 [.str w, .int .u8 c.toNat] [] k = (
 let n0 : Int := (↑c.toNat : Int);
 let c1 : Bool := okc n0;
 let c2 : Bool := W n0;
 let c3 : Bool := w == [63];
 let c4 : Bool := n0 == 40;
  bif c1 then
  bif bif c2 then c3 else false then k (Out.ret (AVal.tuple [AVal.int IntKind.i64 0, AVal.str [63]]) [])
  else
  bif c1 then
  bif bif c2 then decide ((↑(List.length w) : Int) < 16) else false then
  bif decide (List.length w + 1 ≤ 4611686018427387904) then
  k
  (Out.ret
  (AVal.tuple [AVal.int IntKind.i64 0, AVal.str (List.append w (lowM [byteOf [AVal.int IntKind.u8 n0]]))])
  [])
  else none
  else
  bif c1 then
  bif c2 then k (Out.ret (AVal.tuple [AVal.int IntKind.i64 0, AVal.str w]) [])
  else
  bif bif c4 then w == [117, 114, 108] else false then
  k (Out.ret (AVal.tuple [AVal.int IntKind.i64 8, AVal.str []]) [])
  else
  bif bif bif c4 then c3 else false then true else n0 == 92 then
  k (Out.ret (AVal.tuple [AVal.int IntKind.i64 9, AVal.str []]) [])
  else
  bif n0 == 34 then k (Out.ret (AVal.tuple [AVal.int IntKind.i64 1, AVal.str []]) [])
  else
  bif n0 == 39 then k (Out.ret (AVal.tuple [AVal.int IntKind.i64 2, AVal.str []]) [])
  else
  bif n0 == 47 then k (Out.ret (AVal.tuple [AVal.int IntKind.i64 5, AVal.str []]) [])
  else k (Out.ret (AVal.tuple [AVal.int IntKind.i64 0, AVal.str []]) [])
  else none
  else none
  else none) := by kernel_rfl
theorem csqu_fun (p : Int) (c : UInt8) (k : Out → Ans) : iFun Tryz.prog (Lay.nil.hd Tryz.prog) Lay.nil.fhs 0 92 [.int .i64 p, .int .u8 c.toNat] [] k = (
 let n0 : Int := (↑c.toNat : Int);
  bif bif bif n0 == 34 then p == 1 else false then true else bif n0 == 39 then p == 2 else false then
  k (Out.ret (AVal.int IntKind.i64 0) [])
  else
  bif n0 == 92 then k (Out.ret (AVal.int IntKind.i64 (IntKind.i64.wrap (p + 2))) [])
  else
  bif bif n0 == 10 then true else n0 == 13 then k (Out.ret (AVal.int IntKind.i64 9) [])
  else k (Out.ret (AVal.int IntKind.i64 p) [])) := by kernel_rfl
def layCs1 (C : Bs → Int → Int × Bs) : Lay := Lay.nil.addF 91 (wcTold C)
theorem csrm_fun (C : Bs → Int → Int × Bs) (p : Int) (c : UInt8) (k : Out → Ans) : iFun Tryz.prog ((layCs1 C).hd Tryz.prog) (layCs1 C).fhs 0 93 [.int .i64 p, .int .u8 c.toNat] [] k = (
 let c0 : Bool := p == 5;
 let n1 : Int := (↑c.toNat : Int);
 let c2 : Bool := n1 == 42;
  bif bif c0 then c2 else false then k (Out.ret (AVal.tuple [AVal.int IntKind.i64 6, AVal.str []]) [])
  else
  bif c0 then
  bif okc n1 && true then k (Out.ret (AVal.tuple [AVal.int IntKind.i64 (C [] n1).fst, AVal.str (C [] n1).snd]) [])
  else none
  else
  bif c2 then k (Out.ret (AVal.tuple [AVal.int IntKind.i64 7, AVal.str []]) [])
  else
  bif bif p == 7 then n1 == 47 else false then k (Out.ret (AVal.tuple [AVal.int IntKind.i64 0, AVal.str []]) [])
  else k (Out.ret (AVal.tuple [AVal.int IntKind.i64 6, AVal.str []]) [])) := by kernel_rfl
def layCs2 (C : Bs → Int → Int × Bs) (Q : Int → Int → Int) (R : Int → Int → Int × Bs) : Lay := ((layCs1 C).addF 92 (pcTold Q)).addF 93 (spTold R)
theorem csst_fun (C : Bs → Int → Int × Bs) (Q : Int → Int → Int) (R : Int → Int → Int × Bs) (p : Int) (w : Bs) (c : UInt8) (k : Out → Ans) : iFun Tryz.prog ((layCs2 C Q R).hd Tryz.prog) (layCs2 C Q R).fhs 0 78 [.int .i64 p, .str w, .int .u8 c.toNat] [] k = (
 let n0 : Int := (↑c.toNat : Int);
 let c1 : Bool := okc n0;
 let c2 : Bool := p == 1;
 let c3 : Bool := p == 3;
 let c4 : Bool := p == 5;
 let c5 : Bool := p == 6;
  bif p == 0 then
  bif c1 && decide (List.length w ≤ 1048576) then
  k (Out.ret (AVal.tuple [AVal.int IntKind.i64 (C w n0).fst, AVal.str (C w n0).snd]) [])
  else none
  else
  bif c2 then
  bif c2 then bif c1 then k (Out.ret (AVal.tuple [AVal.int IntKind.i64 (Q p n0), AVal.str []]) []) else none
  else
  bif c3 then
  bif c3 then k (Out.ret (AVal.tuple [AVal.int IntKind.i64 (IntKind.i64.wrap (p - 2)), AVal.str []]) [])
  else
  bif c4 then
  bif c4 then
  bif c1 then k (Out.ret (AVal.tuple [AVal.int IntKind.i64 (R p n0).fst, AVal.str (R p n0).snd]) [])
  else none
  else
  bif p == 8 then
  bif n0 == 41 then k (Out.ret (AVal.tuple [AVal.int IntKind.i64 0, AVal.str []]) [])
  else k (Out.ret (AVal.tuple [AVal.int IntKind.i64 8, AVal.str []]) [])
  else k (Out.ret (AVal.tuple [AVal.int IntKind.i64 9, AVal.str []]) [])
  else
  bif c5 then
  bif c5 then
  bif c1 then k (Out.ret (AVal.tuple [AVal.int IntKind.i64 (R p n0).fst, AVal.str (R p n0).snd]) [])
  else none
  else
  bif p == 8 then
  bif n0 == 41 then k (Out.ret (AVal.tuple [AVal.int IntKind.i64 0, AVal.str []]) [])
  else k (Out.ret (AVal.tuple [AVal.int IntKind.i64 8, AVal.str []]) [])
  else k (Out.ret (AVal.tuple [AVal.int IntKind.i64 9, AVal.str []]) [])
  else
  bif p == 7 then
  bif c1 then k (Out.ret (AVal.tuple [AVal.int IntKind.i64 (R p n0).fst, AVal.str (R p n0).snd]) [])
  else none
  else
  bif p == 8 then
  bif n0 == 41 then k (Out.ret (AVal.tuple [AVal.int IntKind.i64 0, AVal.str []]) [])
  else k (Out.ret (AVal.tuple [AVal.int IntKind.i64 8, AVal.str []]) [])
  else k (Out.ret (AVal.tuple [AVal.int IntKind.i64 9, AVal.str []]) [])
  else
  bif p == 4 then k (Out.ret (AVal.tuple [AVal.int IntKind.i64 (IntKind.i64.wrap (p - 2)), AVal.str []]) [])
  else
  bif c4 then
  bif c4 then
  bif c1 then k (Out.ret (AVal.tuple [AVal.int IntKind.i64 (R p n0).fst, AVal.str (R p n0).snd]) [])
  else none
  else
  bif p == 8 then
  bif n0 == 41 then k (Out.ret (AVal.tuple [AVal.int IntKind.i64 0, AVal.str []]) [])
  else k (Out.ret (AVal.tuple [AVal.int IntKind.i64 8, AVal.str []]) [])
  else k (Out.ret (AVal.tuple [AVal.int IntKind.i64 9, AVal.str []]) [])
  else
  bif c5 then
  bif c5 then
  bif c1 then k (Out.ret (AVal.tuple [AVal.int IntKind.i64 (R p n0).fst, AVal.str (R p n0).snd]) [])
  else none
  else
  bif p == 8 then
  bif n0 == 41 then k (Out.ret (AVal.tuple [AVal.int IntKind.i64 0, AVal.str []]) [])
  else k (Out.ret (AVal.tuple [AVal.int IntKind.i64 8, AVal.str []]) [])
  else k (Out.ret (AVal.tuple [AVal.int IntKind.i64 9, AVal.str []]) [])
  else
  bif p == 7 then
  bif c1 then k (Out.ret (AVal.tuple [AVal.int IntKind.i64 (R p n0).fst, AVal.str (R p n0).snd]) [])
  else none
  else
  bif p == 8 then
  bif n0 == 41 then k (Out.ret (AVal.tuple [AVal.int IntKind.i64 0, AVal.str []]) [])
  else k (Out.ret (AVal.tuple [AVal.int IntKind.i64 8, AVal.str []]) [])
  else k (Out.ret (AVal.tuple [AVal.int IntKind.i64 9, AVal.str []]) [])
  else
  bif p == 2 then bif c1 then k (Out.ret (AVal.tuple [AVal.int IntKind.i64 (Q p n0), AVal.str []]) []) else none
  else
  bif c3 then
  bif c3 then k (Out.ret (AVal.tuple [AVal.int IntKind.i64 (IntKind.i64.wrap (p - 2)), AVal.str []]) [])
  else
  bif c4 then
  bif c4 then
  bif c1 then k (Out.ret (AVal.tuple [AVal.int IntKind.i64 (R p n0).fst, AVal.str (R p n0).snd]) [])
  else none
  else
  bif p == 8 then
  bif n0 == 41 then k (Out.ret (AVal.tuple [AVal.int IntKind.i64 0, AVal.str []]) [])
  else k (Out.ret (AVal.tuple [AVal.int IntKind.i64 8, AVal.str []]) [])
  else k (Out.ret (AVal.tuple [AVal.int IntKind.i64 9, AVal.str []]) [])
  else
  bif c5 then
  bif c5 then
  bif c1 then k (Out.ret (AVal.tuple [AVal.int IntKind.i64 (R p n0).fst, AVal.str (R p n0).snd]) [])
  else none
  else
  bif p == 8 then
  bif n0 == 41 then k (Out.ret (AVal.tuple [AVal.int IntKind.i64 0, AVal.str []]) [])
  else k (Out.ret (AVal.tuple [AVal.int IntKind.i64 8, AVal.str []]) [])
  else k (Out.ret (AVal.tuple [AVal.int IntKind.i64 9, AVal.str []]) [])
  else
  bif p == 7 then
  bif c1 then k (Out.ret (AVal.tuple [AVal.int IntKind.i64 (R p n0).fst, AVal.str (R p n0).snd]) [])
  else none
  else
  bif p == 8 then
  bif n0 == 41 then k (Out.ret (AVal.tuple [AVal.int IntKind.i64 0, AVal.str []]) [])
  else k (Out.ret (AVal.tuple [AVal.int IntKind.i64 8, AVal.str []]) [])
  else k (Out.ret (AVal.tuple [AVal.int IntKind.i64 9, AVal.str []]) [])
  else
  bif p == 4 then k (Out.ret (AVal.tuple [AVal.int IntKind.i64 (IntKind.i64.wrap (p - 2)), AVal.str []]) [])
  else
  bif c4 then
  bif c4 then
  bif c1 then k (Out.ret (AVal.tuple [AVal.int IntKind.i64 (R p n0).fst, AVal.str (R p n0).snd]) [])
  else none
  else
  bif p == 8 then
  bif n0 == 41 then k (Out.ret (AVal.tuple [AVal.int IntKind.i64 0, AVal.str []]) [])
  else k (Out.ret (AVal.tuple [AVal.int IntKind.i64 8, AVal.str []]) [])
  else k (Out.ret (AVal.tuple [AVal.int IntKind.i64 9, AVal.str []]) [])
  else
  bif c5 then
  bif c5 then
  bif c1 then k (Out.ret (AVal.tuple [AVal.int IntKind.i64 (R p n0).fst, AVal.str (R p n0).snd]) [])
  else none
  else
  bif p == 8 then
  bif n0 == 41 then k (Out.ret (AVal.tuple [AVal.int IntKind.i64 0, AVal.str []]) [])
  else k (Out.ret (AVal.tuple [AVal.int IntKind.i64 8, AVal.str []]) [])
  else k (Out.ret (AVal.tuple [AVal.int IntKind.i64 9, AVal.str []]) [])
  else
  bif p == 7 then
  bif c1 then k (Out.ret (AVal.tuple [AVal.int IntKind.i64 (R p n0).fst, AVal.str (R p n0).snd]) [])
  else none
  else
  bif p == 8 then
  bif n0 == 41 then k (Out.ret (AVal.tuple [AVal.int IntKind.i64 0, AVal.str []]) [])
  else k (Out.ret (AVal.tuple [AVal.int IntKind.i64 8, AVal.str []]) [])
  else k (Out.ret (AVal.tuple [AVal.int IntKind.i64 9, AVal.str []]) [])) := by kernel_rfl
end Go.Mu
set_option linter.unusedVariables false
set_option linter.unusedSimpArgs false
set_option maxRecDepth 100000
namespace Go.Mu
open Go Go.Proofs
theorem jswy_fun (L B : Int → Bool) (c : UInt8) (k : Out → Ans) : iFun Tryz.prog ((layC8 L B).hd Tryz.prog) (layC8 L B).fhs 0 95 [.int .u8 c.toNat] [] k = (
 let n0 : Int := (↑c.toNat : Int);
  bif okc n0 then
  k
  (Out.ret
  (AVal.bool
  (bif
  bif
  bif bif L n0 then true else bif decide (n0 ≥ 48) then decide (n0 ≤ 57) else false then true
  else n0 == 95 then
  true
  else n0 == 36 then
  true
  else decide (n0 > 127)))
  [])
  else none) := by kernel_rfl
def layJs0 (W B : Int → Bool) (E : Int → Bs → Int) : Lay := ((Lay.nil.addF 52 (c8Told B)).addF 95 (c8Told W)).addF 96 (enTold E)
theorem jscd_fun (W B : Int → Bool) (E : Int → Bs → Int) (p : Int) (w : Bs) (c : UInt8) (k : Out → Ans) : iFun Tryz.prog ((layJs0 W B E).hd Tryz.prog) (layJs0 W B E).fhs 0 85 [.int .i64 p, .str w, .int .u8 c.toNat] [] k = (
 let n0 : Int := (↑c.toNat : Int);
 let c1 : Bool := okc n0;
 let c2 : Bool := n0 == 47;
  bif c1 then
  bif W n0 then
  bif decide ((↑(List.length w) : Int) < 16) then
  bif decide (List.length w + 1 ≤ 4611686018427387904) then
  k (Out.ret (AVal.tuple [AVal.int IntKind.i64 1, AVal.str (List.append w [byteOf [AVal.int IntKind.u8 n0]])]) [])
  else none
  else k (Out.ret (AVal.tuple [AVal.int IntKind.i64 1, AVal.str w]) [])
  else
  bif decide (List.length w ≤ 1048576) then
  bif c1 then
  bif B n0 then k (Out.ret (AVal.tuple [AVal.int IntKind.i64 (E p w), AVal.str []]) [])
  else
  bif n0 == 34 then k (Out.ret (AVal.tuple [AVal.int IntKind.i64 2, AVal.str []]) [])
  else
  bif n0 == 39 then k (Out.ret (AVal.tuple [AVal.int IntKind.i64 3, AVal.str []]) [])
  else
  bif n0 == 96 then k (Out.ret (AVal.tuple [AVal.int IntKind.i64 15, AVal.str []]) [])
  else
  bif bif c2 then E p w == 0 else false then
  k (Out.ret (AVal.tuple [AVal.int IntKind.i64 13, AVal.str []]) [])
  else
  bif c2 then k (Out.ret (AVal.tuple [AVal.int IntKind.i64 14, AVal.str []]) [])
  else
  bif bif bif n0 == 41 then true else n0 == 93 then true else n0 == 125 then
  k (Out.ret (AVal.tuple [AVal.int IntKind.i64 1, AVal.str []]) [])
  else k (Out.ret (AVal.tuple [AVal.int IntKind.i64 0, AVal.str []]) [])
  else none
  else none
  else none) := by kernel_rfl
theorem jsqu_fun (p : Int) (c : UInt8) (k : Out → Ans) : iFun Tryz.prog (Lay.nil.hd Tryz.prog) Lay.nil.fhs 0 86 [.int .i64 p, .int .u8 c.toNat] [] k = (
 let n0 : Int := (↑c.toNat : Int);
 let c1 : Bool := n0 == 92;
  bif p == 3 then
  bif n0 == 39 then k (Out.ret (AVal.int IntKind.i64 1) [])
  else
  bif c1 then k (Out.ret (AVal.int IntKind.i64 5) [])
  else
  bif bif n0 == 10 then true else n0 == 13 then k (Out.ret (AVal.int IntKind.i64 15) [])
  else k (Out.ret (AVal.int IntKind.i64 p) [])
  else
  bif n0 == 34 then k (Out.ret (AVal.int IntKind.i64 1) [])
  else
  bif c1 then k (Out.ret (AVal.int IntKind.i64 4) [])
  else
  bif bif n0 == 10 then true else n0 == 13 then k (Out.ret (AVal.int IntKind.i64 15) [])
  else k (Out.ret (AVal.int IntKind.i64 p) [])) := by kernel_rfl
theorem jsma_fun (p : Int) (c : UInt8) (k : Out → Ans) : iFun Tryz.prog (Lay.nil.hd Tryz.prog) Lay.nil.fhs 0 89 [.int .i64 p, .int .u8 c.toNat] [] k = (
 let n0 : Int := (↑c.toNat : Int);
 let c1 : Bool := p == 9;
  bif bif n0 == 10 then true else n0 == 13 then k (Out.ret (AVal.int IntKind.i64 15) [])
  else
  bif n0 == 92 then k (Out.ret (AVal.int IntKind.i64 (IntKind.i64.wrap (p + 1))) [])
  else
  bif bif c1 then n0 == 47 else false then k (Out.ret (AVal.int IntKind.i64 1) [])
  else
  bif bif c1 then n0 == 91 else false then k (Out.ret (AVal.int IntKind.i64 11) [])
  else
  bif bif p == 11 then n0 == 93 else false then k (Out.ret (AVal.int IntKind.i64 9) [])
  else k (Out.ret (AVal.int IntKind.i64 p) [])) := by kernel_rfl
theorem jsrm_fun (p : Int) (c : UInt8) (k : Out → Ans) : iFun Tryz.prog (Lay.nil.hd Tryz.prog) Lay.nil.fhs 0 88 [.int .i64 p, .int .u8 c.toNat] [] k = (
 let n0 : Int := (↑c.toNat : Int);
  bif n0 == 42 then k (Out.ret (AVal.int IntKind.i64 8) [])
  else
  bif bif p == 8 then n0 == 47 else false then k (Out.ret (AVal.int IntKind.i64 0) [])
  else k (Out.ret (AVal.int IntKind.i64 7) [])) := by kernel_rfl
def layJs1 (C : Int → Bs → Int → Int × Bs) (M : Int → Int → Int) : Lay := (Lay.nil.addF 85 (pwTold C)).addF 89 (pcTold M)
theorem jssl_fun (C : Int → Bs → Int → Int × Bs) (M : Int → Int → Int) (p : Int) (c : UInt8) (k : Out → Ans) : iFun Tryz.prog ((layJs1 C M).hd Tryz.prog) (layJs1 C M).fhs 0 90 [.int .i64 p, .int .u8 c.toNat] [] k = (
 let n0 : Int := (↑c.toNat : Int);
 let c1 : Bool := okc n0;
  bif n0 == 47 then k (Out.ret (AVal.tuple [AVal.int IntKind.i64 6, AVal.str []]) [])
  else
  bif n0 == 42 then k (Out.ret (AVal.tuple [AVal.int IntKind.i64 7, AVal.str []]) [])
  else
  bif p == 13 then bif c1 then k (Out.ret (AVal.tuple [AVal.int IntKind.i64 (M 9 n0), AVal.str []]) []) else none
  else
  bif c1 && true then k (Out.ret (AVal.tuple [AVal.int IntKind.i64 (C 0 [] n0).fst, AVal.str (C 0 [] n0).snd]) [])
  else none) := by kernel_rfl
def layJs2 (C : Int → Bs → Int → Int × Bs) (M Q R : Int → Int → Int) (S : Int → Int → Int × Bs) : Lay := (((layJs1 C M).addF 86 (pcTold Q)).addF 88 (pcTold R)).addF 90 (spTold S)
theorem jsst_fun (C : Int → Bs → Int → Int × Bs) (M Q R : Int → Int → Int) (S : Int → Int → Int × Bs) (p : Int) (w : Bs) (c : UInt8) (k : Out → Ans) : iFun Tryz.prog ((layJs2 C M Q R S).hd Tryz.prog) (layJs2 C M Q R S).fhs 0 77 [.int .i64 p, .str w, .int .u8 c.toNat] [] k = (
 let c0 : Bool := p == 0;
 let n1 : Int := (↑c.toNat : Int);
 let c2 : Bool := okc n1;
 let c3 : Bool := p == 2;
 let c4 : Bool := p == 4;
 let c5 : Bool := p == 7;
 let c6 : Bool := p == 9;
 let c7 : Bool := p == 10;
 let c8 : Bool := p == 13;
  bif c0 then
  bif c0 then
  bif c2 && decide (List.length w ≤ 1048576) then
  k (Out.ret (AVal.tuple [AVal.int IntKind.i64 (C p w n1).fst, AVal.str (C p w n1).snd]) [])
  else none
  else
  bif c3 then
  bif c3 then bif c2 then k (Out.ret (AVal.tuple [AVal.int IntKind.i64 (Q p n1), AVal.str []]) []) else none
  else
  bif c4 then
  bif c4 then k (Out.ret (AVal.tuple [AVal.int IntKind.i64 (IntKind.i64.wrap (p - 2)), AVal.str []]) [])
  else
  bif p == 6 then
  bif bif n1 == 10 then true else n1 == 13 then
  k (Out.ret (AVal.tuple [AVal.int IntKind.i64 0, AVal.str []]) [])
  else k (Out.ret (AVal.tuple [AVal.int IntKind.i64 6, AVal.str []]) [])
  else
  bif c5 then
  bif c5 then
  bif c2 then k (Out.ret (AVal.tuple [AVal.int IntKind.i64 (R p n1), AVal.str []]) []) else none
  else
  bif c6 then
  bif c6 then
  bif c2 then k (Out.ret (AVal.tuple [AVal.int IntKind.i64 (M p n1), AVal.str []]) []) else none
  else
  bif c7 then
  bif c7 then
  k (Out.ret (AVal.tuple [AVal.int IntKind.i64 (IntKind.i64.wrap (p - 1)), AVal.str []]) [])
  else
  bif c8 then
  bif c8 then
  bif c2 then
  k (Out.ret (AVal.tuple [AVal.int IntKind.i64 (S p n1).fst, AVal.str (S p n1).snd]) [])
  else none
  else k (Out.ret (AVal.tuple [AVal.int IntKind.i64 15, AVal.str []]) [])
  else
  bif p == 14 then
  bif c2 then
  k (Out.ret (AVal.tuple [AVal.int IntKind.i64 (S p n1).fst, AVal.str (S p n1).snd]) [])
  else none
  else k (Out.ret (AVal.tuple [AVal.int IntKind.i64 15, AVal.str []]) [])
  else
  bif p == 12 then
  k (Out.ret (AVal.tuple [AVal.int IntKind.i64 (IntKind.i64.wrap (p - 1)), AVal.str []]) [])
  else
  bif c8 then
  bif c8 then
  bif c2 then
  k (Out.ret (AVal.tuple [AVal.int IntKind.i64 (S p n1).fst, AVal.str (S p n1).snd]) [])
  else none
  else k (Out.ret (AVal.tuple [AVal.int IntKind.i64 15, AVal.str []]) [])
  else
  bif p == 14 then
  bif c2 then
  k (Out.ret (AVal.tuple [AVal.int IntKind.i64 (S p n1).fst, AVal.str (S p n1).snd]) [])
  else none
  else k (Out.ret (AVal.tuple [AVal.int IntKind.i64 15, AVal.str []]) [])
  else
  bif p == 11 then
  bif c2 then k (Out.ret (AVal.tuple [AVal.int IntKind.i64 (M p n1), AVal.str []]) []) else none
  else
  bif c7 then
  bif c7 then
  k (Out.ret (AVal.tuple [AVal.int IntKind.i64 (IntKind.i64.wrap (p - 1)), AVal.str []]) [])
  else
  bif c8 then
  bif c8 then
  bif c2 then
  k (Out.ret (AVal.tuple [AVal.int IntKind.i64 (S p n1).fst, AVal.str (S p n1).snd]) [])
  else none
  else k (Out.ret (AVal.tuple [AVal.int IntKind.i64 15, AVal.str []]) [])
  else
  bif p == 14 then
  bif c2 then
  k (Out.ret (AVal.tuple [AVal.int IntKind.i64 (S p n1).fst, AVal.str (S p n1).snd]) [])
  else none
  else k (Out.ret (AVal.tuple [AVal.int IntKind.i64 15, AVal.str []]) [])
  else
  bif p == 12 then
  k (Out.ret (AVal.tuple [AVal.int IntKind.i64 (IntKind.i64.wrap (p - 1)), AVal.str []]) [])
  else
  bif c8 then
  bif c8 then
  bif c2 then
  k (Out.ret (AVal.tuple [AVal.int IntKind.i64 (S p n1).fst, AVal.str (S p n1).snd]) [])
  else none
  else k (Out.ret (AVal.tuple [AVal.int IntKind.i64 15, AVal.str []]) [])
  else
  bif p == 14 then
  bif c2 then
  k (Out.ret (AVal.tuple [AVal.int IntKind.i64 (S p n1).fst, AVal.str (S p n1).snd]) [])
  else none
  else k (Out.ret (AVal.tuple [AVal.int IntKind.i64 15, AVal.str []]) [])
  else
  bif p == 8 then
  bif c2 then k (Out.ret (AVal.tuple [AVal.int IntKind.i64 (R p n1), AVal.str []]) []) else none
  else
  bif c6 then
  bif c6 then
  bif c2 then k (Out.ret (AVal.tuple [AVal.int IntKind.i64 (M p n1), AVal.str []]) []) else none
  else
  bif c7 then
  bif c7 then
  k (Out.ret (AVal.tuple [AVal.int IntKind.i64 (IntKind.i64.wrap (p - 1)), AVal.str []]) [])
  else
  bif c8 then
  bif c8 then
  bif c2 then
  k (Out.ret (AVal.tuple [AVal.int IntKind.i64 (S p n1).fst, AVal.str (S p n1).snd]) [])
  else none
  else k (Out.ret (AVal.tuple [AVal.int IntKind.i64 15, AVal.str []]) [])
  else
  bif p == 14 then
  bif c2 then
  k (Out.ret (AVal.tuple [AVal.int IntKind.i64 (S p n1).fst, AVal.str (S p n1).snd]) [])
  else none
  else k (Out.ret (AVal.tuple [AVal.int IntKind.i64 15, AVal.str []]) [])
  else
  bif p == 12 then
  k (Out.ret (AVal.tuple [AVal.int IntKind.i64 (IntKind.i64.wrap (p - 1)), AVal.str []]) [])
  else
  bif c8 then
  bif c8 then
  bif c2 then
  k (Out.ret (AVal.tuple [AVal.int IntKind.i64 (S p n1).fst, AVal.str (S p n1).snd]) [])
  else none
  else k (Out.ret (AVal.tuple [AVal.int IntKind.i64 15, AVal.str []]) [])
  else
  bif p == 14 then
  bif c2 then
  k (Out.ret (AVal.tuple [AVal.int IntKind.i64 (S p n1).fst, AVal.str (S p n1).snd]) [])
  else none
  else k (Out.ret (AVal.tuple [AVal.int IntKind.i64 15, AVal.str []]) [])
  else
  bif p == 11 then
  bif c2 then k (Out.ret (AVal.tuple [AVal.int IntKind.i64 (M p n1), AVal.str []]) []) else none
  else
  bif c7 then
  bif c7 then
  k (Out.ret (AVal.tuple [AVal.int IntKind.i64 (IntKind.i64.wrap (p - 1)), AVal.str []]) [])
  else
  bif c8 then
  bif c8 then
  bif c2 then
  k (Out.ret (AVal.tuple [AVal.int IntKind.i64 (S p n1).fst, AVal.str (S p n1).snd]) [])
  else none
  else k (Out.ret (AVal.tuple [AVal.int IntKind.i64 15, AVal.str []]) [])
  else
  bif p == 14 then
  bif c2 then
  k (Out.ret (AVal.tuple [AVal.int IntKind.i64 (S p n1).fst, AVal.str (S p n1).snd]) [])
  else none
  else k (Out.ret (AVal.tuple [AVal.int IntKind.i64 15, AVal.str []]) [])
  else
  bif p == 12 then
  k (Out.ret (AVal.tuple [AVal.int IntKind.i64 (IntKind.i64.wrap (p - 1)), AVal.str []]) [])
  else
  bif c8 then
  bif c8 then
  bif c2 then
  k (Out.ret (AVal.tuple [AVal.int IntKind.i64 (S p n1).fst, AVal.str (S p n1).snd]) [])
  else none
  else k (Out.ret (AVal.tuple [AVal.int IntKind.i64 15, AVal.str []]) [])
  else
  bif p == 14 then
  bif c2 then
  k (Out.ret (AVal.tuple [AVal.int IntKind.i64 (S p n1).fst, AVal.str (S p n1).snd]) [])
  else none
  else k (Out.ret (AVal.tuple [AVal.int IntKind.i64 15, AVal.str []]) [])
  else
  bif p == 5 then k (Out.ret (AVal.tuple [AVal.int IntKind.i64 (IntKind.i64.wrap (p - 2)), AVal.str []]) [])
  else
  bif p == 6 then
  bif bif n1 == 10 then true else n1 == 13 then
  k (Out.ret (AVal.tuple [AVal.int IntKind.i64 0, AVal.str []]) [])
  else k (Out.ret (AVal.tuple [AVal.int IntKind.i64 6, AVal.str []]) [])
  else
  bif c5 then
  bif c5 then
  bif c2 then k (Out.ret (AVal.tuple [AVal.int IntKind.i64 (R p n1), AVal.str []]) []) else none
  else
  bif c6 then
  bif c6 then
  bif c2 then k (Out.ret (AVal.tuple [AVal.int IntKind.i64 (M p n1), AVal.str []]) []) else none
  else
  bif c7 then
  bif c7 then
  k (Out.ret (AVal.tuple [AVal.int IntKind.i64 (IntKind.i64.wrap (p - 1)), AVal.str []]) [])
  else
  bif c8 then
  bif c8 then
  bif c2 then
  k (Out.ret (AVal.tuple [AVal.int IntKind.i64 (S p n1).fst, AVal.str (S p n1).snd]) [])
  else none
  else k (Out.ret (AVal.tuple [AVal.int IntKind.i64 15, AVal.str []]) [])
  else
  bif p == 14 then
  bif c2 then
  k (Out.ret (AVal.tuple [AVal.int IntKind.i64 (S p n1).fst, AVal.str (S p n1).snd]) [])
  else none
  else k (Out.ret (AVal.tuple [AVal.int IntKind.i64 15, AVal.str []]) [])
  else
  bif p == 12 then
  k (Out.ret (AVal.tuple [AVal.int IntKind.i64 (IntKind.i64.wrap (p - 1)), AVal.str []]) [])
  else
  bif c8 then
  bif c8 then
  bif c2 then
  k (Out.ret (AVal.tuple [AVal.int IntKind.i64 (S p n1).fst, AVal.str (S p n1).snd]) [])
  else none
  else k (Out.ret (AVal.tuple [AVal.int IntKind.i64 15, AVal.str []]) [])
  else
  bif p == 14 then
  bif c2 then
  k (Out.ret (AVal.tuple [AVal.int IntKind.i64 (S p n1).fst, AVal.str (S p n1).snd]) [])
  else none
  else k (Out.ret (AVal.tuple [AVal.int IntKind.i64 15, AVal.str []]) [])
  else
  bif p == 11 then
  bif c2 then k (Out.ret (AVal.tuple [AVal.int IntKind.i64 (M p n1), AVal.str []]) []) else none
  else
  bif c7 then
  bif c7 then
  k (Out.ret (AVal.tuple [AVal.int IntKind.i64 (IntKind.i64.wrap (p - 1)), AVal.str []]) [])
  else
  bif c8 then
  bif c8 then
  bif c2 then
  k (Out.ret (AVal.tuple [AVal.int IntKind.i64 (S p n1).fst, AVal.str (S p n1).snd]) [])
  else none
  else k (Out.ret (AVal.tuple [AVal.int IntKind.i64 15, AVal.str []]) [])
  else
  bif p == 14 then
  bif c2 then
  k (Out.ret (AVal.tuple [AVal.int IntKind.i64 (S p n1).fst, AVal.str (S p n1).snd]) [])
  else none
  else k (Out.ret (AVal.tuple [AVal.int IntKind.i64 15, AVal.str []]) [])
  else
  bif p == 12 then
  k (Out.ret (AVal.tuple [AVal.int IntKind.i64 (IntKind.i64.wrap (p - 1)), AVal.str []]) [])
  else
  bif c8 then
  bif c8 then
  bif c2 then
  k (Out.ret (AVal.tuple [AVal.int IntKind.i64 (S p n1).fst, AVal.str (S p n1).snd]) [])
  else none
  else k (Out.ret (AVal.tuple [AVal.int IntKind.i64 15, AVal.str []]) [])
  else
  bif p == 14 then
  bif c2 then
  k (Out.ret (AVal.tuple [AVal.int IntKind.i64 (S p n1).fst, AVal.str (S p n1).snd]) [])
  else none
  else k (Out.ret (AVal.tuple [AVal.int IntKind.i64 15, AVal.str []]) [])
  else
  bif p == 8 then
  bif c2 then k (Out.ret (AVal.tuple [AVal.int IntKind.i64 (R p n1), AVal.str []]) []) else none
  else
  bif c6 then
  bif c6 then
  bif c2 then k (Out.ret (AVal.tuple [AVal.int IntKind.i64 (M p n1), AVal.str []]) []) else none
  else
  bif c7 then
  bif c7 then
  k (Out.ret (AVal.tuple [AVal.int IntKind.i64 (IntKind.i64.wrap (p - 1)), AVal.str []]) [])
  else
  bif c8 then
  bif c8 then
  bif c2 then
  k (Out.ret (AVal.tuple [AVal.int IntKind.i64 (S p n1).fst, AVal.str (S p n1).snd]) [])
  else none
  else k (Out.ret (AVal.tuple [AVal.int IntKind.i64 15, AVal.str []]) [])
  else
  bif p == 14 then
  bif c2 then
  k (Out.ret (AVal.tuple [AVal.int IntKind.i64 (S p n1).fst, AVal.str (S p n1).snd]) [])
  else none
  else k (Out.ret (AVal.tuple [AVal.int IntKind.i64 15, AVal.str []]) [])
  else
  bif p == 12 then
  k (Out.ret (AVal.tuple [AVal.int IntKind.i64 (IntKind.i64.wrap (p - 1)), AVal.str []]) [])
  else
  bif c8 then
  bif c8 then
  bif c2 then
  k (Out.ret (AVal.tuple [AVal.int IntKind.i64 (S p n1).fst, AVal.str (S p n1).snd]) [])
  else none
  else k (Out.ret (AVal.tuple [AVal.int IntKind.i64 15, AVal.str []]) [])
  else
  bif p == 14 then
  bif c2 then
  k (Out.ret (AVal.tuple [AVal.int IntKind.i64 (S p n1).fst, AVal.str (S p n1).snd]) [])
  else none
  else k (Out.ret (AVal.tuple [AVal.int IntKind.i64 15, AVal.str []]) [])
  else
  bif p == 11 then
  bif c2 then k (Out.ret (AVal.tuple [AVal.int IntKind.i64 (M p n1), AVal.str []]) []) else none
  else
  bif c7 then
  bif c7 then
  k (Out.ret (AVal.tuple [AVal.int IntKind.i64 (IntKind.i64.wrap (p - 1)), AVal.str []]) [])
  else
  bif c8 then
  bif c8 then
  bif c2 then
  k (Out.ret (AVal.tuple [AVal.int IntKind.i64 (S p n1).fst, AVal.str (S p n1).snd]) [])
  else none
  else k (Out.ret (AVal.tuple [AVal.int IntKind.i64 15, AVal.str []]) [])
  else
  bif p == 14 then
  bif c2 then
  k (Out.ret (AVal.tuple [AVal.int IntKind.i64 (S p n1).fst, AVal.str (S p n1).snd]) [])
  else none
  else k (Out.ret (AVal.tuple [AVal.int IntKind.i64 15, AVal.str []]) [])
  else
  bif p == 12 then
  k (Out.ret (AVal.tuple [AVal.int IntKind.i64 (IntKind.i64.wrap (p - 1)), AVal.str []]) [])
  else
  bif c8 then
  bif c8 then
  bif c2 then
  k (Out.ret (AVal.tuple [AVal.int IntKind.i64 (S p n1).fst, AVal.str (S p n1).snd]) [])
  else none
  else k (Out.ret (AVal.tuple [AVal.int IntKind.i64 15, AVal.str []]) [])
  else
  bif p == 14 then
  bif c2 then
  k (Out.ret (AVal.tuple [AVal.int IntKind.i64 (S p n1).fst, AVal.str (S p n1).snd]) [])
  else none
  else k (Out.ret (AVal.tuple [AVal.int IntKind.i64 15, AVal.str []]) [])
  else
  bif p == 3 then bif c2 then k (Out.ret (AVal.tuple [AVal.int IntKind.i64 (Q p n1), AVal.str []]) []) else none
  else
  bif c4 then
  bif c4 then k (Out.ret (AVal.tuple [AVal.int IntKind.i64 (IntKind.i64.wrap (p - 2)), AVal.str []]) [])
  else
  bif p == 6 then
  bif bif n1 == 10 then true else n1 == 13 then
  k (Out.ret (AVal.tuple [AVal.int IntKind.i64 0, AVal.str []]) [])
  else k (Out.ret (AVal.tuple [AVal.int IntKind.i64 6, AVal.str []]) [])
  else
  bif c5 then
  bif c5 then
  bif c2 then k (Out.ret (AVal.tuple [AVal.int IntKind.i64 (R p n1), AVal.str []]) []) else none
  else
  bif c6 then
  bif c6 then
  bif c2 then k (Out.ret (AVal.tuple [AVal.int IntKind.i64 (M p n1), AVal.str []]) []) else none
  else
  bif c7 then
  bif c7 then
  k (Out.ret (AVal.tuple [AVal.int IntKind.i64 (IntKind.i64.wrap (p - 1)), AVal.str []]) [])
  else
  bif c8 then
  bif c8 then
  bif c2 then
  k (Out.ret (AVal.tuple [AVal.int IntKind.i64 (S p n1).fst, AVal.str (S p n1).snd]) [])
  else none
  else k (Out.ret (AVal.tuple [AVal.int IntKind.i64 15, AVal.str []]) [])
  else
  bif p == 14 then
  bif c2 then
  k (Out.ret (AVal.tuple [AVal.int IntKind.i64 (S p n1).fst, AVal.str (S p n1).snd]) [])
  else none
  else k (Out.ret (AVal.tuple [AVal.int IntKind.i64 15, AVal.str []]) [])
  else
  bif p == 12 then
  k (Out.ret (AVal.tuple [AVal.int IntKind.i64 (IntKind.i64.wrap (p - 1)), AVal.str []]) [])
  else
  bif c8 then
  bif c8 then
  bif c2 then
  k (Out.ret (AVal.tuple [AVal.int IntKind.i64 (S p n1).fst, AVal.str (S p n1).snd]) [])
  else none
  else k (Out.ret (AVal.tuple [AVal.int IntKind.i64 15, AVal.str []]) [])
  else
  bif p == 14 then
  bif c2 then
  k (Out.ret (AVal.tuple [AVal.int IntKind.i64 (S p n1).fst, AVal.str (S p n1).snd]) [])
  else none
  else k (Out.ret (AVal.tuple [AVal.int IntKind.i64 15, AVal.str []]) [])
  else
  bif p == 11 then
  bif c2 then k (Out.ret (AVal.tuple [AVal.int IntKind.i64 (M p n1), AVal.str []]) []) else none
  else
  bif c7 then
  bif c7 then
  k (Out.ret (AVal.tuple [AVal.int IntKind.i64 (IntKind.i64.wrap (p - 1)), AVal.str []]) [])
  else
  bif c8 then
  bif c8 then
  bif c2 then
  k (Out.ret (AVal.tuple [AVal.int IntKind.i64 (S p n1).fst, AVal.str (S p n1).snd]) [])
  else none
  else k (Out.ret (AVal.tuple [AVal.int IntKind.i64 15, AVal.str []]) [])
  else
  bif p == 14 then
  bif c2 then
  k (Out.ret (AVal.tuple [AVal.int IntKind.i64 (S p n1).fst, AVal.str (S p n1).snd]) [])
  else none
  else k (Out.ret (AVal.tuple [AVal.int IntKind.i64 15, AVal.str []]) [])
  else
  bif p == 12 then
  k (Out.ret (AVal.tuple [AVal.int IntKind.i64 (IntKind.i64.wrap (p - 1)), AVal.str []]) [])
  else
  bif c8 then
  bif c8 then
  bif c2 then
  k (Out.ret (AVal.tuple [AVal.int IntKind.i64 (S p n1).fst, AVal.str (S p n1).snd]) [])
  else none
  else k (Out.ret (AVal.tuple [AVal.int IntKind.i64 15, AVal.str []]) [])
  else
  bif p == 14 then
  bif c2 then
  k (Out.ret (AVal.tuple [AVal.int IntKind.i64 (S p n1).fst, AVal.str (S p n1).snd]) [])
  else none
  else k (Out.ret (AVal.tuple [AVal.int IntKind.i64 15, AVal.str []]) [])
  else
  bif p == 8 then
  bif c2 then k (Out.ret (AVal.tuple [AVal.int IntKind.i64 (R p n1), AVal.str []]) []) else none
  else
  bif c6 then
  bif c6 then
  bif c2 then k (Out.ret (AVal.tuple [AVal.int IntKind.i64 (M p n1), AVal.str []]) []) else none
  else
  bif c7 then
  bif c7 then
  k (Out.ret (AVal.tuple [AVal.int IntKind.i64 (IntKind.i64.wrap (p - 1)), AVal.str []]) [])
  else
  bif c8 then
  bif c8 then
  bif c2 then
  k (Out.ret (AVal.tuple [AVal.int IntKind.i64 (S p n1).fst, AVal.str (S p n1).snd]) [])
  else none
  else k (Out.ret (AVal.tuple [AVal.int IntKind.i64 15, AVal.str []]) [])
  else
  bif p == 14 then
  bif c2 then
  k (Out.ret (AVal.tuple [AVal.int IntKind.i64 (S p n1).fst, AVal.str (S p n1).snd]) [])
  else none
  else k (Out.ret (AVal.tuple [AVal.int IntKind.i64 15, AVal.str []]) [])
  else
  bif p == 12 then
  k (Out.ret (AVal.tuple [AVal.int IntKind.i64 (IntKind.i64.wrap (p - 1)), AVal.str []]) [])
  else
  bif c8 then
  bif c8 then
  bif c2 then
  k (Out.ret (AVal.tuple [AVal.int IntKind.i64 (S p n1).fst, AVal.str (S p n1).snd]) [])
  else none
  else k (Out.ret (AVal.tuple [AVal.int IntKind.i64 15, AVal.str []]) [])
  else
  bif p == 14 then
  bif c2 then
  k (Out.ret (AVal.tuple [AVal.int IntKind.i64 (S p n1).fst, AVal.str (S p n1).snd]) [])
  else none
  else k (Out.ret (AVal.tuple [AVal.int IntKind.i64 15, AVal.str []]) [])
  else
  bif p == 11 then
  bif c2 then k (Out.ret (AVal.tuple [AVal.int IntKind.i64 (M p n1), AVal.str []]) []) else none
  else
  bif c7 then
  bif c7 then
  k (Out.ret (AVal.tuple [AVal.int IntKind.i64 (IntKind.i64.wrap (p - 1)), AVal.str []]) [])
  else
  bif c8 then
  bif c8 then
  bif c2 then
  k (Out.ret (AVal.tuple [AVal.int IntKind.i64 (S p n1).fst, AVal.str (S p n1).snd]) [])
  else none
  else k (Out.ret (AVal.tuple [AVal.int IntKind.i64 15, AVal.str []]) [])
  else
  bif p == 14 then
  bif c2 then
  k (Out.ret (AVal.tuple [AVal.int IntKind.i64 (S p n1).fst, AVal.str (S p n1).snd]) [])
  else none
  else k (Out.ret (AVal.tuple [AVal.int IntKind.i64 15, AVal.str []]) [])
  else
  bif p == 12 then
  k (Out.ret (AVal.tuple [AVal.int IntKind.i64 (IntKind.i64.wrap (p - 1)), AVal.str []]) [])
  else
  bif c8 then
  bif c8 then
  bif c2 then
  k (Out.ret (AVal.tuple [AVal.int IntKind.i64 (S p n1).fst, AVal.str (S p n1).snd]) [])
  else none
  else k (Out.ret (AVal.tuple [AVal.int IntKind.i64 15, AVal.str []]) [])
  else
  bif p == 14 then
  bif c2 then
  k (Out.ret (AVal.tuple [AVal.int IntKind.i64 (S p n1).fst, AVal.str (S p n1).snd]) [])
  else none
  else k (Out.ret (AVal.tuple [AVal.int IntKind.i64 15, AVal.str []]) [])
  else
  bif p == 5 then k (Out.ret (AVal.tuple [AVal.int IntKind.i64 (IntKind.i64.wrap (p - 2)), AVal.str []]) [])
  else
  bif p == 6 then
  bif bif n1 == 10 then true else n1 == 13 then
  k (Out.ret (AVal.tuple [AVal.int IntKind.i64 0, AVal.str []]) [])
  else k (Out.ret (AVal.tuple [AVal.int IntKind.i64 6, AVal.str []]) [])
  else
  bif c5 then
  bif c5 then
  bif c2 then k (Out.ret (AVal.tuple [AVal.int IntKind.i64 (R p n1), AVal.str []]) []) else none
  else
  bif c6 then
  bif c6 then
  bif c2 then k (Out.ret (AVal.tuple [AVal.int IntKind.i64 (M p n1), AVal.str []]) []) else none
  else
  bif c7 then
  bif c7 then
  k (Out.ret (AVal.tuple [AVal.int IntKind.i64 (IntKind.i64.wrap (p - 1)), AVal.str []]) [])
  else
  bif c8 then
  bif c8 then
  bif c2 then
  k (Out.ret (AVal.tuple [AVal.int IntKind.i64 (S p n1).fst, AVal.str (S p n1).snd]) [])
  else none
  else k (Out.ret (AVal.tuple [AVal.int IntKind.i64 15, AVal.str []]) [])
  else
  bif p == 14 then
  bif c2 then
  k (Out.ret (AVal.tuple [AVal.int IntKind.i64 (S p n1).fst, AVal.str (S p n1).snd]) [])
  else none
  else k (Out.ret (AVal.tuple [AVal.int IntKind.i64 15, AVal.str []]) [])
  else
  bif p == 12 then
  k (Out.ret (AVal.tuple [AVal.int IntKind.i64 (IntKind.i64.wrap (p - 1)), AVal.str []]) [])
  else
  bif c8 then
  bif c8 then
  bif c2 then
  k (Out.ret (AVal.tuple [AVal.int IntKind.i64 (S p n1).fst, AVal.str (S p n1).snd]) [])
  else none
  else k (Out.ret (AVal.tuple [AVal.int IntKind.i64 15, AVal.str []]) [])
  else
  bif p == 14 then
  bif c2 then
  k (Out.ret (AVal.tuple [AVal.int IntKind.i64 (S p n1).fst, AVal.str (S p n1).snd]) [])
  else none
  else k (Out.ret (AVal.tuple [AVal.int IntKind.i64 15, AVal.str []]) [])
  else
  bif p == 11 then
  bif c2 then k (Out.ret (AVal.tuple [AVal.int IntKind.i64 (M p n1), AVal.str []]) []) else none
  else
  bif c7 then
  bif c7 then
  k (Out.ret (AVal.tuple [AVal.int IntKind.i64 (IntKind.i64.wrap (p - 1)), AVal.str []]) [])
  else
  bif c8 then
  bif c8 then
  bif c2 then
  k (Out.ret (AVal.tuple [AVal.int IntKind.i64 (S p n1).fst, AVal.str (S p n1).snd]) [])
  else none
  else k (Out.ret (AVal.tuple [AVal.int IntKind.i64 15, AVal.str []]) [])
  else
  bif p == 14 then
  bif c2 then
  k (Out.ret (AVal.tuple [AVal.int IntKind.i64 (S p n1).fst, AVal.str (S p n1).snd]) [])
  else none
  else k (Out.ret (AVal.tuple [AVal.int IntKind.i64 15, AVal.str []]) [])
  else
  bif p == 12 then
  k (Out.ret (AVal.tuple [AVal.int IntKind.i64 (IntKind.i64.wrap (p - 1)), AVal.str []]) [])
  else
  bif c8 then
  bif c8 then
  bif c2 then
  k (Out.ret (AVal.tuple [AVal.int IntKind.i64 (S p n1).fst, AVal.str (S p n1).snd]) [])
  else none
  else k (Out.ret (AVal.tuple [AVal.int IntKind.i64 15, AVal.str []]) [])
  else
  bif p == 14 then
  bif c2 then
  k (Out.ret (AVal.tuple [AVal.int IntKind.i64 (S p n1).fst, AVal.str (S p n1).snd]) [])
  else none
  else k (Out.ret (AVal.tuple [AVal.int IntKind.i64 15, AVal.str []]) [])
  else
  bif p == 8 then
  bif c2 then k (Out.ret (AVal.tuple [AVal.int IntKind.i64 (R p n1), AVal.str []]) []) else none
  else
  bif c6 then
  bif c6 then
  bif c2 then k (Out.ret (AVal.tuple [AVal.int IntKind.i64 (M p n1), AVal.str []]) []) else none
  else
  bif c7 then
  bif c7 then
  k (Out.ret (AVal.tuple [AVal.int IntKind.i64 (IntKind.i64.wrap (p - 1)), AVal.str []]) [])
  else
  bif c8 then
  bif c8 then
  bif c2 then
  k (Out.ret (AVal.tuple [AVal.int IntKind.i64 (S p n1).fst, AVal.str (S p n1).snd]) [])
  else none
  else k (Out.ret (AVal.tuple [AVal.int IntKind.i64 15, AVal.str []]) [])
  else
  bif p == 14 then
  bif c2 then
  k (Out.ret (AVal.tuple [AVal.int IntKind.i64 (S p n1).fst, AVal.str (S p n1).snd]) [])
  else none
  else k (Out.ret (AVal.tuple [AVal.int IntKind.i64 15, AVal.str []]) [])
  else
  bif p == 12 then
  k (Out.ret (AVal.tuple [AVal.int IntKind.i64 (IntKind.i64.wrap (p - 1)), AVal.str []]) [])
  else
  bif c8 then
  bif c8 then
  bif c2 then
  k (Out.ret (AVal.tuple [AVal.int IntKind.i64 (S p n1).fst, AVal.str (S p n1).snd]) [])
  else none
  else k (Out.ret (AVal.tuple [AVal.int IntKind.i64 15, AVal.str []]) [])
  else
  bif p == 14 then
  bif c2 then
  k (Out.ret (AVal.tuple [AVal.int IntKind.i64 (S p n1).fst, AVal.str (S p n1).snd]) [])
  else none
  else k (Out.ret (AVal.tuple [AVal.int IntKind.i64 15, AVal.str []]) [])
  else
  bif p == 11 then
  bif c2 then k (Out.ret (AVal.tuple [AVal.int IntKind.i64 (M p n1), AVal.str []]) []) else none
  else
  bif c7 then
  bif c7 then
  k (Out.ret (AVal.tuple [AVal.int IntKind.i64 (IntKind.i64.wrap (p - 1)), AVal.str []]) [])
  else
  bif c8 then
  bif c8 then
  bif c2 then
  k (Out.ret (AVal.tuple [AVal.int IntKind.i64 (S p n1).fst, AVal.str (S p n1).snd]) [])
  else none
  else k (Out.ret (AVal.tuple [AVal.int IntKind.i64 15, AVal.str []]) [])
  else
  bif p == 14 then
  bif c2 then
  k (Out.ret (AVal.tuple [AVal.int IntKind.i64 (S p n1).fst, AVal.str (S p n1).snd]) [])
  else none
  else k (Out.ret (AVal.tuple [AVal.int IntKind.i64 15, AVal.str []]) [])
  else
  bif p == 12 then
  k (Out.ret (AVal.tuple [AVal.int IntKind.i64 (IntKind.i64.wrap (p - 1)), AVal.str []]) [])
  else
  bif c8 then
  bif c8 then
  bif c2 then
  k (Out.ret (AVal.tuple [AVal.int IntKind.i64 (S p n1).fst, AVal.str (S p n1).snd]) [])
  else none
  else k (Out.ret (AVal.tuple [AVal.int IntKind.i64 15, AVal.str []]) [])
  else
  bif p == 14 then
  bif c2 then
  k (Out.ret (AVal.tuple [AVal.int IntKind.i64 (S p n1).fst, AVal.str (S p n1).snd]) [])
  else none
  else k (Out.ret (AVal.tuple [AVal.int IntKind.i64 15, AVal.str []]) [])
  else
  bif p == 1 then
  bif c2 && decide (List.length w ≤ 1048576) then
  k (Out.ret (AVal.tuple [AVal.int IntKind.i64 (C p w n1).fst, AVal.str (C p w n1).snd]) [])
  else none
  else
  bif c3 then
  bif c3 then bif c2 then k (Out.ret (AVal.tuple [AVal.int IntKind.i64 (Q p n1), AVal.str []]) []) else none
  else
  bif c4 then
  bif c4 then k (Out.ret (AVal.tuple [AVal.int IntKind.i64 (IntKind.i64.wrap (p - 2)), AVal.str []]) [])
  else
  bif p == 6 then
  bif bif n1 == 10 then true else n1 == 13 then
  k (Out.ret (AVal.tuple [AVal.int IntKind.i64 0, AVal.str []]) [])
  else k (Out.ret (AVal.tuple [AVal.int IntKind.i64 6, AVal.str []]) [])
  else
  bif c5 then
  bif c5 then
  bif c2 then k (Out.ret (AVal.tuple [AVal.int IntKind.i64 (R p n1), AVal.str []]) []) else none
  else
  bif c6 then
  bif c6 then
  bif c2 then k (Out.ret (AVal.tuple [AVal.int IntKind.i64 (M p n1), AVal.str []]) []) else none
  else
  bif c7 then
  bif c7 then
  k (Out.ret (AVal.tuple [AVal.int IntKind.i64 (IntKind.i64.wrap (p - 1)), AVal.str []]) [])
  else
  bif c8 then
  bif c8 then
  bif c2 then
  k (Out.ret (AVal.tuple [AVal.int IntKind.i64 (S p n1).fst, AVal.str (S p n1).snd]) [])
  else none
  else k (Out.ret (AVal.tuple [AVal.int IntKind.i64 15, AVal.str []]) [])
  else
  bif p == 14 then
  bif c2 then
  k (Out.ret (AVal.tuple [AVal.int IntKind.i64 (S p n1).fst, AVal.str (S p n1).snd]) [])
  else none
  else k (Out.ret (AVal.tuple [AVal.int IntKind.i64 15, AVal.str []]) [])
  else
  bif p == 12 then
  k (Out.ret (AVal.tuple [AVal.int IntKind.i64 (IntKind.i64.wrap (p - 1)), AVal.str []]) [])
  else
  bif c8 then
  bif c8 then
  bif c2 then
  k (Out.ret (AVal.tuple [AVal.int IntKind.i64 (S p n1).fst, AVal.str (S p n1).snd]) [])
  else none
  else k (Out.ret (AVal.tuple [AVal.int IntKind.i64 15, AVal.str []]) [])
  else
  bif p == 14 then
  bif c2 then
  k (Out.ret (AVal.tuple [AVal.int IntKind.i64 (S p n1).fst, AVal.str (S p n1).snd]) [])
  else none
  else k (Out.ret (AVal.tuple [AVal.int IntKind.i64 15, AVal.str []]) [])
  else
  bif p == 11 then
  bif c2 then k (Out.ret (AVal.tuple [AVal.int IntKind.i64 (M p n1), AVal.str []]) []) else none
  else
  bif c7 then
  bif c7 then
  k (Out.ret (AVal.tuple [AVal.int IntKind.i64 (IntKind.i64.wrap (p - 1)), AVal.str []]) [])
  else
  bif c8 then
  bif c8 then
  bif c2 then
  k (Out.ret (AVal.tuple [AVal.int IntKind.i64 (S p n1).fst, AVal.str (S p n1).snd]) [])
  else none
  else k (Out.ret (AVal.tuple [AVal.int IntKind.i64 15, AVal.str []]) [])
  else
  bif p == 14 then
  bif c2 then
  k (Out.ret (AVal.tuple [AVal.int IntKind.i64 (S p n1).fst, AVal.str (S p n1).snd]) [])
  else none
  else k (Out.ret (AVal.tuple [AVal.int IntKind.i64 15, AVal.str []]) [])
  else
  bif p == 12 then
  k (Out.ret (AVal.tuple [AVal.int IntKind.i64 (IntKind.i64.wrap (p - 1)), AVal.str []]) [])
  else
  bif c8 then
  bif c8 then
  bif c2 then
  k (Out.ret (AVal.tuple [AVal.int IntKind.i64 (S p n1).fst, AVal.str (S p n1).snd]) [])
  else none
  else k (Out.ret (AVal.tuple [AVal.int IntKind.i64 15, AVal.str []]) [])
  else
  bif p == 14 then
  bif c2 then
  k (Out.ret (AVal.tuple [AVal.int IntKind.i64 (S p n1).fst, AVal.str (S p n1).snd]) [])
  else none
  else k (Out.ret (AVal.tuple [AVal.int IntKind.i64 15, AVal.str []]) [])
  else
  bif p == 8 then
  bif c2 then k (Out.ret (AVal.tuple [AVal.int IntKind.i64 (R p n1), AVal.str []]) []) else none
  else
  bif c6 then
  bif c6 then
  bif c2 then k (Out.ret (AVal.tuple [AVal.int IntKind.i64 (M p n1), AVal.str []]) []) else none
  else
  bif c7 then
  bif c7 then
  k (Out.ret (AVal.tuple [AVal.int IntKind.i64 (IntKind.i64.wrap (p - 1)), AVal.str []]) [])
  else
  bif c8 then
  bif c8 then
  bif c2 then
  k (Out.ret (AVal.tuple [AVal.int IntKind.i64 (S p n1).fst, AVal.str (S p n1).snd]) [])
  else none
  else k (Out.ret (AVal.tuple [AVal.int IntKind.i64 15, AVal.str []]) [])
  else
  bif p == 14 then
  bif c2 then
  k (Out.ret (AVal.tuple [AVal.int IntKind.i64 (S p n1).fst, AVal.str (S p n1).snd]) [])
  else none
  else k (Out.ret (AVal.tuple [AVal.int IntKind.i64 15, AVal.str []]) [])
  else
  bif p == 12 then
  k (Out.ret (AVal.tuple [AVal.int IntKind.i64 (IntKind.i64.wrap (p - 1)), AVal.str []]) [])
  else
  bif c8 then
  bif c8 then
  bif c2 then
  k (Out.ret (AVal.tuple [AVal.int IntKind.i64 (S p n1).fst, AVal.str (S p n1).snd]) [])
  else none
  else k (Out.ret (AVal.tuple [AVal.int IntKind.i64 15, AVal.str []]) [])
  else
  bif p == 14 then
  bif c2 then
  k (Out.ret (AVal.tuple [AVal.int IntKind.i64 (S p n1).fst, AVal.str (S p n1).snd]) [])
  else none
  else k (Out.ret (AVal.tuple [AVal.int IntKind.i64 15, AVal.str []]) [])
  else
  bif p == 11 then
  bif c2 then k (Out.ret (AVal.tuple [AVal.int IntKind.i64 (M p n1), AVal.str []]) []) else none
  else
  bif c7 then
  bif c7 then
  k (Out.ret (AVal.tuple [AVal.int IntKind.i64 (IntKind.i64.wrap (p - 1)), AVal.str []]) [])
  else
  bif c8 then
  bif c8 then
  bif c2 then
  k (Out.ret (AVal.tuple [AVal.int IntKind.i64 (S p n1).fst, AVal.str (S p n1).snd]) [])
  else none
  else k (Out.ret (AVal.tuple [AVal.int IntKind.i64 15, AVal.str []]) [])
  else
  bif p == 14 then
  bif c2 then
  k (Out.ret (AVal.tuple [AVal.int IntKind.i64 (S p n1).fst, AVal.str (S p n1).snd]) [])
  else none
  else k (Out.ret (AVal.tuple [AVal.int IntKind.i64 15, AVal.str []]) [])
  else
  bif p == 12 then
  k (Out.ret (AVal.tuple [AVal.int IntKind.i64 (IntKind.i64.wrap (p - 1)), AVal.str []]) [])
  else
  bif c8 then
  bif c8 then
  bif c2 then
  k (Out.ret (AVal.tuple [AVal.int IntKind.i64 (S p n1).fst, AVal.str (S p n1).snd]) [])
  else none
  else k (Out.ret (AVal.tuple [AVal.int IntKind.i64 15, AVal.str []]) [])
  else
  bif p == 14 then
  bif c2 then
  k (Out.ret (AVal.tuple [AVal.int IntKind.i64 (S p n1).fst, AVal.str (S p n1).snd]) [])
  else none
  else k (Out.ret (AVal.tuple [AVal.int IntKind.i64 15, AVal.str []]) [])
  else
  bif p == 5 then k (Out.ret (AVal.tuple [AVal.int IntKind.i64 (IntKind.i64.wrap (p - 2)), AVal.str []]) [])
  else
  bif p == 6 then
  bif bif n1 == 10 then true else n1 == 13 then
  k (Out.ret (AVal.tuple [AVal.int IntKind.i64 0, AVal.str []]) [])
  else k (Out.ret (AVal.tuple [AVal.int IntKind.i64 6, AVal.str []]) [])
  else
  bif c5 then
  bif c5 then
  bif c2 then k (Out.ret (AVal.tuple [AVal.int IntKind.i64 (R p n1), AVal.str []]) []) else none
  else
  bif c6 then
  bif c6 then
  bif c2 then k (Out.ret (AVal.tuple [AVal.int IntKind.i64 (M p n1), AVal.str []]) []) else none
  else
  bif c7 then
  bif c7 then
  k (Out.ret (AVal.tuple [AVal.int IntKind.i64 (IntKind.i64.wrap (p - 1)), AVal.str []]) [])
  else
  bif c8 then
  bif c8 then
  bif c2 then
  k (Out.ret (AVal.tuple [AVal.int IntKind.i64 (S p n1).fst, AVal.str (S p n1).snd]) [])
  else none
  else k (Out.ret (AVal.tuple [AVal.int IntKind.i64 15, AVal.str []]) [])
  else
  bif p == 14 then
  bif c2 then
  k (Out.ret (AVal.tuple [AVal.int IntKind.i64 (S p n1).fst, AVal.str (S p n1).snd]) [])
  else none
  else k (Out.ret (AVal.tuple [AVal.int IntKind.i64 15, AVal.str []]) [])
  else
  bif p == 12 then
  k (Out.ret (AVal.tuple [AVal.int IntKind.i64 (IntKind.i64.wrap (p - 1)), AVal.str []]) [])
  else
  bif c8 then
  bif c8 then
  bif c2 then
  k (Out.ret (AVal.tuple [AVal.int IntKind.i64 (S p n1).fst, AVal.str (S p n1).snd]) [])
  else none
  else k (Out.ret (AVal.tuple [AVal.int IntKind.i64 15, AVal.str []]) [])
  else
  bif p == 14 then
  bif c2 then
  k (Out.ret (AVal.tuple [AVal.int IntKind.i64 (S p n1).fst, AVal.str (S p n1).snd]) [])
  else none
  else k (Out.ret (AVal.tuple [AVal.int IntKind.i64 15, AVal.str []]) [])
  else
  bif p == 11 then
  bif c2 then k (Out.ret (AVal.tuple [AVal.int IntKind.i64 (M p n1), AVal.str []]) []) else none
  else
  bif c7 then
  bif c7 then
  k (Out.ret (AVal.tuple [AVal.int IntKind.i64 (IntKind.i64.wrap (p - 1)), AVal.str []]) [])
  else
  bif c8 then
  bif c8 then
  bif c2 then
  k (Out.ret (AVal.tuple [AVal.int IntKind.i64 (S p n1).fst, AVal.str (S p n1).snd]) [])
  else none
  else k (Out.ret (AVal.tuple [AVal.int IntKind.i64 15, AVal.str []]) [])
  else
  bif p == 14 then
  bif c2 then
  k (Out.ret (AVal.tuple [AVal.int IntKind.i64 (S p n1).fst, AVal.str (S p n1).snd]) [])
  else none
  else k (Out.ret (AVal.tuple [AVal.int IntKind.i64 15, AVal.str []]) [])
  else
  bif p == 12 then
  k (Out.ret (AVal.tuple [AVal.int IntKind.i64 (IntKind.i64.wrap (p - 1)), AVal.str []]) [])
  else
  bif c8 then
  bif c8 then
  bif c2 then
  k (Out.ret (AVal.tuple [AVal.int IntKind.i64 (S p n1).fst, AVal.str (S p n1).snd]) [])
  else none
  else k (Out.ret (AVal.tuple [AVal.int IntKind.i64 15, AVal.str []]) [])
  else
  bif p == 14 then
  bif c2 then
  k (Out.ret (AVal.tuple [AVal.int IntKind.i64 (S p n1).fst, AVal.str (S p n1).snd]) [])
  else none
  else k (Out.ret (AVal.tuple [AVal.int IntKind.i64 15, AVal.str []]) [])
  else
  bif p == 8 then
  bif c2 then k (Out.ret (AVal.tuple [AVal.int IntKind.i64 (R p n1), AVal.str []]) []) else none
  else
  bif c6 then
  bif c6 then
  bif c2 then k (Out.ret (AVal.tuple [AVal.int IntKind.i64 (M p n1), AVal.str []]) []) else none
  else
  bif c7 then
  bif c7 then
  k (Out.ret (AVal.tuple [AVal.int IntKind.i64 (IntKind.i64.wrap (p - 1)), AVal.str []]) [])
  else
  bif c8 then
  bif c8 then
  bif c2 then
  k (Out.ret (AVal.tuple [AVal.int IntKind.i64 (S p n1).fst, AVal.str (S p n1).snd]) [])
  else none
  else k (Out.ret (AVal.tuple [AVal.int IntKind.i64 15, AVal.str []]) [])
  else
  bif p == 14 then
  bif c2 then
  k (Out.ret (AVal.tuple [AVal.int IntKind.i64 (S p n1).fst, AVal.str (S p n1).snd]) [])
  else none
  else k (Out.ret (AVal.tuple [AVal.int IntKind.i64 15, AVal.str []]) [])
  else
  bif p == 12 then
  k (Out.ret (AVal.tuple [AVal.int IntKind.i64 (IntKind.i64.wrap (p - 1)), AVal.str []]) [])
  else
  bif c8 then
  bif c8 then
  bif c2 then
  k (Out.ret (AVal.tuple [AVal.int IntKind.i64 (S p n1).fst, AVal.str (S p n1).snd]) [])
  else none
  else k (Out.ret (AVal.tuple [AVal.int IntKind.i64 15, AVal.str []]) [])
  else
  bif p == 14 then
  bif c2 then
  k (Out.ret (AVal.tuple [AVal.int IntKind.i64 (S p n1).fst, AVal.str (S p n1).snd]) [])
  else none
  else k (Out.ret (AVal.tuple [AVal.int IntKind.i64 15, AVal.str []]) [])
  else
  bif p == 11 then
  bif c2 then k (Out.ret (AVal.tuple [AVal.int IntKind.i64 (M p n1), AVal.str []]) []) else none
  else
  bif c7 then
  bif c7 then
  k (Out.ret (AVal.tuple [AVal.int IntKind.i64 (IntKind.i64.wrap (p - 1)), AVal.str []]) [])
  else
  bif c8 then
  bif c8 then
  bif c2 then
  k (Out.ret (AVal.tuple [AVal.int IntKind.i64 (S p n1).fst, AVal.str (S p n1).snd]) [])
  else none
  else k (Out.ret (AVal.tuple [AVal.int IntKind.i64 15, AVal.str []]) [])
  else
  bif p == 14 then
  bif c2 then
  k (Out.ret (AVal.tuple [AVal.int IntKind.i64 (S p n1).fst, AVal.str (S p n1).snd]) [])
  else none
  else k (Out.ret (AVal.tuple [AVal.int IntKind.i64 15, AVal.str []]) [])
  else
  bif p == 12 then
  k (Out.ret (AVal.tuple [AVal.int IntKind.i64 (IntKind.i64.wrap (p - 1)), AVal.str []]) [])
  else
  bif c8 then
  bif c8 then
  bif c2 then
  k (Out.ret (AVal.tuple [AVal.int IntKind.i64 (S p n1).fst, AVal.str (S p n1).snd]) [])
  else none
  else k (Out.ret (AVal.tuple [AVal.int IntKind.i64 15, AVal.str []]) [])
  else
  bif p == 14 then
  bif c2 then
  k (Out.ret (AVal.tuple [AVal.int IntKind.i64 (S p n1).fst, AVal.str (S p n1).snd]) [])
  else none
  else k (Out.ret (AVal.tuple [AVal.int IntKind.i64 15, AVal.str []]) [])
  else
  bif p == 3 then bif c2 then k (Out.ret (AVal.tuple [AVal.int IntKind.i64 (Q p n1), AVal.str []]) []) else none
  else
  bif c4 then
  bif c4 then k (Out.ret (AVal.tuple [AVal.int IntKind.i64 (IntKind.i64.wrap (p - 2)), AVal.str []]) [])
  else
  bif p == 6 then
  bif bif n1 == 10 then true else n1 == 13 then
  k (Out.ret (AVal.tuple [AVal.int IntKind.i64 0, AVal.str []]) [])
  else k (Out.ret (AVal.tuple [AVal.int IntKind.i64 6, AVal.str []]) [])
  else
  bif c5 then
  bif c5 then
  bif c2 then k (Out.ret (AVal.tuple [AVal.int IntKind.i64 (R p n1), AVal.str []]) []) else none
  else
  bif c6 then
  bif c6 then
  bif c2 then k (Out.ret (AVal.tuple [AVal.int IntKind.i64 (M p n1), AVal.str []]) []) else none
  else
  bif c7 then
  bif c7 then
  k (Out.ret (AVal.tuple [AVal.int IntKind.i64 (IntKind.i64.wrap (p - 1)), AVal.str []]) [])
  else
  bif c8 then
  bif c8 then
  bif c2 then
  k (Out.ret (AVal.tuple [AVal.int IntKind.i64 (S p n1).fst, AVal.str (S p n1).snd]) [])
  else none
  else k (Out.ret (AVal.tuple [AVal.int IntKind.i64 15, AVal.str []]) [])
  else
  bif p == 14 then
  bif c2 then
  k (Out.ret (AVal.tuple [AVal.int IntKind.i64 (S p n1).fst, AVal.str (S p n1).snd]) [])
  else none
  else k (Out.ret (AVal.tuple [AVal.int IntKind.i64 15, AVal.str []]) [])
  else
  bif p == 12 then
  k (Out.ret (AVal.tuple [AVal.int IntKind.i64 (IntKind.i64.wrap (p - 1)), AVal.str []]) [])
  else
  bif c8 then
  bif c8 then
  bif c2 then
  k (Out.ret (AVal.tuple [AVal.int IntKind.i64 (S p n1).fst, AVal.str (S p n1).snd]) [])
  else none
  else k (Out.ret (AVal.tuple [AVal.int IntKind.i64 15, AVal.str []]) [])
  else
  bif p == 14 then
  bif c2 then
  k (Out.ret (AVal.tuple [AVal.int IntKind.i64 (S p n1).fst, AVal.str (S p n1).snd]) [])
  else none
  else k (Out.ret (AVal.tuple [AVal.int IntKind.i64 15, AVal.str []]) [])
  else
  bif p == 11 then
  bif c2 then k (Out.ret (AVal.tuple [AVal.int IntKind.i64 (M p n1), AVal.str []]) []) else none
  else
  bif c7 then
  bif c7 then
  k (Out.ret (AVal.tuple [AVal.int IntKind.i64 (IntKind.i64.wrap (p - 1)), AVal.str []]) [])
  else
  bif c8 then
  bif c8 then
  bif c2 then
  k (Out.ret (AVal.tuple [AVal.int IntKind.i64 (S p n1).fst, AVal.str (S p n1).snd]) [])
  else none
  else k (Out.ret (AVal.tuple [AVal.int IntKind.i64 15, AVal.str []]) [])
  else
  bif p == 14 then
  bif c2 then
  k (Out.ret (AVal.tuple [AVal.int IntKind.i64 (S p n1).fst, AVal.str (S p n1).snd]) [])
  else none
  else k (Out.ret (AVal.tuple [AVal.int IntKind.i64 15, AVal.str []]) [])
  else
  bif p == 12 then
  k (Out.ret (AVal.tuple [AVal.int IntKind.i64 (IntKind.i64.wrap (p - 1)), AVal.str []]) [])
  else
  bif c8 then
  bif c8 then
  bif c2 then
  k (Out.ret (AVal.tuple [AVal.int IntKind.i64 (S p n1).fst, AVal.str (S p n1).snd]) [])
  else none
  else k (Out.ret (AVal.tuple [AVal.int IntKind.i64 15, AVal.str []]) [])
  else
  bif p == 14 then
  bif c2 then
  k (Out.ret (AVal.tuple [AVal.int IntKind.i64 (S p n1).fst, AVal.str (S p n1).snd]) [])
  else none
  else k (Out.ret (AVal.tuple [AVal.int IntKind.i64 15, AVal.str []]) [])
  else
  bif p == 8 then
  bif c2 then k (Out.ret (AVal.tuple [AVal.int IntKind.i64 (R p n1), AVal.str []]) []) else none
  else
  bif c6 then
  bif c6 then
  bif c2 then k (Out.ret (AVal.tuple [AVal.int IntKind.i64 (M p n1), AVal.str []]) []) else none
  else
  bif c7 then
  bif c7 then
  k (Out.ret (AVal.tuple [AVal.int IntKind.i64 (IntKind.i64.wrap (p - 1)), AVal.str []]) [])
  else
  bif c8 then
  bif c8 then
  bif c2 then
  k (Out.ret (AVal.tuple [AVal.int IntKind.i64 (S p n1).fst, AVal.str (S p n1).snd]) [])
  else none
  else k (Out.ret (AVal.tuple [AVal.int IntKind.i64 15, AVal.str []]) [])
  else
  bif p == 14 then
  bif c2 then
  k (Out.ret (AVal.tuple [AVal.int IntKind.i64 (S p n1).fst, AVal.str (S p n1).snd]) [])
  else none
  else k (Out.ret (AVal.tuple [AVal.int IntKind.i64 15, AVal.str []]) [])
  else
  bif p == 12 then
  k (Out.ret (AVal.tuple [AVal.int IntKind.i64 (IntKind.i64.wrap (p - 1)), AVal.str []]) [])
  else
  bif c8 then
  bif c8 then
  bif c2 then
  k (Out.ret (AVal.tuple [AVal.int IntKind.i64 (S p n1).fst, AVal.str (S p n1).snd]) [])
  else none
  else k (Out.ret (AVal.tuple [AVal.int IntKind.i64 15, AVal.str []]) [])
  else
  bif p == 14 then
  bif c2 then
  k (Out.ret (AVal.tuple [AVal.int IntKind.i64 (S p n1).fst, AVal.str (S p n1).snd]) [])
  else none
  else k (Out.ret (AVal.tuple [AVal.int IntKind.i64 15, AVal.str []]) [])
  else
  bif p == 11 then
  bif c2 then k (Out.ret (AVal.tuple [AVal.int IntKind.i64 (M p n1), AVal.str []]) []) else none
  else
  bif c7 then
  bif c7 then
  k (Out.ret (AVal.tuple [AVal.int IntKind.i64 (IntKind.i64.wrap (p - 1)), AVal.str []]) [])
  else
  bif c8 then
  bif c8 then
  bif c2 then
  k (Out.ret (AVal.tuple [AVal.int IntKind.i64 (S p n1).fst, AVal.str (S p n1).snd]) [])
  else none
  else k (Out.ret (AVal.tuple [AVal.int IntKind.i64 15, AVal.str []]) [])
  else
  bif p == 14 then
  bif c2 then
  k (Out.ret (AVal.tuple [AVal.int IntKind.i64 (S p n1).fst, AVal.str (S p n1).snd]) [])
  else none
  else k (Out.ret (AVal.tuple [AVal.int IntKind.i64 15, AVal.str []]) [])
  else
  bif p == 12 then
  k (Out.ret (AVal.tuple [AVal.int IntKind.i64 (IntKind.i64.wrap (p - 1)), AVal.str []]) [])
  else
  bif c8 then
  bif c8 then
  bif c2 then
  k (Out.ret (AVal.tuple [AVal.int IntKind.i64 (S p n1).fst, AVal.str (S p n1).snd]) [])
  else none
  else k (Out.ret (AVal.tuple [AVal.int IntKind.i64 15, AVal.str []]) [])
  else
  bif p == 14 then
  bif c2 then
  k (Out.ret (AVal.tuple [AVal.int IntKind.i64 (S p n1).fst, AVal.str (S p n1).snd]) [])
  else none
  else k (Out.ret (AVal.tuple [AVal.int IntKind.i64 15, AVal.str []]) [])
  else
  bif p == 5 then k (Out.ret (AVal.tuple [AVal.int IntKind.i64 (IntKind.i64.wrap (p - 2)), AVal.str []]) [])
  else
  bif p == 6 then
  bif bif n1 == 10 then true else n1 == 13 then
  k (Out.ret (AVal.tuple [AVal.int IntKind.i64 0, AVal.str []]) [])
  else k (Out.ret (AVal.tuple [AVal.int IntKind.i64 6, AVal.str []]) [])
  else
  bif c5 then
  bif c5 then
  bif c2 then k (Out.ret (AVal.tuple [AVal.int IntKind.i64 (R p n1), AVal.str []]) []) else none
  else
  bif c6 then
  bif c6 then
  bif c2 then k (Out.ret (AVal.tuple [AVal.int IntKind.i64 (M p n1), AVal.str []]) []) else none
  else
  bif c7 then
  bif c7 then
  k (Out.ret (AVal.tuple [AVal.int IntKind.i64 (IntKind.i64.wrap (p - 1)), AVal.str []]) [])
  else
  bif c8 then
  bif c8 then
  bif c2 then
  k (Out.ret (AVal.tuple [AVal.int IntKind.i64 (S p n1).fst, AVal.str (S p n1).snd]) [])
  else none
  else k (Out.ret (AVal.tuple [AVal.int IntKind.i64 15, AVal.str []]) [])
  else
  bif p == 14 then
  bif c2 then
  k (Out.ret (AVal.tuple [AVal.int IntKind.i64 (S p n1).fst, AVal.str (S p n1).snd]) [])
  else none
  else k (Out.ret (AVal.tuple [AVal.int IntKind.i64 15, AVal.str []]) [])
  else
  bif p == 12 then
  k (Out.ret (AVal.tuple [AVal.int IntKind.i64 (IntKind.i64.wrap (p - 1)), AVal.str []]) [])
  else
  bif c8 then
  bif c8 then
  bif c2 then
  k (Out.ret (AVal.tuple [AVal.int IntKind.i64 (S p n1).fst, AVal.str (S p n1).snd]) [])
  else none
  else k (Out.ret (AVal.tuple [AVal.int IntKind.i64 15, AVal.str []]) [])
  else
  bif p == 14 then
  bif c2 then
  k (Out.ret (AVal.tuple [AVal.int IntKind.i64 (S p n1).fst, AVal.str (S p n1).snd]) [])
  else none
  else k (Out.ret (AVal.tuple [AVal.int IntKind.i64 15, AVal.str []]) [])
  else
  bif p == 11 then
  bif c2 then k (Out.ret (AVal.tuple [AVal.int IntKind.i64 (M p n1), AVal.str []]) []) else none
  else
  bif c7 then
  bif c7 then
  k (Out.ret (AVal.tuple [AVal.int IntKind.i64 (IntKind.i64.wrap (p - 1)), AVal.str []]) [])
  else
  bif c8 then
  bif c8 then
  bif c2 then
  k (Out.ret (AVal.tuple [AVal.int IntKind.i64 (S p n1).fst, AVal.str (S p n1).snd]) [])
  else none
  else k (Out.ret (AVal.tuple [AVal.int IntKind.i64 15, AVal.str []]) [])
  else
  bif p == 14 then
  bif c2 then
  k (Out.ret (AVal.tuple [AVal.int IntKind.i64 (S p n1).fst, AVal.str (S p n1).snd]) [])
  else none
  else k (Out.ret (AVal.tuple [AVal.int IntKind.i64 15, AVal.str []]) [])
  else
  bif p == 12 then
  k (Out.ret (AVal.tuple [AVal.int IntKind.i64 (IntKind.i64.wrap (p - 1)), AVal.str []]) [])
  else
  bif c8 then
  bif c8 then
  bif c2 then
  k (Out.ret (AVal.tuple [AVal.int IntKind.i64 (S p n1).fst, AVal.str (S p n1).snd]) [])
  else none
  else k (Out.ret (AVal.tuple [AVal.int IntKind.i64 15, AVal.str []]) [])
  else
  bif p == 14 then
  bif c2 then
  k (Out.ret (AVal.tuple [AVal.int IntKind.i64 (S p n1).fst, AVal.str (S p n1).snd]) [])
  else none
  else k (Out.ret (AVal.tuple [AVal.int IntKind.i64 15, AVal.str []]) [])
  else
  bif p == 8 then
  bif c2 then k (Out.ret (AVal.tuple [AVal.int IntKind.i64 (R p n1), AVal.str []]) []) else none
  else
  bif c6 then
  bif c6 then
  bif c2 then k (Out.ret (AVal.tuple [AVal.int IntKind.i64 (M p n1), AVal.str []]) []) else none
  else
  bif c7 then
  bif c7 then
  k (Out.ret (AVal.tuple [AVal.int IntKind.i64 (IntKind.i64.wrap (p - 1)), AVal.str []]) [])
  else
  bif c8 then
  bif c8 then
  bif c2 then
  k (Out.ret (AVal.tuple [AVal.int IntKind.i64 (S p n1).fst, AVal.str (S p n1).snd]) [])
  else none
  else k (Out.ret (AVal.tuple [AVal.int IntKind.i64 15, AVal.str []]) [])
  else
  bif p == 14 then
  bif c2 then
  k (Out.ret (AVal.tuple [AVal.int IntKind.i64 (S p n1).fst, AVal.str (S p n1).snd]) [])
  else none
  else k (Out.ret (AVal.tuple [AVal.int IntKind.i64 15, AVal.str []]) [])
  else
  bif p == 12 then
  k (Out.ret (AVal.tuple [AVal.int IntKind.i64 (IntKind.i64.wrap (p - 1)), AVal.str []]) [])
  else
  bif c8 then
  bif c8 then
  bif c2 then
  k (Out.ret (AVal.tuple [AVal.int IntKind.i64 (S p n1).fst, AVal.str (S p n1).snd]) [])
  else none
  else k (Out.ret (AVal.tuple [AVal.int IntKind.i64 15, AVal.str []]) [])
  else
  bif p == 14 then
  bif c2 then
  k (Out.ret (AVal.tuple [AVal.int IntKind.i64 (S p n1).fst, AVal.str (S p n1).snd]) [])
  else none
  else k (Out.ret (AVal.tuple [AVal.int IntKind.i64 15, AVal.str []]) [])
  else
  bif p == 11 then
  bif c2 then k (Out.ret (AVal.tuple [AVal.int IntKind.i64 (M p n1), AVal.str []]) []) else none
  else
  bif c7 then
  bif c7 then
  k (Out.ret (AVal.tuple [AVal.int IntKind.i64 (IntKind.i64.wrap (p - 1)), AVal.str []]) [])
  else
  bif c8 then
  bif c8 then
  bif c2 then
  k (Out.ret (AVal.tuple [AVal.int IntKind.i64 (S p n1).fst, AVal.str (S p n1).snd]) [])
  else none
  else k (Out.ret (AVal.tuple [AVal.int IntKind.i64 15, AVal.str []]) [])
  else
  bif p == 14 then
  bif c2 then
  k (Out.ret (AVal.tuple [AVal.int IntKind.i64 (S p n1).fst, AVal.str (S p n1).snd]) [])
  else none
  else k (Out.ret (AVal.tuple [AVal.int IntKind.i64 15, AVal.str []]) [])
  else
  bif p == 12 then
  k (Out.ret (AVal.tuple [AVal.int IntKind.i64 (IntKind.i64.wrap (p - 1)), AVal.str []]) [])
  else
  bif c8 then
  bif c8 then
  bif c2 then
  k (Out.ret (AVal.tuple [AVal.int IntKind.i64 (S p n1).fst, AVal.str (S p n1).snd]) [])
  else none
  else k (Out.ret (AVal.tuple [AVal.int IntKind.i64 15, AVal.str []]) [])
  else
  bif p == 14 then
  bif c2 then
  k (Out.ret (AVal.tuple [AVal.int IntKind.i64 (S p n1).fst, AVal.str (S p n1).snd]) [])
  else none
  else k (Out.ret (AVal.tuple [AVal.int IntKind.i64 15, AVal.str []]) [])) := by kernel_rfl
end Go.Mu
set_option linter.unusedVariables false
set_option linter.unusedSimpArgs false
set_option maxRecDepth 100000
namespace Go.Mu
open Go Go.Proofs
theorem elm_fun (s : Bs) (k : Out → Ans) : iFun Tryz.prog (Lay.nil.hd Tryz.prog) Lay.nil.fhs 0 70 [.str s] [] k = (
 let c0 : Bool := s == [116, 105, 116, 108, 101];
 let c1 : Bool := s == [112, 108, 97, 105, 110, 116, 101, 120, 116];
 let c2 : Bool := s == [120, 109, 112];
 let c3 : Bool := s == [105, 102, 114, 97, 109, 101];
 let c4 : Bool := s == [110, 111, 101, 109, 98, 101, 100];
 let c5 : Bool := s == [110, 111, 102, 114, 97, 109, 101, 115];
  bif c0 then
  bif c0 then k (Out.ret (AVal.int IntKind.i64 1) [])
  else
  bif s == [115, 116, 121, 108, 101] then k (Out.ret (AVal.int IntKind.i64 2) [])
  else
  bif s == [115, 99, 114, 105, 112, 116] then k (Out.ret (AVal.int IntKind.i64 3) [])
  else
  bif c1 then bif c1 then k (Out.ret (AVal.int IntKind.i64 4) []) else k (Out.ret (AVal.int IntKind.i64 0) [])
  else
  bif c2 then bif c2 then k (Out.ret (AVal.int IntKind.i64 4) []) else k (Out.ret (AVal.int IntKind.i64 0) [])
  else
  bif c3 then bif c3 then k (Out.ret (AVal.int IntKind.i64 4) []) else k (Out.ret (AVal.int IntKind.i64 0) [])
  else
  bif c4 then
  bif c4 then k (Out.ret (AVal.int IntKind.i64 4) []) else k (Out.ret (AVal.int IntKind.i64 0) [])
  else
  bif c5 then
  bif c5 then k (Out.ret (AVal.int IntKind.i64 4) []) else k (Out.ret (AVal.int IntKind.i64 0) [])
  else
  bif s == [110, 111, 115, 99, 114, 105, 112, 116] then k (Out.ret (AVal.int IntKind.i64 4) [])
  else k (Out.ret (AVal.int IntKind.i64 0) [])
  else
  bif s == [116, 101, 120, 116, 97, 114, 101, 97] then k (Out.ret (AVal.int IntKind.i64 1) [])
  else
  bif s == [115, 116, 121, 108, 101] then k (Out.ret (AVal.int IntKind.i64 2) [])
  else
  bif s == [115, 99, 114, 105, 112, 116] then k (Out.ret (AVal.int IntKind.i64 3) [])
  else
  bif c1 then bif c1 then k (Out.ret (AVal.int IntKind.i64 4) []) else k (Out.ret (AVal.int IntKind.i64 0) [])
  else
  bif c2 then bif c2 then k (Out.ret (AVal.int IntKind.i64 4) []) else k (Out.ret (AVal.int IntKind.i64 0) [])
  else
  bif c3 then bif c3 then k (Out.ret (AVal.int IntKind.i64 4) []) else k (Out.ret (AVal.int IntKind.i64 0) [])
  else
  bif c4 then
  bif c4 then k (Out.ret (AVal.int IntKind.i64 4) []) else k (Out.ret (AVal.int IntKind.i64 0) [])
  else
  bif c5 then
  bif c5 then k (Out.ret (AVal.int IntKind.i64 4) []) else k (Out.ret (AVal.int IntKind.i64 0) [])
  else
  bif s == [110, 111, 115, 99, 114, 105, 112, 116] then k (Out.ret (AVal.int IntKind.i64 4) [])
  else k (Out.ret (AVal.int IntKind.i64 0) [])) := by kernel_rfl
theorem starts_fun (s a : Bs) (k : Out → Ans) : iFun Tryz.prog ((Lay.nil.addF 69 lowTold).hd Tryz.prog) (Lay.nil.addF 69 lowTold).fhs 0 71 [.str s, .str a] [] k = (
 let n0 : Int := (↑(List.length a) : Int);
 let n1 : Int := (↑(List.length s) : Int);
 let c2 : Bool := decide (n1 ≥ n0);
 let l3 : List UInt8 := List.drop (Int.toNat 0) (List.take n0.toNat s);
  bif decide (n0 ≤ n1) || !c2 then
  bif decide (l3.length ≤ 1099511627776) then
  bif decide (List.length a ≤ 1099511627776) then
  k (Out.ret (AVal.bool (bif c2 then lowM l3 == lowM a else false)) [])
  else none
  else none
  else none) := by kernel_rfl
theorem atr_fun (s a : Bs) (k : Out → Ans) : iFun Tryz.prog (Lay.nil.hd Tryz.prog) Lay.nil.fhs 0 44 [.str s, .str a] [] k = (
 let c0 : Bool := a == [104, 114, 101, 102];
 let c1 : Bool := a == [115, 114, 99, 100, 111, 99];
 let n2 : Int := (↑(List.length a) : Int);
 let c3 : Bool := decide (n2 ≥ 2);
 let c4 : Bool := decide (n2 ≥ 5);
 let c5 : Bool := a == [115, 114, 99, 115, 101, 116];
 let c6 : Bool := a == [104, 116, 116, 112, 45, 101, 113, 117, 105, 118];
 let c7 : Bool := a == [112, 105, 110, 103];
 let c8 : Bool := a == [115, 114, 99];
 let c9 : Bool := a == [97, 99, 116, 105, 111, 110];
 let c10 : Bool := a == [102, 111, 114, 109, 97, 99, 116, 105, 111, 110];
 let c11 : Bool := a == [99, 105, 116, 101];
 let c12 : Bool := a == [112, 111, 115, 116, 101, 114];
 let c13 : Bool := a == [98, 97, 99, 107, 103, 114, 111, 117, 110, 100];
 let c14 : Bool := a == [108, 111, 110, 103, 100, 101, 115, 99];
 let c15 : Bool := a == [109, 97, 110, 105, 102, 101, 115, 116];
  bif c0 then
  bif c0 then k (Out.ret (AVal.int IntKind.i64 1) [])
  else
  bif a == [100, 97, 116, 97] then
  bif s == [111, 98, 106, 101, 99, 116] then k (Out.ret (AVal.int IntKind.i64 1) [])
  else k (Out.ret (AVal.int IntKind.i64 0) [])
  else
  bif a == [115, 116, 121, 108, 101] then k (Out.ret (AVal.int IntKind.i64 3) [])
  else
  bif c1 then
  bif c1 then k (Out.ret (AVal.int IntKind.i64 4) [])
  else
  bif decide (2 ≤ n2) || !c3 then
  bif bif c3 then List.drop (Int.toNat 0) (List.take (Int.toNat 2) a) == [111, 110] else false then
  k (Out.ret (AVal.int IntKind.i64 2) [])
  else
  bif decide (5 ≤ n2) || !c4 then
  bif
  bif c4 then List.drop (Int.toNat 0) (List.take (Int.toNat 5) a) == [120, 109, 108, 110, 115]
  else false then
  k (Out.ret (AVal.int IntKind.i64 4) [])
  else k (Out.ret (AVal.int IntKind.i64 0) [])
  else none
  else none
  else
  bif c5 then
  bif c5 then k (Out.ret (AVal.int IntKind.i64 4) [])
  else
  bif decide (2 ≤ n2) || !c3 then
  bif bif c3 then List.drop (Int.toNat 0) (List.take (Int.toNat 2) a) == [111, 110] else false then
  k (Out.ret (AVal.int IntKind.i64 2) [])
  else
  bif decide (5 ≤ n2) || !c4 then
  bif
  bif c4 then List.drop (Int.toNat 0) (List.take (Int.toNat 5) a) == [120, 109, 108, 110, 115]
  else false then
  k (Out.ret (AVal.int IntKind.i64 4) [])
  else k (Out.ret (AVal.int IntKind.i64 0) [])
  else none
  else none
  else
  bif c6 then
  bif c6 then k (Out.ret (AVal.int IntKind.i64 4) [])
  else
  bif decide (2 ≤ n2) || !c3 then
  bif bif c3 then List.drop (Int.toNat 0) (List.take (Int.toNat 2) a) == [111, 110] else false then
  k (Out.ret (AVal.int IntKind.i64 2) [])
  else
  bif decide (5 ≤ n2) || !c4 then
  bif
  bif c4 then List.drop (Int.toNat 0) (List.take (Int.toNat 5) a) == [120, 109, 108, 110, 115]
  else false then
  k (Out.ret (AVal.int IntKind.i64 4) [])
  else k (Out.ret (AVal.int IntKind.i64 0) [])
  else none
  else none
  else
  bif c7 then
  bif c7 then k (Out.ret (AVal.int IntKind.i64 4) [])
  else
  bif decide (2 ≤ n2) || !c3 then
  bif bif c3 then List.drop (Int.toNat 0) (List.take (Int.toNat 2) a) == [111, 110] else false then
  k (Out.ret (AVal.int IntKind.i64 2) [])
  else
  bif decide (5 ≤ n2) || !c4 then
  bif
  bif c4 then List.drop (Int.toNat 0) (List.take (Int.toNat 5) a) == [120, 109, 108, 110, 115]
  else false then
  k (Out.ret (AVal.int IntKind.i64 4) [])
  else k (Out.ret (AVal.int IntKind.i64 0) [])
  else none
  else none
  else
  bif a == [] then k (Out.ret (AVal.int IntKind.i64 4) [])
  else
  bif decide (2 ≤ n2) || !c3 then
  bif bif c3 then List.drop (Int.toNat 0) (List.take (Int.toNat 2) a) == [111, 110] else false then
  k (Out.ret (AVal.int IntKind.i64 2) [])
  else
  bif decide (5 ≤ n2) || !c4 then
  bif
  bif c4 then List.drop (Int.toNat 0) (List.take (Int.toNat 5) a) == [120, 109, 108, 110, 115]
  else false then
  k (Out.ret (AVal.int IntKind.i64 4) [])
  else k (Out.ret (AVal.int IntKind.i64 0) [])
  else none
  else none
  else
  bif c8 then
  bif c8 then k (Out.ret (AVal.int IntKind.i64 1) [])
  else
  bif a == [100, 97, 116, 97] then
  bif s == [111, 98, 106, 101, 99, 116] then k (Out.ret (AVal.int IntKind.i64 1) [])
  else k (Out.ret (AVal.int IntKind.i64 0) [])
  else
  bif a == [115, 116, 121, 108, 101] then k (Out.ret (AVal.int IntKind.i64 3) [])
  else
  bif c1 then
  bif c1 then k (Out.ret (AVal.int IntKind.i64 4) [])
  else
  bif decide (2 ≤ n2) || !c3 then
  bif bif c3 then List.drop (Int.toNat 0) (List.take (Int.toNat 2) a) == [111, 110] else false then
  k (Out.ret (AVal.int IntKind.i64 2) [])
  else
  bif decide (5 ≤ n2) || !c4 then
  bif
  bif c4 then List.drop (Int.toNat 0) (List.take (Int.toNat 5) a) == [120, 109, 108, 110, 115]
  else false then
  k (Out.ret (AVal.int IntKind.i64 4) [])
  else k (Out.ret (AVal.int IntKind.i64 0) [])
  else none
  else none
  else
  bif c5 then
  bif c5 then k (Out.ret (AVal.int IntKind.i64 4) [])
  else
  bif decide (2 ≤ n2) || !c3 then
  bif bif c3 then List.drop (Int.toNat 0) (List.take (Int.toNat 2) a) == [111, 110] else false then
  k (Out.ret (AVal.int IntKind.i64 2) [])
  else
  bif decide (5 ≤ n2) || !c4 then
  bif
  bif c4 then List.drop (Int.toNat 0) (List.take (Int.toNat 5) a) == [120, 109, 108, 110, 115]
  else false then
  k (Out.ret (AVal.int IntKind.i64 4) [])
  else k (Out.ret (AVal.int IntKind.i64 0) [])
  else none
  else none
  else
  bif c6 then
  bif c6 then k (Out.ret (AVal.int IntKind.i64 4) [])
  else
  bif decide (2 ≤ n2) || !c3 then
  bif bif c3 then List.drop (Int.toNat 0) (List.take (Int.toNat 2) a) == [111, 110] else false then
  k (Out.ret (AVal.int IntKind.i64 2) [])
  else
  bif decide (5 ≤ n2) || !c4 then
  bif
  bif c4 then List.drop (Int.toNat 0) (List.take (Int.toNat 5) a) == [120, 109, 108, 110, 115]
  else false then
  k (Out.ret (AVal.int IntKind.i64 4) [])
  else k (Out.ret (AVal.int IntKind.i64 0) [])
  else none
  else none
  else
  bif c7 then
  bif c7 then k (Out.ret (AVal.int IntKind.i64 4) [])
  else
  bif decide (2 ≤ n2) || !c3 then
  bif bif c3 then List.drop (Int.toNat 0) (List.take (Int.toNat 2) a) == [111, 110] else false then
  k (Out.ret (AVal.int IntKind.i64 2) [])
  else
  bif decide (5 ≤ n2) || !c4 then
  bif
  bif c4 then
  List.drop (Int.toNat 0) (List.take (Int.toNat 5) a) == [120, 109, 108, 110, 115]
  else false then
  k (Out.ret (AVal.int IntKind.i64 4) [])
  else k (Out.ret (AVal.int IntKind.i64 0) [])
  else none
  else none
  else
  bif a == [] then k (Out.ret (AVal.int IntKind.i64 4) [])
  else
  bif decide (2 ≤ n2) || !c3 then
  bif bif c3 then List.drop (Int.toNat 0) (List.take (Int.toNat 2) a) == [111, 110] else false then
  k (Out.ret (AVal.int IntKind.i64 2) [])
  else
  bif decide (5 ≤ n2) || !c4 then
  bif
  bif c4 then
  List.drop (Int.toNat 0) (List.take (Int.toNat 5) a) == [120, 109, 108, 110, 115]
  else false then
  k (Out.ret (AVal.int IntKind.i64 4) [])
  else k (Out.ret (AVal.int IntKind.i64 0) [])
  else none
  else none
  else
  bif c9 then
  bif c9 then k (Out.ret (AVal.int IntKind.i64 1) [])
  else
  bif a == [100, 97, 116, 97] then
  bif s == [111, 98, 106, 101, 99, 116] then k (Out.ret (AVal.int IntKind.i64 1) [])
  else k (Out.ret (AVal.int IntKind.i64 0) [])
  else
  bif a == [115, 116, 121, 108, 101] then k (Out.ret (AVal.int IntKind.i64 3) [])
  else
  bif c1 then
  bif c1 then k (Out.ret (AVal.int IntKind.i64 4) [])
  else
  bif decide (2 ≤ n2) || !c3 then
  bif bif c3 then List.drop (Int.toNat 0) (List.take (Int.toNat 2) a) == [111, 110] else false then
  k (Out.ret (AVal.int IntKind.i64 2) [])
  else
  bif decide (5 ≤ n2) || !c4 then
  bif
  bif c4 then List.drop (Int.toNat 0) (List.take (Int.toNat 5) a) == [120, 109, 108, 110, 115]
  else false then
  k (Out.ret (AVal.int IntKind.i64 4) [])
  else k (Out.ret (AVal.int IntKind.i64 0) [])
  else none
  else none
  else
  bif c5 then
  bif c5 then k (Out.ret (AVal.int IntKind.i64 4) [])
  else
  bif decide (2 ≤ n2) || !c3 then
  bif bif c3 then List.drop (Int.toNat 0) (List.take (Int.toNat 2) a) == [111, 110] else false then
  k (Out.ret (AVal.int IntKind.i64 2) [])
  else
  bif decide (5 ≤ n2) || !c4 then
  bif
  bif c4 then List.drop (Int.toNat 0) (List.take (Int.toNat 5) a) == [120, 109, 108, 110, 115]
  else false then
  k (Out.ret (AVal.int IntKind.i64 4) [])
  else k (Out.ret (AVal.int IntKind.i64 0) [])
  else none
  else none
  else
  bif c6 then
  bif c6 then k (Out.ret (AVal.int IntKind.i64 4) [])
  else
  bif decide (2 ≤ n2) || !c3 then
  bif bif c3 then List.drop (Int.toNat 0) (List.take (Int.toNat 2) a) == [111, 110] else false then
  k (Out.ret (AVal.int IntKind.i64 2) [])
  else
  bif decide (5 ≤ n2) || !c4 then
  bif
  bif c4 then
  List.drop (Int.toNat 0) (List.take (Int.toNat 5) a) == [120, 109, 108, 110, 115]
  else false then
  k (Out.ret (AVal.int IntKind.i64 4) [])
  else k (Out.ret (AVal.int IntKind.i64 0) [])
  else none
  else none
  else
  bif c7 then
  bif c7 then k (Out.ret (AVal.int IntKind.i64 4) [])
  else
  bif decide (2 ≤ n2) || !c3 then
  bif
  bif c3 then List.drop (Int.toNat 0) (List.take (Int.toNat 2) a) == [111, 110]
  else false then
  k (Out.ret (AVal.int IntKind.i64 2) [])
  else
  bif decide (5 ≤ n2) || !c4 then
  bif
  bif c4 then
  List.drop (Int.toNat 0) (List.take (Int.toNat 5) a) == [120, 109, 108, 110, 115]
  else false then
  k (Out.ret (AVal.int IntKind.i64 4) [])
  else k (Out.ret (AVal.int IntKind.i64 0) [])
  else none
  else none
  else
  bif a == [] then k (Out.ret (AVal.int IntKind.i64 4) [])
  else
  bif decide (2 ≤ n2) || !c3 then
  bif
  bif c3 then List.drop (Int.toNat 0) (List.take (Int.toNat 2) a) == [111, 110]
  else false then
  k (Out.ret (AVal.int IntKind.i64 2) [])
  else
  bif decide (5 ≤ n2) || !c4 then
  bif
  bif c4 then
  List.drop (Int.toNat 0) (List.take (Int.toNat 5) a) == [120, 109, 108, 110, 115]
  else false then
  k (Out.ret (AVal.int IntKind.i64 4) [])
  else k (Out.ret (AVal.int IntKind.i64 0) [])
  else none
  else none
  else
  bif c10 then
  bif c10 then k (Out.ret (AVal.int IntKind.i64 1) [])
  else
  bif a == [100, 97, 116, 97] then
  bif s == [111, 98, 106, 101, 99, 116] then k (Out.ret (AVal.int IntKind.i64 1) [])
  else k (Out.ret (AVal.int IntKind.i64 0) [])
  else
  bif a == [115, 116, 121, 108, 101] then k (Out.ret (AVal.int IntKind.i64 3) [])
  else
  bif c1 then
  bif c1 then k (Out.ret (AVal.int IntKind.i64 4) [])
  else
  bif decide (2 ≤ n2) || !c3 then
  bif bif c3 then List.drop (Int.toNat 0) (List.take (Int.toNat 2) a) == [111, 110] else false then
  k (Out.ret (AVal.int IntKind.i64 2) [])
  else
  bif decide (5 ≤ n2) || !c4 then
  bif
  bif c4 then List.drop (Int.toNat 0) (List.take (Int.toNat 5) a) == [120, 109, 108, 110, 115]
  else false then
  k (Out.ret (AVal.int IntKind.i64 4) [])
  else k (Out.ret (AVal.int IntKind.i64 0) [])
  else none
  else none
  else
  bif c5 then
  bif c5 then k (Out.ret (AVal.int IntKind.i64 4) [])
  else
  bif decide (2 ≤ n2) || !c3 then
  bif bif c3 then List.drop (Int.toNat 0) (List.take (Int.toNat 2) a) == [111, 110] else false then
  k (Out.ret (AVal.int IntKind.i64 2) [])
  else
  bif decide (5 ≤ n2) || !c4 then
  bif
  bif c4 then
  List.drop (Int.toNat 0) (List.take (Int.toNat 5) a) == [120, 109, 108, 110, 115]
  else false then
  k (Out.ret (AVal.int IntKind.i64 4) [])
  else k (Out.ret (AVal.int IntKind.i64 0) [])
  else none
  else none
  else
  bif c6 then
  bif c6 then k (Out.ret (AVal.int IntKind.i64 4) [])
  else
  bif decide (2 ≤ n2) || !c3 then
  bif
  bif c3 then List.drop (Int.toNat 0) (List.take (Int.toNat 2) a) == [111, 110]
  else false then
  k (Out.ret (AVal.int IntKind.i64 2) [])
  else
  bif decide (5 ≤ n2) || !c4 then
  bif
  bif c4 then
  List.drop (Int.toNat 0) (List.take (Int.toNat 5) a) == [120, 109, 108, 110, 115]
  else false then
  k (Out.ret (AVal.int IntKind.i64 4) [])
  else k (Out.ret (AVal.int IntKind.i64 0) [])
  else none
  else none
  else
  bif c7 then
  bif c7 then k (Out.ret (AVal.int IntKind.i64 4) [])
  else
  bif decide (2 ≤ n2) || !c3 then
  bif
  bif c3 then List.drop (Int.toNat 0) (List.take (Int.toNat 2) a) == [111, 110]
  else false then
  k (Out.ret (AVal.int IntKind.i64 2) [])
  else
  bif decide (5 ≤ n2) || !c4 then
  bif
  bif c4 then
  List.drop (Int.toNat 0) (List.take (Int.toNat 5) a) == [120, 109, 108, 110, 115]
  else false then
  k (Out.ret (AVal.int IntKind.i64 4) [])
  else k (Out.ret (AVal.int IntKind.i64 0) [])
  else none
  else none
  else
  bif a == [] then k (Out.ret (AVal.int IntKind.i64 4) [])
  else
  bif decide (2 ≤ n2) || !c3 then
  bif
  bif c3 then List.drop (Int.toNat 0) (List.take (Int.toNat 2) a) == [111, 110]
  else false then
  k (Out.ret (AVal.int IntKind.i64 2) [])
  else
  bif decide (5 ≤ n2) || !c4 then
  bif
  bif c4 then
  List.drop (Int.toNat 0) (List.take (Int.toNat 5) a) == [120, 109, 108, 110, 115]
  else false then
  k (Out.ret (AVal.int IntKind.i64 4) [])
  else k (Out.ret (AVal.int IntKind.i64 0) [])
  else none
  else none
  else
  bif c11 then
  bif c11 then k (Out.ret (AVal.int IntKind.i64 1) [])
  else
  bif a == [100, 97, 116, 97] then
  bif s == [111, 98, 106, 101, 99, 116] then k (Out.ret (AVal.int IntKind.i64 1) [])
  else k (Out.ret (AVal.int IntKind.i64 0) [])
  else
  bif a == [115, 116, 121, 108, 101] then k (Out.ret (AVal.int IntKind.i64 3) [])
  else
  bif c1 then
  bif c1 then k (Out.ret (AVal.int IntKind.i64 4) [])
  else
  bif decide (2 ≤ n2) || !c3 then
  bif bif c3 then List.drop (Int.toNat 0) (List.take (Int.toNat 2) a) == [111, 110] else false then
  k (Out.ret (AVal.int IntKind.i64 2) [])
  else
  bif decide (5 ≤ n2) || !c4 then
  bif
  bif c4 then
  List.drop (Int.toNat 0) (List.take (Int.toNat 5) a) == [120, 109, 108, 110, 115]
  else false then
  k (Out.ret (AVal.int IntKind.i64 4) [])
  else k (Out.ret (AVal.int IntKind.i64 0) [])
  else none
  else none
  else
  bif c5 then
  bif c5 then k (Out.ret (AVal.int IntKind.i64 4) [])
  else
  bif decide (2 ≤ n2) || !c3 then
  bif
  bif c3 then List.drop (Int.toNat 0) (List.take (Int.toNat 2) a) == [111, 110]
  else false then
  k (Out.ret (AVal.int IntKind.i64 2) [])
  else
  bif decide (5 ≤ n2) || !c4 then
  bif
  bif c4 then
  List.drop (Int.toNat 0) (List.take (Int.toNat 5) a) == [120, 109, 108, 110, 115]
  else false then
  k (Out.ret (AVal.int IntKind.i64 4) [])
  else k (Out.ret (AVal.int IntKind.i64 0) [])
  else none
  else none
  else
  bif c6 then
  bif c6 then k (Out.ret (AVal.int IntKind.i64 4) [])
  else
  bif decide (2 ≤ n2) || !c3 then
  bif
  bif c3 then List.drop (Int.toNat 0) (List.take (Int.toNat 2) a) == [111, 110]
  else false then
  k (Out.ret (AVal.int IntKind.i64 2) [])
  else
  bif decide (5 ≤ n2) || !c4 then
  bif
  bif c4 then
  List.drop (Int.toNat 0) (List.take (Int.toNat 5) a) == [120, 109, 108, 110, 115]
  else false then
  k (Out.ret (AVal.int IntKind.i64 4) [])
  else k (Out.ret (AVal.int IntKind.i64 0) [])
  else none
  else none
  else
  bif c7 then
  bif c7 then k (Out.ret (AVal.int IntKind.i64 4) [])
  else
  bif decide (2 ≤ n2) || !c3 then
  bif
  bif c3 then List.drop (Int.toNat 0) (List.take (Int.toNat 2) a) == [111, 110]
  else false then
  k (Out.ret (AVal.int IntKind.i64 2) [])
  else
  bif decide (5 ≤ n2) || !c4 then
  bif
  bif c4 then
  List.drop (Int.toNat 0) (List.take (Int.toNat 5) a) == [120, 109, 108, 110, 115]
  else false then
  k (Out.ret (AVal.int IntKind.i64 4) [])
  else k (Out.ret (AVal.int IntKind.i64 0) [])
  else none
  else none
  else
  bif a == [] then k (Out.ret (AVal.int IntKind.i64 4) [])
  else
  bif decide (2 ≤ n2) || !c3 then
  bif
  bif c3 then List.drop (Int.toNat 0) (List.take (Int.toNat 2) a) == [111, 110]
  else false then
  k (Out.ret (AVal.int IntKind.i64 2) [])
  else
  bif decide (5 ≤ n2) || !c4 then
  bif
  bif c4 then
  List.drop (Int.toNat 0) (List.take (Int.toNat 5) a) == [120, 109, 108, 110, 115]
  else false then
  k (Out.ret (AVal.int IntKind.i64 4) [])
  else k (Out.ret (AVal.int IntKind.i64 0) [])
  else none
  else none
  else
  bif c12 then
  bif c12 then k (Out.ret (AVal.int IntKind.i64 1) [])
  else
  bif a == [100, 97, 116, 97] then
  bif s == [111, 98, 106, 101, 99, 116] then k (Out.ret (AVal.int IntKind.i64 1) [])
  else k (Out.ret (AVal.int IntKind.i64 0) [])
  else
  bif a == [115, 116, 121, 108, 101] then k (Out.ret (AVal.int IntKind.i64 3) [])
  else
  bif c1 then
  bif c1 then k (Out.ret (AVal.int IntKind.i64 4) [])
  else
  bif decide (2 ≤ n2) || !c3 then
  bif
  bif c3 then List.drop (Int.toNat 0) (List.take (Int.toNat 2) a) == [111, 110]
  else false then
  k (Out.ret (AVal.int IntKind.i64 2) [])
  else
  bif decide (5 ≤ n2) || !c4 then
  bif
  bif c4 then
  List.drop (Int.toNat 0) (List.take (Int.toNat 5) a) == [120, 109, 108, 110, 115]
  else false then
  k (Out.ret (AVal.int IntKind.i64 4) [])
  else k (Out.ret (AVal.int IntKind.i64 0) [])
  else none
  else none
  else
  bif c5 then
  bif c5 then k (Out.ret (AVal.int IntKind.i64 4) [])
  else
  bif decide (2 ≤ n2) || !c3 then
  bif
  bif c3 then List.drop (Int.toNat 0) (List.take (Int.toNat 2) a) == [111, 110]
  else false then
  k (Out.ret (AVal.int IntKind.i64 2) [])
  else
  bif decide (5 ≤ n2) || !c4 then
  bif
  bif c4 then
  List.drop (Int.toNat 0) (List.take (Int.toNat 5) a) == [120, 109, 108, 110, 115]
  else false then
  k (Out.ret (AVal.int IntKind.i64 4) [])
  else k (Out.ret (AVal.int IntKind.i64 0) [])
  else none
  else none
  else
  bif c6 then
  bif c6 then k (Out.ret (AVal.int IntKind.i64 4) [])
  else
  bif decide (2 ≤ n2) || !c3 then
  bif
  bif c3 then List.drop (Int.toNat 0) (List.take (Int.toNat 2) a) == [111, 110]
  else false then
  k (Out.ret (AVal.int IntKind.i64 2) [])
  else
  bif decide (5 ≤ n2) || !c4 then
  bif
  bif c4 then
  List.drop (Int.toNat 0) (List.take (Int.toNat 5) a) == [120, 109, 108, 110, 115]
  else false then
  k (Out.ret (AVal.int IntKind.i64 4) [])
  else k (Out.ret (AVal.int IntKind.i64 0) [])
  else none
  else none
  else
  bif c7 then
  bif c7 then k (Out.ret (AVal.int IntKind.i64 4) [])
  else
  bif decide (2 ≤ n2) || !c3 then
  bif
  bif c3 then List.drop (Int.toNat 0) (List.take (Int.toNat 2) a) == [111, 110]
  else false then
  k (Out.ret (AVal.int IntKind.i64 2) [])
  else
  bif decide (5 ≤ n2) || !c4 then
  bif
  bif c4 then
  List.drop (Int.toNat 0) (List.take (Int.toNat 5) a) == [120, 109, 108, 110, 115]
  else false then
  k (Out.ret (AVal.int IntKind.i64 4) [])
  else k (Out.ret (AVal.int IntKind.i64 0) [])
  else none
  else none
  else
  bif a == [] then k (Out.ret (AVal.int IntKind.i64 4) [])
  else
  bif decide (2 ≤ n2) || !c3 then
  bif
  bif c3 then List.drop (Int.toNat 0) (List.take (Int.toNat 2) a) == [111, 110]
  else false then
  k (Out.ret (AVal.int IntKind.i64 2) [])
  else
  bif decide (5 ≤ n2) || !c4 then
  bif
  bif c4 then
  List.drop (Int.toNat 0) (List.take (Int.toNat 5) a) == [120, 109, 108, 110, 115]
  else false then
  k (Out.ret (AVal.int IntKind.i64 4) [])
  else k (Out.ret (AVal.int IntKind.i64 0) [])
  else none
  else none
  else
  bif c13 then
  bif c13 then k (Out.ret (AVal.int IntKind.i64 1) [])
  else
  bif a == [100, 97, 116, 97] then
  bif s == [111, 98, 106, 101, 99, 116] then k (Out.ret (AVal.int IntKind.i64 1) [])
  else k (Out.ret (AVal.int IntKind.i64 0) [])
  else
  bif a == [115, 116, 121, 108, 101] then k (Out.ret (AVal.int IntKind.i64 3) [])
  else
  bif c1 then
  bif c1 then k (Out.ret (AVal.int IntKind.i64 4) [])
  else
  bif decide (2 ≤ n2) || !c3 then
  bif
  bif c3 then List.drop (Int.toNat 0) (List.take (Int.toNat 2) a) == [111, 110]
  else false then
  k (Out.ret (AVal.int IntKind.i64 2) [])
  else
  bif decide (5 ≤ n2) || !c4 then
  bif
  bif c4 then
  List.drop (Int.toNat 0) (List.take (Int.toNat 5) a) == [120, 109, 108, 110, 115]
  else false then
  k (Out.ret (AVal.int IntKind.i64 4) [])
  else k (Out.ret (AVal.int IntKind.i64 0) [])
  else none
  else none
  else
  bif c5 then
  bif c5 then k (Out.ret (AVal.int IntKind.i64 4) [])
  else
  bif decide (2 ≤ n2) || !c3 then
  bif
  bif c3 then List.drop (Int.toNat 0) (List.take (Int.toNat 2) a) == [111, 110]
  else false then
  k (Out.ret (AVal.int IntKind.i64 2) [])
  else
  bif decide (5 ≤ n2) || !c4 then
  bif
  bif c4 then
  List.drop (Int.toNat 0) (List.take (Int.toNat 5) a) == [120, 109, 108, 110, 115]
  else false then
  k (Out.ret (AVal.int IntKind.i64 4) [])
  else k (Out.ret (AVal.int IntKind.i64 0) [])
  else none
  else none
  else
  bif c6 then
  bif c6 then k (Out.ret (AVal.int IntKind.i64 4) [])
  else
  bif decide (2 ≤ n2) || !c3 then
  bif
  bif c3 then List.drop (Int.toNat 0) (List.take (Int.toNat 2) a) == [111, 110]
  else false then
  k (Out.ret (AVal.int IntKind.i64 2) [])
  else
  bif decide (5 ≤ n2) || !c4 then
  bif
  bif c4 then
  List.drop (Int.toNat 0) (List.take (Int.toNat 5) a) == [120, 109, 108, 110, 115]
  else false then
  k (Out.ret (AVal.int IntKind.i64 4) [])
  else k (Out.ret (AVal.int IntKind.i64 0) [])
  else none
  else none
  else
  bif c7 then
  bif c7 then k (Out.ret (AVal.int IntKind.i64 4) [])
  else
  bif decide (2 ≤ n2) || !c3 then
  bif
  bif c3 then List.drop (Int.toNat 0) (List.take (Int.toNat 2) a) == [111, 110]
  else false then
  k (Out.ret (AVal.int IntKind.i64 2) [])
  else
  bif decide (5 ≤ n2) || !c4 then
  bif
  bif c4 then
  List.drop (Int.toNat 0) (List.take (Int.toNat 5) a) ==
  [120, 109, 108, 110, 115]
  else false then
  k (Out.ret (AVal.int IntKind.i64 4) [])
  else k (Out.ret (AVal.int IntKind.i64 0) [])
  else none
  else none
  else
  bif a == [] then k (Out.ret (AVal.int IntKind.i64 4) [])
  else
  bif decide (2 ≤ n2) || !c3 then
  bif
  bif c3 then List.drop (Int.toNat 0) (List.take (Int.toNat 2) a) == [111, 110]
  else false then
  k (Out.ret (AVal.int IntKind.i64 2) [])
  else
  bif decide (5 ≤ n2) || !c4 then
  bif
  bif c4 then
  List.drop (Int.toNat 0) (List.take (Int.toNat 5) a) ==
  [120, 109, 108, 110, 115]
  else false then
  k (Out.ret (AVal.int IntKind.i64 4) [])
  else k (Out.ret (AVal.int IntKind.i64 0) [])
  else none
  else none
  else
  bif c14 then
  bif c14 then k (Out.ret (AVal.int IntKind.i64 1) [])
  else
  bif a == [100, 97, 116, 97] then
  bif s == [111, 98, 106, 101, 99, 116] then k (Out.ret (AVal.int IntKind.i64 1) [])
  else k (Out.ret (AVal.int IntKind.i64 0) [])
  else
  bif a == [115, 116, 121, 108, 101] then k (Out.ret (AVal.int IntKind.i64 3) [])
  else
  bif c1 then
  bif c1 then k (Out.ret (AVal.int IntKind.i64 4) [])
  else
  bif decide (2 ≤ n2) || !c3 then
  bif
  bif c3 then List.drop (Int.toNat 0) (List.take (Int.toNat 2) a) == [111, 110]
  else false then
  k (Out.ret (AVal.int IntKind.i64 2) [])
  else
  bif decide (5 ≤ n2) || !c4 then
  bif
  bif c4 then
  List.drop (Int.toNat 0) (List.take (Int.toNat 5) a) == [120, 109, 108, 110, 115]
  else false then
  k (Out.ret (AVal.int IntKind.i64 4) [])
  else k (Out.ret (AVal.int IntKind.i64 0) [])
  else none
  else none
  else
  bif c5 then
  bif c5 then k (Out.ret (AVal.int IntKind.i64 4) [])
  else
  bif decide (2 ≤ n2) || !c3 then
  bif
  bif c3 then List.drop (Int.toNat 0) (List.take (Int.toNat 2) a) == [111, 110]
  else false then
  k (Out.ret (AVal.int IntKind.i64 2) [])
  else
  bif decide (5 ≤ n2) || !c4 then
  bif
  bif c4 then
  List.drop (Int.toNat 0) (List.take (Int.toNat 5) a) == [120, 109, 108, 110, 115]
  else false then
  k (Out.ret (AVal.int IntKind.i64 4) [])
  else k (Out.ret (AVal.int IntKind.i64 0) [])
  else none
  else none
  else
  bif c6 then
  bif c6 then k (Out.ret (AVal.int IntKind.i64 4) [])
  else
  bif decide (2 ≤ n2) || !c3 then
  bif
  bif c3 then List.drop (Int.toNat 0) (List.take (Int.toNat 2) a) == [111, 110]
  else false then
  k (Out.ret (AVal.int IntKind.i64 2) [])
  else
  bif decide (5 ≤ n2) || !c4 then
  bif
  bif c4 then
  List.drop (Int.toNat 0) (List.take (Int.toNat 5) a) ==
  [120, 109, 108, 110, 115]
  else false then
  k (Out.ret (AVal.int IntKind.i64 4) [])
  else k (Out.ret (AVal.int IntKind.i64 0) [])
  else none
  else none
  else
  bif c7 then
  bif c7 then k (Out.ret (AVal.int IntKind.i64 4) [])
  else
  bif decide (2 ≤ n2) || !c3 then
  bif
  bif c3 then List.drop (Int.toNat 0) (List.take (Int.toNat 2) a) == [111, 110]
  else false then
  k (Out.ret (AVal.int IntKind.i64 2) [])
  else
  bif decide (5 ≤ n2) || !c4 then
  bif
  bif c4 then
  List.drop (Int.toNat 0) (List.take (Int.toNat 5) a) ==
  [120, 109, 108, 110, 115]
  else false then
  k (Out.ret (AVal.int IntKind.i64 4) [])
  else k (Out.ret (AVal.int IntKind.i64 0) [])
  else none
  else none
  else
  bif a == [] then k (Out.ret (AVal.int IntKind.i64 4) [])
  else
  bif decide (2 ≤ n2) || !c3 then
  bif
  bif c3 then List.drop (Int.toNat 0) (List.take (Int.toNat 2) a) == [111, 110]
  else false then
  k (Out.ret (AVal.int IntKind.i64 2) [])
  else
  bif decide (5 ≤ n2) || !c4 then
  bif
  bif c4 then
  List.drop (Int.toNat 0) (List.take (Int.toNat 5) a) ==
  [120, 109, 108, 110, 115]
  else false then
  k (Out.ret (AVal.int IntKind.i64 4) [])
  else k (Out.ret (AVal.int IntKind.i64 0) [])
  else none
  else none
  else
  bif c15 then
  bif c15 then k (Out.ret (AVal.int IntKind.i64 1) [])
  else
  bif a == [100, 97, 116, 97] then
  bif s == [111, 98, 106, 101, 99, 116] then k (Out.ret (AVal.int IntKind.i64 1) [])
  else k (Out.ret (AVal.int IntKind.i64 0) [])
  else
  bif a == [115, 116, 121, 108, 101] then k (Out.ret (AVal.int IntKind.i64 3) [])
  else
  bif c1 then
  bif c1 then k (Out.ret (AVal.int IntKind.i64 4) [])
  else
  bif decide (2 ≤ n2) || !c3 then
  bif
  bif c3 then List.drop (Int.toNat 0) (List.take (Int.toNat 2) a) == [111, 110]
  else false then
  k (Out.ret (AVal.int IntKind.i64 2) [])
  else
  bif decide (5 ≤ n2) || !c4 then
  bif
  bif c4 then
  List.drop (Int.toNat 0) (List.take (Int.toNat 5) a) == [120, 109, 108, 110, 115]
  else false then
  k (Out.ret (AVal.int IntKind.i64 4) [])
  else k (Out.ret (AVal.int IntKind.i64 0) [])
  else none
  else none
  else
  bif c5 then
  bif c5 then k (Out.ret (AVal.int IntKind.i64 4) [])
  else
  bif decide (2 ≤ n2) || !c3 then
  bif
  bif c3 then List.drop (Int.toNat 0) (List.take (Int.toNat 2) a) == [111, 110]
  else false then
  k (Out.ret (AVal.int IntKind.i64 2) [])
  else
  bif decide (5 ≤ n2) || !c4 then
  bif
  bif c4 then
  List.drop (Int.toNat 0) (List.take (Int.toNat 5) a) ==
  [120, 109, 108, 110, 115]
  else false then
  k (Out.ret (AVal.int IntKind.i64 4) [])
  else k (Out.ret (AVal.int IntKind.i64 0) [])
  else none
  else none
  else
  bif c6 then
  bif c6 then k (Out.ret (AVal.int IntKind.i64 4) [])
  else
  bif decide (2 ≤ n2) || !c3 then
  bif
  bif c3 then List.drop (Int.toNat 0) (List.take (Int.toNat 2) a) == [111, 110]
  else false then
  k (Out.ret (AVal.int IntKind.i64 2) [])
  else
  bif decide (5 ≤ n2) || !c4 then
  bif
  bif c4 then
  List.drop (Int.toNat 0) (List.take (Int.toNat 5) a) ==
  [120, 109, 108, 110, 115]
  else false then
  k (Out.ret (AVal.int IntKind.i64 4) [])
  else k (Out.ret (AVal.int IntKind.i64 0) [])
  else none
  else none
  else
  bif c7 then
  bif c7 then k (Out.ret (AVal.int IntKind.i64 4) [])
  else
  bif decide (2 ≤ n2) || !c3 then
  bif
  bif c3 then List.drop (Int.toNat 0) (List.take (Int.toNat 2) a) == [111, 110]
  else false then
  k (Out.ret (AVal.int IntKind.i64 2) [])
  else
  bif decide (5 ≤ n2) || !c4 then
  bif
  bif c4 then
  List.drop (Int.toNat 0) (List.take (Int.toNat 5) a) ==
  [120, 109, 108, 110, 115]
  else false then
  k (Out.ret (AVal.int IntKind.i64 4) [])
  else k (Out.ret (AVal.int IntKind.i64 0) [])
  else none
  else none
  else
  bif a == [] then k (Out.ret (AVal.int IntKind.i64 4) [])
  else
  bif decide (2 ≤ n2) || !c3 then
  bif
  bif c3 then List.drop (Int.toNat 0) (List.take (Int.toNat 2) a) == [111, 110]
  else false then
  k (Out.ret (AVal.int IntKind.i64 2) [])
  else
  bif decide (5 ≤ n2) || !c4 then
  bif
  bif c4 then
  List.drop (Int.toNat 0) (List.take (Int.toNat 5) a) ==
  [120, 109, 108, 110, 115]
  else false then
  k (Out.ret (AVal.int IntKind.i64 4) [])
  else k (Out.ret (AVal.int IntKind.i64 0) [])
  else none
  else none
  else
  bif a == [105, 99, 111, 110] then k (Out.ret (AVal.int IntKind.i64 1) [])
  else
  bif a == [100, 97, 116, 97] then
  bif s == [111, 98, 106, 101, 99, 116] then k (Out.ret (AVal.int IntKind.i64 1) [])
  else k (Out.ret (AVal.int IntKind.i64 0) [])
  else
  bif a == [115, 116, 121, 108, 101] then k (Out.ret (AVal.int IntKind.i64 3) [])
  else
  bif c1 then
  bif c1 then k (Out.ret (AVal.int IntKind.i64 4) [])
  else
  bif decide (2 ≤ n2) || !c3 then
  bif
  bif c3 then List.drop (Int.toNat 0) (List.take (Int.toNat 2) a) == [111, 110]
  else false then
  k (Out.ret (AVal.int IntKind.i64 2) [])
  else
  bif decide (5 ≤ n2) || !c4 then
  bif
  bif c4 then
  List.drop (Int.toNat 0) (List.take (Int.toNat 5) a) == [120, 109, 108, 110, 115]
  else false then
  k (Out.ret (AVal.int IntKind.i64 4) [])
  else k (Out.ret (AVal.int IntKind.i64 0) [])
  else none
  else none
  else
  bif c5 then
  bif c5 then k (Out.ret (AVal.int IntKind.i64 4) [])
  else
  bif decide (2 ≤ n2) || !c3 then
  bif
  bif c3 then List.drop (Int.toNat 0) (List.take (Int.toNat 2) a) == [111, 110]
  else false then
  k (Out.ret (AVal.int IntKind.i64 2) [])
  else
  bif decide (5 ≤ n2) || !c4 then
  bif
  bif c4 then
  List.drop (Int.toNat 0) (List.take (Int.toNat 5) a) ==
  [120, 109, 108, 110, 115]
  else false then
  k (Out.ret (AVal.int IntKind.i64 4) [])
  else k (Out.ret (AVal.int IntKind.i64 0) [])
  else none
  else none
  else
  bif c6 then
  bif c6 then k (Out.ret (AVal.int IntKind.i64 4) [])
  else
  bif decide (2 ≤ n2) || !c3 then
  bif
  bif c3 then List.drop (Int.toNat 0) (List.take (Int.toNat 2) a) == [111, 110]
  else false then
  k (Out.ret (AVal.int IntKind.i64 2) [])
  else
  bif decide (5 ≤ n2) || !c4 then
  bif
  bif c4 then
  List.drop (Int.toNat 0) (List.take (Int.toNat 5) a) ==
  [120, 109, 108, 110, 115]
  else false then
  k (Out.ret (AVal.int IntKind.i64 4) [])
  else k (Out.ret (AVal.int IntKind.i64 0) [])
  else none
  else none
  else
  bif c7 then
  bif c7 then k (Out.ret (AVal.int IntKind.i64 4) [])
  else
  bif decide (2 ≤ n2) || !c3 then
  bif
  bif c3 then List.drop (Int.toNat 0) (List.take (Int.toNat 2) a) == [111, 110]
  else false then
  k (Out.ret (AVal.int IntKind.i64 2) [])
  else
  bif decide (5 ≤ n2) || !c4 then
  bif
  bif c4 then
  List.drop (Int.toNat 0) (List.take (Int.toNat 5) a) ==
  [120, 109, 108, 110, 115]
  else false then
  k (Out.ret (AVal.int IntKind.i64 4) [])
  else k (Out.ret (AVal.int IntKind.i64 0) [])
  else none
  else none
  else
  bif a == [] then k (Out.ret (AVal.int IntKind.i64 4) [])
  else
  bif decide (2 ≤ n2) || !c3 then
  bif
  bif c3 then List.drop (Int.toNat 0) (List.take (Int.toNat 2) a) == [111, 110]
  else false then
  k (Out.ret (AVal.int IntKind.i64 2) [])
  else
  bif decide (5 ≤ n2) || !c4 then
  bif
  bif c4 then
  List.drop (Int.toNat 0) (List.take (Int.toNat 5) a) ==
  [120, 109, 108, 110, 115]
  else false then
  k (Out.ret (AVal.int IntKind.i64 4) [])
  else k (Out.ret (AVal.int IntKind.i64 0) [])
  else none
  else none) := by kernel_rfl
end Go.Mu
set_option linter.unusedVariables false
set_option linter.unusedSimpArgs false
set_option maxRecDepth 100000
namespace Go.Mu
open Go Go.Proofs
def u8 (n : Int) : UInt8 := UInt8.ofNat n.toNat
theorem u8_back (c : UInt8) : u8 (c.toNat : Int) = c := by unfold u8; simp
theorem okc_u8 (c : UInt8) : okc (c.toNat : Int) = true := by
  have := c.toNat_lt
  unfold okc
  rw [dT (by omega), dT (by omega)]; rfl
theorem okc_is {n : Int} (h : okc n = true) : ∃ c : UInt8, n = (c.toNat : Int) := by
  unfold okc at h
  simp only [Bool.and_eq_true, decide_eq_true_eq] at h
  refine ⟨UInt8.ofNat n.toNat, ?_⟩
  rw [UInt8.toNat_ofNat_of_lt' (by show n.toNat < 256; omega)]
  omega
theorem bif_split {b : Bool} {x y z : Ans} (h1 : b = true → x = z) (h2 : b = false → y = z) : (bif b then x else y) = z := by
  cases b
  · exact h2 rfl
  · exact h1 rfl
theorem eqk (c d : UInt8) {n : Int} (h : n = (d.toNat : Int)) : ((c.toNat : Int) == n) = (c == d) := by
  rw [h, Bool.eq_iff_iff]
  simp only [beq_iff_eq, ← UInt8.toNat_inj]
  omega
theorem ek10 (c : UInt8) : ((c.toNat : Int) == 10) = (c == 10) := eqk c 10 rfl
theorem ek13 (c : UInt8) : ((c.toNat : Int) == 13) = (c == 13) := eqk c 13 rfl
theorem ek33 (c : UInt8) : ((c.toNat : Int) == 33) = (c == 33) := eqk c 33 rfl
theorem ek34 (c : UInt8) : ((c.toNat : Int) == 34) = (c == 34) := eqk c 34 rfl
theorem ek35 (c : UInt8) : ((c.toNat : Int) == 35) = (c == 35) := eqk c 35 rfl
theorem ek36 (c : UInt8) : ((c.toNat : Int) == 36) = (c == 36) := eqk c 36 rfl
theorem ek38 (c : UInt8) : ((c.toNat : Int) == 38) = (c == 38) := eqk c 38 rfl
theorem ek39 (c : UInt8) : ((c.toNat : Int) == 39) = (c == 39) := eqk c 39 rfl
theorem ek40 (c : UInt8) : ((c.toNat : Int) == 40) = (c == 40) := eqk c 40 rfl
theorem ek41 (c : UInt8) : ((c.toNat : Int) == 41) = (c == 41) := eqk c 41 rfl
theorem ek42 (c : UInt8) : ((c.toNat : Int) == 42) = (c == 42) := eqk c 42 rfl
theorem ek45 (c : UInt8) : ((c.toNat : Int) == 45) = (c == 45) := eqk c 45 rfl
theorem ek47 (c : UInt8) : ((c.toNat : Int) == 47) = (c == 47) := eqk c 47 rfl
theorem ek58 (c : UInt8) : ((c.toNat : Int) == 58) = (c == 58) := eqk c 58 rfl
theorem ek60 (c : UInt8) : ((c.toNat : Int) == 60) = (c == 60) := eqk c 60 rfl
theorem ek62 (c : UInt8) : ((c.toNat : Int) == 62) = (c == 62) := eqk c 62 rfl
theorem ek63 (c : UInt8) : ((c.toNat : Int) == 63) = (c == 63) := eqk c 63 rfl
theorem ek91 (c : UInt8) : ((c.toNat : Int) == 91) = (c == 91) := eqk c 91 rfl
theorem ek92 (c : UInt8) : ((c.toNat : Int) == 92) = (c == 92) := eqk c 92 rfl
theorem ek93 (c : UInt8) : ((c.toNat : Int) == 93) = (c == 93) := eqk c 93 rfl
theorem ek95 (c : UInt8) : ((c.toNat : Int) == 95) = (c == 95) := eqk c 95 rfl
theorem ek96 (c : UInt8) : ((c.toNat : Int) == 96) = (c == 96) := eqk c 96 rfl
theorem ek125 (c : UInt8) : ((c.toNat : Int) == 125) = (c == 125) := eqk c 125 rfl
theorem c8Told_ok {f : FuncId} {B : Int → Bool} (h : ∀ c : UInt8, CallOK Tryz.prog f [.int .u8 c.toNat] [] (.ret (.bool (B c.toNat)) [])) : ∀ xs H k out, c8Told B xs H k = some out → ∃ o, CallOK Tryz.prog f xs H o ∧ k o = some out := mkFS_ok fun ys xs e hk => by
  obtain ⟨n, rfl⟩ : ∃ n, xs = [.int .u8 n] := ⟨_, e⟩
  obtain ⟨c, rfl⟩ := okc_is hk
  exact ⟨_, fun k => rfl, h c⟩
theorem pwTold_ok {f : FuncId} {F : Int → Bs → Int → Int × Bs} (h : ∀ p w (c : UInt8), w.length ≤ 1048576 → CallOK Tryz.prog f [.int .i64 p, .str w, .int .u8 c.toNat] [] (.ret (.tuple [.int .i64 (F p w c.toNat).1, .str (F p w c.toNat).2]) [])) : ∀ xs H k out, pwTold F xs H k = some out → ∃ o, CallOK Tryz.prog f xs H o ∧ k o = some out := mkFS_ok fun ys xs e hk => by
  obtain ⟨p, w, n, rfl⟩ : ∃ p w n, xs = [.int .i64 p, .str w, .int .u8 n] := ⟨_, _, _, e⟩
  simp only [Bool.and_eq_true] at hk
  obtain ⟨c, e2⟩ := okc_is hk.1
  have e2 : n = (c.toNat : Int) := e2
  subst e2
  exact ⟨_, fun k => rfl, h p w c (of_decide_eq_true hk.2)⟩
theorem wcTold_ok {f : FuncId} {F : Bs → Int → Int × Bs} (h : ∀ w (c : UInt8), w.length ≤ 1048576 → CallOK Tryz.prog f [.str w, .int .u8 c.toNat] [] (.ret (.tuple [.int .i64 (F w c.toNat).1, .str (F w c.toNat).2]) [])) : ∀ xs H k out, wcTold F xs H k = some out → ∃ o, CallOK Tryz.prog f xs H o ∧ k o = some out := mkFS_ok fun ys xs e hk => by
  obtain ⟨w, n, rfl⟩ : ∃ w n, xs = [.str w, .int .u8 n] := ⟨_, _, e⟩
  simp only [Bool.and_eq_true] at hk
  obtain ⟨c, e2⟩ := okc_is hk.1
  have e2 : n = (c.toNat : Int) := e2
  subst e2
  exact ⟨_, fun k => rfl, h w c (of_decide_eq_true hk.2)⟩
theorem pcTold_ok {f : FuncId} {F : Int → Int → Int} (h : ∀ p (c : UInt8), CallOK Tryz.prog f [.int .i64 p, .int .u8 c.toNat] [] (.ret (.int .i64 (F p c.toNat)) [])) : ∀ xs H k out, pcTold F xs H k = some out → ∃ o, CallOK Tryz.prog f xs H o ∧ k o = some out := mkFS_ok fun ys xs e hk => by
  obtain ⟨p, n, rfl⟩ : ∃ p n, xs = [.int .i64 p, .int .u8 n] := ⟨_, _, e⟩
  obtain ⟨c, e2⟩ := okc_is hk
  have e2 : n = (c.toNat : Int) := e2
  subst e2
  exact ⟨_, fun k => rfl, h p c⟩
theorem spTold_ok {f : FuncId} {F : Int → Int → Int × Bs} (h : ∀ p (c : UInt8), CallOK Tryz.prog f [.int .i64 p, .int .u8 c.toNat] [] (.ret (.tuple [.int .i64 (F p c.toNat).1, .str (F p c.toNat).2]) [])) : ∀ xs H k out, spTold F xs H k = some out → ∃ o, CallOK Tryz.prog f xs H o ∧ k o = some out := mkFS_ok fun ys xs e hk => by
  obtain ⟨p, n, rfl⟩ : ∃ p n, xs = [.int .i64 p, .int .u8 n] := ⟨_, _, e⟩
  obtain ⟨c, e2⟩ := okc_is hk
  have e2 : n = (c.toNat : Int) := e2
  subst e2
  exact ⟨_, fun k => rfl, h p c⟩
/- octets -/
def blankR (n : Int) : Bool := blankB (u8 n)
def letterR (n : Int) : Bool := letterB (u8 n)
theorem blank_all : ∀ n : Fin 256, (bif ((n.val : Int) == 32) then true else bif bif decide ((n.val : Int) ≥ 9) then decide ((n.val : Int) ≤ 13) else false then (n.val : Int) != 11 else false) = blankB (UInt8.ofNat n.val) := by decide +kernel
theorem letter_all : ∀ n : Fin 256, (bif decide (IntKind.u8.wrap (((BitVec.ofInt 8 (n.val : Int) ||| BitVec.ofInt 8 32).toNat : Nat) : Int) ≥ 97) then decide (IntKind.u8.wrap (((BitVec.ofInt 8 (n.val : Int) ||| BitVec.ofInt 8 32).toNat : Nat) : Int) ≤ 122) else false) = letterB (UInt8.ofNat n.val) := by decide +kernel
theorem u8_nat (c : UInt8) : UInt8.ofNat c.toNat = c := by simp
theorem blank_ok (c : UInt8) : CallOK Tryz.prog 52 [.int .u8 c.toNat] [] (.ret (.bool (blankR c.toNat)) []) := Lay.nil_ok.callF (G := []) rfl (fun k => by
  refine (blank_fun c k).trans ?_
  have := blank_all ⟨c.toNat, c.toNat_lt⟩
  simp only [u8_nat] at this
  unfold blankR
  rw [u8_back, ← this])
theorem letter_ok (c : UInt8) : CallOK Tryz.prog 50 [.int .u8 c.toNat] [] (.ret (.bool (letterR c.toNat)) []) := Lay.nil_ok.callF (G := []) rfl (fun k => by
  refine (letter_fun c k).trans ?_
  have := letter_all ⟨c.toNat, c.toNat_lt⟩
  simp only [u8_nat] at this
  unfold letterR
  rw [u8_back, ← this])
theorem blankT_ok : ∀ xs H k out, c8Told blankR xs H k = some out → ∃ o, CallOK Tryz.prog 52 xs H o ∧ k o = some out := c8Told_ok blank_ok
theorem letterT_ok : ∀ xs H k out, c8Told letterR xs H k = some out → ∃ o, CallOK Tryz.prog 50 xs H o ∧ k o = some out := c8Told_ok letter_ok
theorem layC8_ok : (layC8 letterR blankR).OK Tryz.prog := ((Lay.nil_ok.addF lowTold_ok).addF letterT_ok).addF blankT_ok
theorem low_all : ∀ n : Fin 256, lowC (UInt8.ofNat n.val) = smallB (UInt8.ofNat n.val) := by decide +kernel
theorem low_small (c : UInt8) : lowC c = smallB c := by
  have := low_all ⟨c.toNat, c.toNat_lt⟩
  simp only [u8_nat] at this
  exact this
theorem lowM_small (s : Bs) : lowM s = s.map smallB := by
  unfold lowM
  exact congrArg (fun f => s.map f) (funext low_small)
theorem byteOf_u8 (c : UInt8) : byteOf [AVal.int .u8 (c.toNat : Int)] = c := by
  unfold byteOf
  simp [intOf]
theorem byteOf1 (c : UInt8) : lowM [byteOf [AVal.int .u8 (c.toNat : Int)]] = [smallB c] := by rw [byteOf_u8, lowM_small]; rfl
theorem low1 (c : UInt8) : lowC (byteOf [AVal.int .u8 (c.toNat : Int)]) = smallB c := by rw [byteOf_u8, low_small]
/- URLs -/
def urlP (p : Int) (w : Bs) (n : Int) : Int × Bs := urlStep p w (u8 n)
theorem url_ok (p : Int) (w : Bs) (c : UInt8) (hw : w.length ≤ 1048576) : CallOK Tryz.prog 76 [.int .i64 p, .str w, .int .u8 c.toNat] [] (.ret (.tuple [.int .i64 (urlP p w c.toNat).1, .str (urlP p w c.toNat).2]) []) := layC8_ok.callF (G := []) rfl (fun k => by
  refine (url_fun letterR blankR p w c k).trans ?_
  unfold urlP
  have g : decide (w.length + 1 ≤ 4611686018427387904) = true := dT (by omega)
  have g2 : (decide (((w.length : Nat) : Int) < 16)) = decide (w.length < 16) := by rw [decide_eq_decide]; omega
  simp only [u8_back, ek47, ek63, ek35, ek58, g, g2, byteOf1, low1]
  repeat' (with_reducible apply bif_split <;> intro _)
  all_goals first | (simp_all [urlStep, urlFirst, allowedB, Bool.cond_eq_ite]; done) | (simp only [urlStep, urlFirst, allowedB, Bool.cond_eq_ite, Bool.and_eq_true, Bool.or_eq_true, beq_iff_eq, decide_eq_true_eq] at *; grind))
end Go.Mu
set_option linter.unusedVariables false
set_option linter.unusedSimpArgs false
set_option maxRecDepth 100000
namespace Go.Mu
open Go Go.Proofs
theorem dge (c : UInt8) (n : Nat) : decide ((c.toNat : Int) ≥ (n : Int)) = decide (n ≤ c.toNat) := by rw [decide_eq_decide]; omega
theorem dge48 (c : UInt8) : decide ((c.toNat : Int) ≥ 48) = decide (48 ≤ c.toNat) := dge c 48
theorem dle57 (c : UInt8) : decide ((c.toNat : Int) ≤ 57) = decide (c.toNat ≤ 57) := by rw [decide_eq_decide]; omega
theorem dgt127 (c : UInt8) : decide ((c.toNat : Int) > 127) = decide (127 < c.toNat) := by rw [decide_eq_decide]; omega
theorem dl16 (w : Bs) : (decide (((w.length : Nat) : Int) < 16)) = decide (w.length < 16) := by rw [decide_eq_decide]; omega
theorem letterR_u8 (c : UInt8) : letterR (c.toNat : Int) = letterB c := by unfold letterR; rw [u8_back]
theorem blankR_u8 (c : UInt8) : blankR (c.toNat : Int) = blankB c := by unfold blankR; rw [u8_back]
/- styles -/
def cswyR (n : Int) : Bool := csWordy (u8 n)
theorem cswy_ok (c : UInt8) : CallOK Tryz.prog 97 [.int .u8 c.toNat] [] (.ret (.bool (cswyR c.toNat)) []) := layC8_ok.callF (G := []) rfl (fun k => by
  refine (cswy_fun letterR blankR c k).trans ?_
  unfold cswyR csWordy digitB
  simp only [u8_back, okc_u8, ek10, ek13, ek34, ek35, ek36, ek39, ek40, ek41, ek42, ek45, ek47, ek58, ek63, ek91, ek92, ek93, ek95, ek96, ek125, letterR_u8, dge48, dle57, cond_true, bif_and, bif_or])
theorem layCs0_ok : (layCs0 cswyR letterR blankR).OK Tryz.prog := layC8_ok.addF (c8Told_ok cswy_ok)
theorem cswyR_u8 (c : UInt8) : cswyR (c.toNat : Int) = csWordy c := by unfold cswyR; rw [u8_back]
def cscdP (w : Bs) (n : Int) : Int × Bs := csCode w (u8 n)
theorem cscd_ok (w : Bs) (c : UInt8) (hw : w.length ≤ 1048576) : CallOK Tryz.prog 91 [.str w, .int .u8 c.toNat] [] (.ret (.tuple [.int .i64 (cscdP w c.toNat).1, .str (cscdP w c.toNat).2]) []) := layCs0_ok.callF (G := []) rfl (fun k => by
  refine (cscd_fun cswyR letterR blankR w c k).trans ?_
  unfold cscdP
  have g : decide (w.length + 1 ≤ 4611686018427387904) = true := dT (by omega)
  simp only [u8_back, okc_u8, ek10, ek13, ek34, ek35, ek36, ek39, ek40, ek41, ek42, ek45, ek47, ek58, ek63, ek91, ek92, ek93, ek95, ek96, ek125, cswyR_u8, byteOf1, dl16, g, cond_true]
  repeat' (with_reducible apply bif_split <;> intro _)
  all_goals first | (simp_all [csCode, Bool.cond_eq_ite]; done) | (simp only [csCode, Bool.cond_eq_ite, Bool.and_eq_true, Bool.or_eq_true, beq_iff_eq, decide_eq_true_eq] at *; grind))
def csquP (p n : Int) : Int := csQuoted p (u8 n)
theorem csqu_ok (p : Int) (c : UInt8) : CallOK Tryz.prog 92 [.int .i64 p, .int .u8 c.toNat] [] (.ret (.int .i64 (csquP p c.toNat)) []) := Lay.nil_ok.callF (G := []) rfl (fun k => by
  refine (csqu_fun p c k).trans ?_
  unfold csquP
  simp only [u8_back, okc_u8, ek10, ek13, ek34, ek35, ek36, ek39, ek40, ek41, ek42, ek45, ek47, ek58, ek63, ek91, ek92, ek93, ek95, ek96, ek125]
  repeat' (with_reducible apply bif_split <;> intro _)
  all_goals first | (simp_all [csQuoted, nlB, Bool.cond_eq_ite]; done) | (simp only [csQuoted, nlB, Bool.cond_eq_ite, Bool.and_eq_true, Bool.or_eq_true, beq_iff_eq, decide_eq_true_eq] at *; grind))
theorem layCs1_ok : (layCs1 cscdP).OK Tryz.prog := Lay.nil_ok.addF (wcTold_ok cscd_ok)
def csrmP (p n : Int) : Int × Bs := csRemark p (u8 n)
theorem csrm_ok (p : Int) (c : UInt8) : CallOK Tryz.prog 93 [.int .i64 p, .int .u8 c.toNat] [] (.ret (.tuple [.int .i64 (csrmP p c.toNat).1, .str (csrmP p c.toNat).2]) []) := layCs1_ok.callF (G := []) rfl (fun k => by
  refine (csrm_fun cscdP p c k).trans ?_
  have e : cscdP [] (c.toNat : Int) = csCode [] c := by unfold cscdP; rw [u8_back]
  unfold csrmP
  simp only [u8_back, okc_u8, ek10, ek13, ek34, ek35, ek36, ek39, ek40, ek41, ek42, ek45, ek47, ek58, ek63, ek91, ek92, ek93, ek95, ek96, ek125, e, Bool.and_true, cond_true]
  repeat' (with_reducible apply bif_split <;> intro _)
  all_goals first | (simp_all [csRemark, Bool.cond_eq_ite]; done) | (simp only [csRemark, Bool.cond_eq_ite, Bool.and_eq_true, Bool.or_eq_true, beq_iff_eq, decide_eq_true_eq] at *; grind))
theorem layCs2_ok : (layCs2 cscdP csquP csrmP).OK Tryz.prog := (layCs1_ok.addF (pcTold_ok csqu_ok)).addF (spTold_ok csrm_ok)
def csstP (p : Int) (w : Bs) (n : Int) : Int × Bs := csStep p w (u8 n)
theorem csst_ok (p : Int) (w : Bs) (c : UInt8) (hw : w.length ≤ 1048576) : CallOK Tryz.prog 78 [.int .i64 p, .str w, .int .u8 c.toNat] [] (.ret (.tuple [.int .i64 (csstP p w c.toNat).1, .str (csstP p w c.toNat).2]) []) := layCs2_ok.callF (G := []) rfl (fun k => by
  refine (csst_fun cscdP csquP csrmP p w c k).trans ?_
  have e1 : cscdP w (c.toNat : Int) = csCode w c := by unfold cscdP; rw [u8_back]
  have e2 : csquP p (c.toNat : Int) = csQuoted p c := by unfold csquP; rw [u8_back]
  have e3 : csrmP p (c.toNat : Int) = csRemark p c := by unfold csrmP; rw [u8_back]
  have e4 : (p = 3 ∨ p = 4) → IntKind.i64.wrap (p - 2) = p - 2 := fun h => wrap_of (by omega) (by omega)
  unfold csstP
  simp only [u8_back, okc_u8, ek10, ek13, ek34, ek35, ek36, ek39, ek40, ek41, ek42, ek45, ek47, ek58, ek63, ek91, ek92, ek93, ek95, ek96, ek125, e1, e2, e3, dT hw, Bool.and_true, cond_true]
  repeat' (with_reducible apply bif_split <;> intro _)
  all_goals first | (simp_all [csStep, Bool.cond_eq_ite]; done) | (simp only [csStep, Bool.cond_eq_ite, Bool.and_eq_true, Bool.or_eq_true, beq_iff_eq, decide_eq_true_eq] at *; grind))
/- scripts -/
def jswyR (n : Int) : Bool := jsWordy (u8 n)
theorem jswy_ok (c : UInt8) : CallOK Tryz.prog 95 [.int .u8 c.toNat] [] (.ret (.bool (jswyR c.toNat)) []) := layC8_ok.callF (G := []) rfl (fun k => by
  refine (jswy_fun letterR blankR c k).trans ?_
  unfold jswyR jsWordy digitB
  simp only [u8_back, okc_u8, ek10, ek13, ek34, ek35, ek36, ek39, ek40, ek41, ek42, ek45, ek47, ek58, ek63, ek91, ek92, ek93, ek95, ek96, ek125, letterR_u8, dge48, dle57, dgt127, cond_true, bif_and, bif_or])
theorem jswyR_u8 (c : UInt8) : jswyR (c.toNat : Int) = jsWordy c := by unfold jswyR; rw [u8_back]
theorem byteOf0 (c : UInt8) : [byteOf [AVal.int .u8 (c.toNat : Int)]] = [c] := by rw [byteOf_u8]
theorem jsqu_ok (p : Int) (c : UInt8) : CallOK Tryz.prog 86 [.int .i64 p, .int .u8 c.toNat] [] (.ret (.int .i64 (jsQuoted p (u8 c.toNat))) []) := Lay.nil_ok.callF (G := []) rfl (fun k => by
  refine (jsqu_fun p c k).trans ?_
  simp only [u8_back, okc_u8, ek10, ek13, ek34, ek35, ek36, ek39, ek40, ek41, ek42, ek45, ek47, ek58, ek63, ek91, ek92, ek93, ek95, ek96, ek125]
  repeat' (with_reducible apply bif_split <;> intro _)
  all_goals first | (simp_all [jsQuoted, nlB, Bool.cond_eq_ite]; done) | (simp only [jsQuoted, nlB, Bool.cond_eq_ite, Bool.and_eq_true, Bool.or_eq_true, beq_iff_eq, decide_eq_true_eq] at *; grind))
theorem jsma_ok (p : Int) (c : UInt8) : CallOK Tryz.prog 89 [.int .i64 p, .int .u8 c.toNat] [] (.ret (.int .i64 (jsMatched p (u8 c.toNat))) []) := Lay.nil_ok.callF (G := []) rfl (fun k => by
  refine (jsma_fun p c k).trans ?_
  simp only [u8_back, okc_u8, ek10, ek13, ek34, ek35, ek36, ek39, ek40, ek41, ek42, ek45, ek47, ek58, ek63, ek91, ek92, ek93, ek95, ek96, ek125]
  repeat' (with_reducible apply bif_split <;> intro _)
  all_goals first | (simp_all [jsMatched, nlB, Bool.cond_eq_ite]; done) | (simp only [jsMatched, nlB, Bool.cond_eq_ite, Bool.and_eq_true, Bool.or_eq_true, beq_iff_eq, decide_eq_true_eq] at *; grind))
theorem jsrm_ok (p : Int) (c : UInt8) : CallOK Tryz.prog 88 [.int .i64 p, .int .u8 c.toNat] [] (.ret (.int .i64 (jsRemark p (u8 c.toNat))) []) := Lay.nil_ok.callF (G := []) rfl (fun k => by
  refine (jsrm_fun p c k).trans ?_
  simp only [u8_back, okc_u8, ek10, ek13, ek34, ek35, ek36, ek39, ek40, ek41, ek42, ek45, ek47, ek58, ek63, ek91, ek92, ek93, ek95, ek96, ek125]
  repeat' (with_reducible apply bif_split <;> intro _)
  all_goals first | (simp_all [jsRemark, Bool.cond_eq_ite]; done) | (simp only [jsRemark, Bool.cond_eq_ite, Bool.and_eq_true, Bool.or_eq_true, beq_iff_eq, decide_eq_true_eq] at *; grind))
end Go.Mu
set_option linter.unusedVariables false
set_option linter.unusedSimpArgs false
set_option maxRecDepth 100000
namespace Go.Proofs
open Go.Shelf
def Tryz.fRen : Ren := {
  f := fun x => match x with
    | 157 => 99
    | 199 => 103
    | 229 => 102
    | 261 => 104
    | 311 => 105
    | 312 => 106
    | n => n,
  t := fun x => match x with
    | 0 => 0
    | 3 => 3
    | 4 => 4
    | 5 => 5
    | 9 => 9
    | 21 => 21
    | 31 => 82
    | 40 => 86
    | 46 => 91
    | 49 => 111
    | 51 => 92
    | 119 => 100
    | 141 => 106
    | 152 => 102
    | 154 => 104
    | 193 => 107
    | 194 => 108
    | 196 => 110
    | 198 => 113
    | 201 => 116
    | 226 => 118
    | 227 => 119
    | n => n,
  g := fun x => match x with
    | 0 => 1
    | 6 => 2
    | n => n }
theorem Tryz.fRen_157 : Lays.n157 Tryz.prog Tryz.fRen := {
  mixed := by kernel_rfl
  f157 := Tryz.func99.trans (congrArg some (by kernel_rfl))
  f199 := Tryz.func103.trans (congrArg some (by kernel_rfl))
  f229 := Tryz.func102.trans (congrArg some (by kernel_rfl))
  f261 := Tryz.func104.trans (congrArg some (by kernel_rfl))
  f311 := Tryz.func105.trans (congrArg some (by kernel_rfl))
  f312 := Tryz.func106.trans (congrArg some (by kernel_rfl))
  t0 := Tryz.underlying0
  a0 := Tryz.isAgg0
  z0 := Tryz.sizeOf0
  v0 := Tryz.zeroValue0
  t3 := Tryz.underlying3
  a3 := Tryz.isAgg3
  z3 := Tryz.sizeOf3
  v3 := Tryz.zeroValue3
  t4 := Tryz.underlying4
  a4 := Tryz.isAgg4
  z4 := Tryz.sizeOf4
  v4 := Tryz.zeroValue4
  t5 := Tryz.underlying5
  a5 := Tryz.isAgg5
  z5 := Tryz.sizeOf5
  v5 := Tryz.zeroValue5
  t9 := Tryz.underlying9
  a9 := Tryz.isAgg9
  z9 := Tryz.sizeOf9
  v9 := Tryz.zeroValue9
  t21 := Tryz.underlying21
  a21 := Tryz.isAgg21
  z21 := Tryz.sizeOf21
  v21 := Tryz.zeroValue21
  t31 := Tryz.underlying82
  a31 := Tryz.isAgg82
  z31 := Tryz.sizeOf82
  v31 := Tryz.zeroValue82
  t40 := Tryz.underlying86
  a40 := Tryz.isAgg86
  z40 := Tryz.sizeOf86
  v40 := Tryz.zeroValue86
  t46 := Tryz.underlying91
  a46 := Tryz.isAgg91
  z46 := Tryz.sizeOf91
  v46 := Tryz.zeroValue91
  t49 := Tryz.underlying111
  a49 := Tryz.isAgg111
  z49 := Tryz.sizeOf111
  v49 := Tryz.zeroValue111
  t51 := Tryz.underlying92
  a51 := Tryz.isAgg92
  z51 := Tryz.sizeOf92
  v51 := Tryz.zeroValue92
  t119 := Tryz.underlying100
  a119 := Tryz.isAgg100
  z119 := Tryz.sizeOf100
  t141 := Tryz.underlying106
  a141 := Tryz.isAgg106
  z141 := Tryz.sizeOf106
  v141 := Tryz.zeroValue106
  t152 := Tryz.underlying102
  a152 := Tryz.isAgg102
  z152 := Tryz.sizeOf102
  v152 := Tryz.zeroValue102
  t154 := Tryz.underlying104
  a154 := Tryz.isAgg104
  z154 := Tryz.sizeOf104
  v154 := Tryz.zeroValue104
  t193 := Tryz.underlying107
  a193 := Tryz.isAgg107
  z193 := Tryz.sizeOf107
  v193 := Tryz.zeroValue107
  t194 := Tryz.underlying108
  a194 := Tryz.isAgg108
  z194 := Tryz.sizeOf108
  v194 := Tryz.zeroValue108
  t196 := Tryz.underlying110
  a196 := Tryz.isAgg110
  z196 := Tryz.sizeOf110
  v196 := Tryz.zeroValue110
  t198 := Tryz.underlying113
  a198 := Tryz.isAgg113
  z198 := Tryz.sizeOf113
  v198 := Tryz.zeroValue113
  t201 := Tryz.underlying116
  a201 := Tryz.isAgg116
  z201 := Tryz.sizeOf116
  v201 := Tryz.zeroValue116
  t226 := Tryz.underlying118
  a226 := Tryz.isAgg118
  z226 := Tryz.sizeOf118
  v226 := Tryz.zeroValue118
  t227 := Tryz.underlying119
  a227 := Tryz.isAgg119
  z227 := Tryz.sizeOf119
  v227 := Tryz.zeroValue119
  g0 := by kernel_rfl
  g6 := by kernel_rfl
}

end Go.Proofs
namespace Go.Mu
open Go Go.Proofs Go.RowKit
section
variable {P : Program} {w w' : World} {E : Env} {H : Heap}
theorem Sim.freshVQ (sim : Sim w E H) (hb : Below w.heap.size w w') {Q : Nat → Prop} (hQ : ∀ b, Q b → w.heap.size ≤ b ∧ b < w'.heap.size) :
    Evo No w E H w' { E with imm := fun x => E.imm x ∨ Q x } H ∧ Sim w' { E with imm := fun x => E.imm x ∨ Q x } H := by
  have old : ∀ {b}, b < w.heap.size → w'.heap[b]? = w.heap[b]? := fun h => hb.block _ h
  have hsz := hb.size
  have ev : Evo No w E H w' { E with imm := fun x => E.imm x ∨ Q x } H := by
    refine ⟨hsz, fun b hb _ _ => old hb, fun b hb => ⟨.inl hb, old (sim.immLt b hb)⟩, fun b hb => ?_, fun k hk => ⟨hk, rfl⟩, fun k sz u hk => ⟨u, hk, Nat.le_refl _, fun _ => ⟨rfl, fun _ => rfl⟩⟩,
      fun k hk => .inr ⟨hk, rfl⟩, Nat.le_refl _, hb.tape, hb.os, hb.output⟩
    rcases hb with hb | hb
    · exact .inl hb
    · exact .inr (hQ _ hb).1
  have hs := ev.sees
  refine ⟨ev, fun b hb => ?_, fun k cs hc => (sim.var k cs hc).mono hs (old (sim.apart k (.inl (var_of_get hc))).2), fun k sz rows u hc => ?_, fun k hk => ⟨?_, ?_⟩, sim.inj, fun j t n hj hl => (sim.note j t n hj hl).same (old (sim.apart _ hl).2), sim.glob.mono hs.imm⟩
  · rcases hb with hb | hb
    · have := sim.immLt b hb; omega
    · exact (hQ _ hb).2
  · obtain ⟨h1, h2, h3, h4⟩ := sim.arr k sz rows u hc
    exact ⟨h1, h2, h3, fun hcap => (h4 hcap).mono hs (old (sim.apart k (.inr ⟨⟨sz, u, arr_of_get hc⟩, hcap⟩)).2)⟩
  · rintro (hb | hb)
    · exact (sim.apart k hk).1 hb
    · have := (sim.apart k hk).2; have := (hQ _ hb).1; simp only at this; omega
  · have := (sim.apart k hk).2; simp only; omega
theorem CallOK.freshVQ {f : FuncId} {xs : List AVal} {v : AVal} (h : ∀ w E (cs : List Value), Sim w E H → cs.length = xs.length → (∀ j, j < xs.length → Rep w E H (xs.getD j .undef) (cs.getD j undef)) →
    ∃ (Q : World → Nat → Prop) (c : Value), Calls P f cs.toArray w (fun e w' => e = .returned c ∧ Below w.heap.size w w' ∧ (∀ b, Q w' b → w.heap.size ≤ b ∧ b < w'.heap.size) ∧ RepP w' (fun x => E.imm x ∨ Q w' x) v c)) : CallOK P f xs H (.ret v H) := by
  intro w E cs sim hl hr
  obtain ⟨Q, c, h1⟩ := h w E cs sim hl hr
  refine Calls.mono h1 (fun e w' hp => ?_)
  obtain ⟨rfl, hb, hq, h2⟩ := hp
  obtain ⟨ev, sim'⟩ := sim.freshVQ hb hq
  exact ⟨_, ev, sim', .pure _ _ h2⟩
def baQ (s : List UInt8) : ByteArray := ⟨⟨s⟩⟩
theorem alloc_sizeQ (w : World) (ds : Array Value) (t : TypeId) : (w.alloc (.cells ds t)).heap.size = w.heap.size + 1 := (pushed_alloc w ds t).size
theorem alloc_newQ (w : World) (ds : Array Value) (t : TypeId) : (w.alloc (.cells ds t)).heap[w.heap.size]? = some (.cells ds t) := (pushed_alloc w ds t).new
theorem ba_sizeQ (s : List UInt8) : (baQ s).size = s.length := rfl
theorem ba_eqQ {b : ByteArray} {s : List UInt8} (h : b.data.toList = s) : b = baQ s := by
  subst h
  cases b with | mk d => cases d with | mk l => rfl
end
theorem asc_cell {w : World} {E : Env} {H : Heap} (sim : Sim w E H) (c : Nat) (hc : c < 256) : w.cell? ⟨1, c, none⟩ = some (.int .u8 (if Lib.isSp (UInt8.ofNat c) then 1 else 0)) := by
  have h := sim.glob.2 1 (Lib.asciiSpaceTab.map (AVal.int .u8)) (by unfold gvals; rfl)
  have hl : c < (Lib.asciiSpaceTab.map (AVal.int .u8)).length := by rw [List.length_map, Lib.asciiSpaceTab_length]; exact hc
  generalize hx : Value.pointer (some ⟨1, 0, none⟩) = x at h
  generalize hy : AVal.rptr (Lib.asciiSpaceTab.map (AVal.int .u8)) = y at h
  cases h with
  | rptr cells blk off cs h1 h2 h3 =>
    cases hx
    cases hy
    have a := (h2 c hl).1
    have b := h3 c hl
    rw [Nat.zero_add] at a
    rw [a]
    have e : (Lib.asciiSpaceTab.map (AVal.int .u8)).getD c .undef = .int .u8 (if Lib.isSp (UInt8.ofNat c) then 1 else 0) := by
      rw [List.getD_eq_getElem?_getD, List.getElem?_map]
      have := Lib.asciiSpaceTab_at c hc
      rw [List.getD_eq_getElem?_getD, List.getElem?_eq_getElem (by rw [Lib.asciiSpaceTab_length]; exact hc)] at this
      rw [List.getElem?_eq_getElem (by rw [Lib.asciiSpaceTab_length]; exact hc)]
      exact congrArg (AVal.int .u8) this
    rw [e] at b
    generalize cs c = yc at b ⊢
    generalize hz : AVal.int .u8 (if Lib.isSp (UInt8.ofNat c) then 1 else 0) = z at b
    cases b <;> first | (cases hz; rfl) | cases hz
  | _ => cases hy
theorem fields_ok (s : List UInt8) (h1 : s.length < 4294967281) (h2 : s.all (fun b => decide (b.toNat < 128)) = true) : CallOK Tryz.prog 99 [.str s] [] (.ret (encL true encS [] (Lib.fields s)) []) := by
  refine CallOK.freshVQ (fun w E cs sim hl hr => ?_)
  obtain ⟨x, rfl⟩ : ∃ x, cs = [x] := by
    match cs, hl with
    | [x], _ => exact ⟨x, rfl⟩
  obtain ⟨b, e1, e2⟩ := rep_str (hr 0 (by simp))
  replace e1 : x = .string b := e1
  subst e1
  rw [ba_eqQ e2]
  refine ⟨fun _ b => b = w.heap.size, .slice (some ⟨w.heap.size, 0, none⟩) (Lib.fields s).length (Lib.fields s).length, ?_⟩
  refine (Any.strings_Fields_core Tryz.fRen_157 (by kernel_rfl) (baQ s) w (by rw [ba_sizeQ]; exact h1) (fun j b hb => ?_) (fun c hc => asc_cell sim c hc)).mono fun e w' ⟨he, hw⟩ => ⟨he, ?_, ?_, ?_⟩
  · have := List.all_eq_true.1 h2 b (List.mem_of_getElem? hb)
    exact of_decide_eq_true this
  · subst hw; exact (Below.refl _ _).alloc (Nat.le_refl _) _
  · subst hw; intro b hb; subst hb; rw [alloc_sizeQ]; omega
  · subst hw
    unfold encL
    refine .list true _ _ w.heap.size 0 _ 1 (fun i j => .string (baQ ((Lib.fields s).getD i []))) (Nat.le_refl _) (fun _ => rfl) (.inr rfl) (fun i hi => rfl) (fun i j hi hj => ?_) (fun i j hi hj => ?_)
    · have hj0 : j = 0 := by omega
      subst hj0
      refine ⟨?_, rfl⟩
      have e6 : 0 + i * 1 + 0 = i := by omega
      rw [e6]
      unfold World.cell?
      rw [alloc_newQ]
      have e7 : (baQ s).data.toList = s := rfl
      simp only [e7, List.getElem?_toArray, List.getElem?_map, List.getElem?_eq_getElem hi, Option.map_some, List.getD_eq_getElem?_getD, Option.getD_some]
      rfl
    · have hj0 : j = 0 := by omega
      subst hj0
      exact .str (baQ ((Lib.fields s).getD i []))
def fieldsTold : FSp := mkFS [.s] (fun xs => decide ((aS xs 0).length < 4294967281) && (aS xs 0).all (fun b => decide (b.toNat < 128))) (fun xs k => k (.ret (encL true encS [] (Lib.fields (aS xs 0))) []))
theorem fieldsTold_ok : ∀ xs H k out, fieldsTold xs H k = some out → ∃ o, CallOK Tryz.prog 99 xs H o ∧ k o = some out := mkFS_ok fun ys xs e h => by
  obtain ⟨s, rfl⟩ : ∃ s, xs = [.str s] := ⟨_, e⟩
  simp only [Bool.and_eq_true] at h
  exact ⟨_, fun k => rfl, fields_ok s (of_decide_eq_true h.1) h.2⟩
end Go.Mu
set_option linter.unusedVariables false
set_option linter.unusedSimpArgs false
set_option maxRecDepth 100000
namespace Go.Mu
open Go Go.Proofs
def hpStr (H : Heap) : Bs := match H with
  | [.var [.str w]] => w
  | _ => []
noncomputable def ifvSp : LSp := mkL (fun vs _ H => (hpStr H, decL decS (vs.getD 0 .undef))) (fun a => a.2.length ≤ 1099511627776) (fun a => [encL true encS [] a.2, .func 100 [.ptr (.hp 0) 0], .int .i64 a.2.length, .int .i64 0]) (fun _ => []) (fun a => [.var [.str a.1]])
  (fun a k => cond (a.2.any (fun x => x == a.1)) (k .ret [.int .i64 (a.2.findIdx (fun x => x == a.1) : Nat)] [] [.var [.str a.1]]) (k (.exit 0) [.undef] [] [.var [.str a.1]]))
noncomputable def ifvFH : FH := .of [(2, loopSpec 19 [0,1,7,8] [] [4] [] ifvSp)]
theorem ifv_step (l : List Bs) (w : Bs) (n i : Int) (D : List (FuncId × List AVal)) (k : Kont) : lturn Tryz.prog Lay.nil ifvFH 101 2 [0,1,7,8] [] [4] [] (stL 19 [0,1,7,8] [encL true encS [] l, .func 100 [.ptr (.hp 0) 0], .int .i64 n, .int .i64 i] [] [] [.var [.str w]] D) k = (
  bif decide (i < n) then
  bif decide (0 ≤ i) && decide (i < (↑l.length : Int)) then
  bif l.getD i.toNat [] == w then k AExit.ret (stL 19 [4] [AVal.int IntKind.i64 i] [] [] [Obj.var [AVal.str w]] D)
  else
  k AExit.normal
  (stL 19 [0, 1, 7, 8]
  [AVal.list true l.length fun (i : Nat) => [AVal.str (l.getD i [])], AVal.func 100 [AVal.ptr (Oid.hp 0) 0],
  AVal.int IntKind.i64 n, AVal.int IntKind.i64 (IntKind.i64.wrap (i + 1))]
  [] [] [Obj.var [AVal.str w]] D)
  else none
  else k (AExit.exit 0) (stL 19 [4] [AVal.undef] [] [] [Obj.var [AVal.str w]] D)) := by kernel_rfl
noncomputable def layIfv : Lay := Lay.nil.addL 101 ifvFH
theorem cfv_fun (l : List Bs) (w : Bs) (k : Out → Ans) : iFun Tryz.prog (layIfv.hd Tryz.prog) layIfv.fhs 0 98 [encL true encS [] l, .func 100 [.ptr (.hp 0) 0]] [.var [.str w]] k = (
 let m0 : Nat := (decL decS (AVal.list true l.length fun (i : Nat) => [AVal.str (l.getD i [])])).length;
  bif
  tst
  (m0 ≤ 1099511627776 ∧
  SubTL
  [AVal.list true l.length fun (i : Nat) => [AVal.str (l.getD i [])], AVal.func 100 [AVal.ptr (Oid.hp 0) 0],
  AVal.int IntKind.i64 (↑l.length : Int), AVal.int IntKind.i64 0]
  [AVal.list true m0 fun (i : Nat) =>
  [AVal.str ((decL decS (AVal.list true l.length fun (i : Nat) => [AVal.str (l.getD i [])])).getD i [])],
  AVal.func 100 [AVal.ptr (Oid.hp 0) 0], AVal.int IntKind.i64 (↑m0 : Int), AVal.int IntKind.i64 0] ∧
  ([] : List (List AVal)) = [] ∧ [Obj.var [AVal.str w]] = [Obj.var [AVal.str (hpStr [Obj.var [AVal.str w]])]]) then
  bif
  (decL decS (AVal.list true l.length fun (i : Nat) => [AVal.str (l.getD i [])])).any fun (x : List UInt8) =>
  x == hpStr [Obj.var [AVal.str w]] then
  k (Out.ret (AVal.bool true) [Obj.var [AVal.str (hpStr [Obj.var [AVal.str w]])]])
  else k (Out.ret (AVal.bool false) [Obj.var [AVal.str (hpStr [Obj.var [AVal.str w]])]])
  else none) := by kernel_rfl
noncomputable def cfvTold : FSp := mkF (fun xs H => (hpStr H, decL decS (xs.getD 0 .undef))) (fun a => a.2.length ≤ 1099511627776) (fun a => [encL true encS [] a.2, .func 100 [.ptr (.hp 0) 0]]) (fun a => [.var [.str a.1]]) (fun a k => k (.ret (.bool (a.2.any (fun x => x == a.1))) [.var [.str a.1]]))
noncomputable def layEn0 : Lay := (Lay.nil.addF 99 fieldsTold).addF 98 cfvTold
noncomputable def layEn : Lay := layEn0.addL 96 { heap := [3] }
theorem en_fun (p : Int) (w : Bs) (k : Out → Ans) : iFun Tryz.prog (layEn.hd Tryz.prog) layEn.fhs 0 96 [.int .i64 p, .str w] [] k = (
 let c0 : Bool := !w == [];
  bif c0 then
  bif
  tst
  (12 ≤ 1099511627776 ∧
  SubL
  [AVal.list true 12 fun (i : Nat) =>
  [AVal.str
  ([[114, 101, 116, 117, 114, 110], [116, 121, 112, 101, 111, 102], [99, 97, 115, 101], [105, 110],
  [111, 102], [100, 101, 108, 101, 116, 101], [118, 111, 105, 100], [116, 104, 114, 111, 119],
  [110, 101, 119], [101, 108, 115, 101], [100, 111],
  [105, 110, 115, 116, 97, 110, 99, 101, 111, 102]].getD
  i [])],
  AVal.func 100 [AVal.ptr (Oid.hp 0) 0]]
  [AVal.list true 12 fun (i : Nat) =>
  [AVal.str
  ((decL decS
  (AVal.list true 12 fun (i : Nat) =>
  [AVal.str
  ([[114, 101, 116, 117, 114, 110], [116, 121, 112, 101, 111, 102], [99, 97, 115, 101],
  [105, 110], [111, 102], [100, 101, 108, 101, 116, 101], [118, 111, 105, 100],
  [116, 104, 114, 111, 119], [110, 101, 119], [101, 108, 115, 101], [100, 111],
  [105, 110, 115, 116, 97, 110, 99, 101, 111, 102]].getD
  i [])])).getD
  i [])],
  AVal.func 100 [AVal.ptr (Oid.hp 0) 0]] ∧
  [Obj.var [AVal.str w]] = [Obj.var [AVal.str (hpStr [Obj.var [AVal.str w]])]]) then
  bif
  bif c0 then
  decS [AVal.str [114, 101, 116, 117, 114, 110]] == hpStr [Obj.var [AVal.str w]] ||
  (decS [AVal.str [116, 121, 112, 101, 111, 102]] == hpStr [Obj.var [AVal.str w]] ||
  (decS [AVal.str [99, 97, 115, 101]] == hpStr [Obj.var [AVal.str w]] ||
  (decS [AVal.str [105, 110]] == hpStr [Obj.var [AVal.str w]] ||
  (decS [AVal.str [111, 102]] == hpStr [Obj.var [AVal.str w]] ||
  (decS [AVal.str [100, 101, 108, 101, 116, 101]] == hpStr [Obj.var [AVal.str w]] ||
  (decS [AVal.str [118, 111, 105, 100]] == hpStr [Obj.var [AVal.str w]] ||
  (decS [AVal.str [116, 104, 114, 111, 119]] == hpStr [Obj.var [AVal.str w]] ||
  (decS [AVal.str [110, 101, 119]] == hpStr [Obj.var [AVal.str w]] ||
  (decS [AVal.str [101, 108, 115, 101]] == hpStr [Obj.var [AVal.str w]] ||
  (decS [AVal.str [100, 111]] == hpStr [Obj.var [AVal.str w]] ||
  (decS [AVal.str [105, 110, 115, 116, 97, 110, 99, 101, 111, 102]] ==
  hpStr [Obj.var [AVal.str w]] ||
  false)))))))))))
  else false then
  k (Out.ret (AVal.int IntKind.i64 0) [Obj.var [AVal.str (hpStr [Obj.var [AVal.str w]])]])
  else k (Out.ret (AVal.int IntKind.i64 p) [Obj.var [AVal.str (hpStr [Obj.var [AVal.str w]])]])
  else none
  else bif c0 then none else k (Out.ret (AVal.int IntKind.i64 p) [Obj.var [AVal.str w]])) := by kernel_rfl
end Go.Mu
