/-
  Lemmas on the given program (part 1).
-/
import Derived.Calls
import Derived.Lib.DecodeN
import Derived.Lib.Space
import Derived.Orders
import Derived.Defers
import Derived.Recover
import Derived.Laws.Cells
import Derived.Laws.IdiomCopy
import Derived.Laws.Append
import Derived.Laws.IdiomRangeMap
import Derived.ChangeKeysEq
import Derived.Lib.Bytealg
set_option linter.unusedVariables false
set_option linter.unusedSimpArgs false
namespace Go.Mu
open Go
theorem _root_.Go.sJ {α : Type _} {a b : α} : (some a = some b) = (a = b) := Option.some.injEq a b
theorem _root_.Go.gQ {α : Type _} {l : List α} {i : Nat} {a : α} : l.getD i a = l[i]?.getD a := List.getD_eq_getElem?_getD
abbrev _root_.Go.Oc := List UInt8
theorem cT {α : Type} {c : Bool} {x z : Option α} (h : c = true) (g : x = z) : cond c x none = z := by subst h; exact g
theorem cU {α : Type} {c : Bool} {x y z : α} (h : c = true) (g : x = z) : cond c x y = z := by subst h; exact g
theorem cF {α : Type} {c : Bool} {x y z : α} (h : c = false) (g : y = z) : cond c x y = z := by subst h; exact g
inductive Oid where
 | tmp (t : Nat)
 | hp (k : Nat)
 deriving DecidableEq
inductive AVal where
 | undef
 | bool (b : Bool)
 | int (k : IntKind) (n : Int)
 | str (s : Oc)
 | list (full : Bool) (n : Nat) (row : Nat → List AVal)
 | own (k off len ver : Nat) (clip : Bool)
 | ptr (o : Oid) (off : Nat)
 | eptr (k ver i off : Nat)
 | rptr (cells : List AVal)
 | nilptr
 | nilS
 | nonS
 | nilX
 | func (f : FuncId) (caps : List AVal)
 | nilfunc
 | iface (t : TypeId) (v : AVal)
 | nilIface
 | agg (cells : List AVal)
 | tuple (vs : List AVal)
 | map (k : Nat)
abbrev Vs := List AVal
abbrev Dfs := List (FuncId × Vs)
def gints (g : Nat) : Option IntKind :=
 if g == 0 then some .i64 else
 none
def gvals (g : Nat) : Option Vs :=
 if g == 1 then some ((List.range 256).map fun c => .int .u8 (Lib.firstT c)) else
 if g == 2 then some ((List.range 32).map fun j => .int .u8 (if j % 2 = 0 then Lib.accLo (j / 2) else Lib.accHi (j / 2))) else
 none
end Go.Mu
namespace Go.Mu
open Go
instance : Inhabited AVal := ⟨.undef⟩
inductive Obj where
 | var (cells : Vs)
 | arr (sz : Nat) (rows : List Vs) (ver : Nat)
 | note (t : TypeId) (n : Nat)
 | map (kk : IntKind) (es : List (Int × AVal))
abbrev Heap := List Obj
abbrev Boxes := List Vs
inductive Out where
 | ret (v : AVal) (H : Heap)
 | panic (p : AVal) (H : Heap)
abbrev Ans := Option Out
abbrev Hd := FuncId → Vs → Heap → (Out → Ans) → Ans
inductive RecSt where
 | outside
 | idle
 | armed (p : AVal)
 | taken
structure St where
 T : Vs
 B : Boxes
 H : Heap
 D : List (FuncId × Vs)
inductive AExit where
 | normal
 | exit (id : Nat)
 | ret
 | panic (p : AVal)
abbrev Kont := AExit → St → Ans
structure FH where
 heap : List Nat := []
 own : List Nat := []
 spec : List Nat := []
 keep : List Nat := []
 live : List (Nat × List Nat) := []
 thaw : List Nat := []
 raw : Bool := false
 plain : List Nat := []
 typed : List (Nat × List (Nat × TypeId)) := []
 nils : List Nat := []
 arrs : List Nat := []
 exact : Bool := false
 strs : List Nat := []
 hoist : Bool := false
 hoist2 : Bool := false
 loops : Nat → Option (St → Kont → Ans) := fun _ => none
def nilList : AVal := .list true 0 (fun _ => [])
def ofCell : Value → AVal
 | .bool b => .bool b
 | .int k n => .int k n
 | .string s => .str s.data.toList
 | .pointer none => .nilptr
 | .slice none 0 0 => nilList
 | .nilFunc => .nilfunc
 | .nilIface => .nilIface
 | _ => .undef
def ofConst : Value → AVal
 | .agg cs => if cs.toList.all (fun c => c.oneCell') then .agg (cs.toList.map ofCell) else .undef
 | v => ofCell v
def aeval (T : Vs) : Operand → AVal
 | .tmp t => T.getD t .undef
 | .const v => ofConst v
 | .global g => match gvals g with
  | some cs => .rptr cs
  | none => .undef
 | .func f => .func f []
def sizeT (P : Program) (t : TypeId) : Option Nat := (P.info? t).map (·.size)
def bytesT (P : Program) (t : TypeId) : Option Nat := (P.info? t).map (·.bytes)
def zeroT (P : Program) (t : TypeId) : Option Vs :=
 match P.info? t with
 | some i => match i.zero with
  | some v => if v.cells.toList.all (fun c => c.oneCell') then some (v.cells.toList.map ofCell) else none
  | none => none
 | none => none
def exCell (ex : Bool) (c : Value) (v : AVal) : AVal := if ex then (match c with | .slice none 0 0 => .nilX | _ => v) else v
def zeroTX (ex : Bool) (P : Program) (t : TypeId) : Option Vs :=
 match P.info? t with
 | some i => match i.zero with
  | some v => if v.cells.toList.all (fun c => c.oneCell') then some (v.cells.toList.map fun c => exCell ex c (ofCell c)) else none
  | none => none
 | none => none
def exV (ex : Bool) (x : Operand) (v : AVal) : AVal := match x with
 | .const c => exCell ex c v
 | _ => v
def zeroOk (P : Program) (t : TypeId) (sz : Nat) : Bool := match zeroT P t with
 | some z => z.length == sz
 | none => false
def zeroV (P : Program) (t : TypeId) : Option AVal :=
 match P.info? t with
 | some i => match i.zero with
  | some v => some (ofConst v)
  | none => none
 | none => none
def aggT (P : Program) (t : TypeId) : Option Bool :=
 match P.underlying t with
 | some (.struct _) => some true
 | some (.array _ _) => some true
 | some _ => some false
 | none => none
def strOf : AVal → Oc
 | .str s => s
 | _ => []
def isStr : AVal → Bool
 | .str _ => true
 | _ => false
def intOf : AVal → Int
 | .int _ n => n
 | _ => 0
def isInt (k : IntKind) : AVal → Bool
 | .int k' _ => decide (k' = k)
 | _ => false
def boolOf : AVal → Bool
 | .bool b => b
 | _ => false
def isBool : AVal → Bool
 | .bool _ => true
 | _ => false
def typed (P : Program) (t : TypeId) (v : AVal) : Bool × AVal :=
 match P.underlying t with
 | some .string => (isStr v, .str (strOf v))
 | some (.int k) => (isInt k v, .int k (intOf v))
 | some .bool => (isBool v, .bool (boolOf v))
 | _ => (true, v)
def cellsOf? : AVal → Option Vs
 | .agg cs => some cs
 | .undef => none
 | .tuple _ => none
 | v => some [v]
def noTmp (v : AVal) : Bool := match v with
 | .ptr (.tmp _) _ => false
 | _ => true
def pureD : Nat → AVal → Bool
 | 0, _ => false
 | d + 1, v => match v with
  | .own .. => false
  | .ptr .. => false
  | .eptr .. => false
  | .map _ => false
  | .func _ cs => cs.isEmpty
  | .iface _ x => pureD d x
  | .agg cs => cs.all (pureD d)
  | .tuple cs => cs.all (pureD d)
  | _ => true
def isPure (v : AVal) : Bool := pureD 5 v
def flatD : Nat → AVal → Bool
 | 0, _ => false
 | d + 1, v => match v with
  | .bool _ => true
  | .int _ _ => true
  | .str _ => true
  | .nilIface => true
  | .nilptr => true
  | .agg cs => cs.all (flatD d)
  | .tuple cs => cs.all (flatD d)
  | .iface _ x => flatD d x
  | _ => false
def isFlat (v : AVal) : Bool := flatD 4 v
def pointsTo (d : Nat) : AVal → Bool
 | .ptr (.tmp t) _ => t == d
 | _ => false
def bset (B : Boxes) (t : Nat) (c : Vs) : Boxes := B.set t c
def readCells (B : Boxes) (H : Heap) (p : AVal) (n : Nat) : Option (Bool × Vs) :=
 match p with
 | .ptr (.tmp t) off => let cs := B.getD t []; some (decide (off + n ≤ cs.length), (List.range n).map fun j => cs.getD (off + j) .undef)
 | .ptr (.hp k) off => match H[k]? with
  | some (.var cs) => some (decide (off + n ≤ cs.length), (List.range n).map fun j => cs.getD (off + j) .undef)
  | _ => none
 | .eptr k ver i off => match H[k]? with
  | some (.arr sz rows v) => some (v == ver && decide (i < rows.length) && decide (off + n ≤ sz), (List.range n).map fun j => (rows.getD i []).getD (off + j) .undef)
  | _ => none
 | .rptr cs => some (decide (n ≤ cs.length), (List.range n).map fun j => cs.getD j .undef)
 | _ => none
def setAt (cs : Vs) (off : Nat) : Vs → Vs
 | [] => cs
 | v :: vs => setAt (cs.set off v) (off + 1) vs
def loadA (P : Program) (B : Boxes) (H : Heap) (t : TypeId) (p : AVal) : Option (Bool × AVal) :=
 match aggT P t, sizeT P t with
 | some true, some n => match readCells B H p n with
  | some (ok, cs) => some (ok, .agg cs)
  | none => none
 | some false, some _ => match readCells B H p 1 with
  | some (ok, cs) => let r := typed P t (cs.getD 0 .undef); some (ok && r.1, r.2)
  | none => none
 | _, _ => none
structure SR where
 ok : Bool
 v : AVal
 B : Boxes
 H : Heap
def storeA (B : Boxes) (H : Heap) (p : AVal) (cs : Vs) : Option SR :=
 match p with
 | .ptr (.tmp t) off => let old := B.getD t []
  some ⟨decide (off + cs.length ≤ old.length), .undef, bset B t (setAt old off cs), H⟩
 | .ptr (.hp k) off => match H[k]? with
  | some (.var old) => some ⟨decide (off + cs.length ≤ old.length), .undef, B, H.set k (.var (setAt old off cs))⟩
  | _ => none
 | .eptr k ver i off => match H[k]? with
  | some (.arr sz rows v) =>
   some ⟨v == ver && decide (i < rows.length) && decide (off + cs.length ≤ sz), .undef, B, H.set k (.arr sz (rows.set i (setAt (rows.getD i []) off cs)) v)⟩
  | _ => none
 | _ => none
def maxS : Nat := 4611686018427387904
def intBin (op : BinOp) (k : IntKind) (a b : Int) : Option (Bool × AVal) :=
 match op with
 | .add => some (true, .int k (k.wrap (a + b)))
 | .sub => some (true, .int k (k.wrap (a - b)))
 | .mul => some (true, .int k (k.wrap (a * b)))
 | .quo => some (!(a == a && b == 0), .int k (k.wrap (a.tdiv b)))
 | .rem => some (!(a == a && b == 0), .int k (a.tmod b))
 | .and => some (true, .int k (k.wrap (BitVec.ofInt k.bits a &&& BitVec.ofInt k.bits b).toNat))
 | .or => some (true, .int k (k.wrap (BitVec.ofInt k.bits a ||| BitVec.ofInt k.bits b).toNat))
 | .xor => some (true, .int k (k.wrap (BitVec.ofInt k.bits a ^^^ BitVec.ofInt k.bits b).toNat))
 | .andNot => some (true, .int k (k.wrap (BitVec.ofInt k.bits a &&& ~~~ BitVec.ofInt k.bits b).toNat))
 | .eql => some (true, .bool (a == b))
 | .neq => some (true, .bool (a != b))
 | .lss => some (true, .bool (decide (a < b)))
 | .leq => some (true, .bool (decide (a ≤ b)))
 | .gtr => some (true, .bool (decide (a > b)))
 | .geq => some (true, .bool (decide (a ≥ b)))
 | _ => none
def shiftA (op : BinOp) (k : IntKind) (a b : Int) : Option (Bool × AVal) :=
 match op with
 | .shl => some (decide (0 ≤ b), .int k (k.wrap (a * 2 ^ (min b.toNat k.bits))))
 | .shr => some (decide (0 ≤ b), .int k (a.fdiv (2 ^ (min b.toNat k.bits))))
 | _ => none
def strBin (op : BinOp) (x y : Oc) : Option (Bool × AVal) :=
 match op with
 | .add => some (decide (x.length + y.length ≤ maxS), .str (x ++ y))
 | .eql => some (true, .bool (x == y))
 | .neq => some (true, .bool (!(x == y)))
 | .lss => some (true, .bool (Op.bytesLess x y))
 | .leq => some (true, .bool (Op.bytesLess x y || x == y))
 | .gtr => some (true, .bool (!(Op.bytesLess x y || x == y)))
 | .geq => some (true, .bool (!(Op.bytesLess x y)))
 | _ => none
def fieldsEq (P : Program) : Nat → List Field → Vs → Vs → Option Bool
 | _, [], [], [] => some true
 | i, f :: fs, x :: xs, y :: ys => if f.name ≠ "_" ∧ f.offset = i then
  match P.underlying f.type, x, y, fieldsEq P (i + 1) fs xs ys with
  | some (.int _), .int k a, .int k' b, some r => if k = k' then some (a == b && r) else none
  | some .string, .str a, .str b, some r => some (a == b && r)
  | some .bool, .bool a, .bool b, some r => some (a == b && r)
  | _, _, _, _ => none
  else none
 | _, _, _, _ => none
def structEq (P : Program) (t : TypeId) (xs ys : Vs) : Option Bool :=
 match P.underlying t with
 | some (.struct fields) => if P.stoodInHeld t = false ∧ P.eqGuardType P.depth t = false then fieldsEq P 0 fields.toList xs ys else none
 | _ => none
def binA (P : Program) (op : BinOp) (t : TypeId) (x y : AVal) : Option (Bool × AVal) :=
 match x, y with
 | .int k a, .int k' b => match op with
  | .shl => shiftA op k a b
  | .shr => shiftA op k a b
  | _ => if k = k' then intBin op k a b else none
 | .str a, .str b => strBin op a b
 | .bool a, .bool b => match P.underlying t, op with
  | some .bool, .eql => some (true, .bool (a == b))
  | some .bool, .neq => some (true, .bool (!(a == b)))
  | _, _ => none
 | .agg xs, .agg ys => match structEq P t xs ys, op with
  | some r, .eql => some (true, .bool r)
  | some r, .neq => some (true, .bool (!r))
  | _, _ => none
 | _, _ => none
def pickA (c : Bool) (x y : AVal) : AVal :=
 match x, y with
 | .bool a, .bool b => .bool (cond c a b)
 | .int k a, .int k' b => if k = k' then .int k (cond c a b) else cond c x y
 | .str a, .str b => .str (cond c a b)
 | _, _ => cond c x y
def byteRow (c : UInt8) : Vs := [.int .u8 c.toNat]
def byteOf (r : Vs) : UInt8 := UInt8.ofNat (intOf (r.getD 0 .undef)).toNat
def isByteRow (r : Vs) : Bool := match r with
 | [v] => isInt .u8 v
 | _ => false
def rowsOf (sz : Nat) (H : Heap) : AVal → Option (Bool × List Vs)
 | .list _ n row => some (decide ((row 0).length = sz) || n == 0, (List.range n).map row)
 | .own k off len ver _ => match H[k]? with
  | some (.arr sz' rows v) => some (v == ver && sz' == sz && decide (off + len ≤ rows.length), (rows.drop off).take len)
  | _ => none
 | .str s => some (sz == 1, s.map byteRow)
 | .nonS => some (true, [])
 | _ => none
def elemT (P : Program) (t : TypeId) : Option TypeId :=
 match P.underlying t with
 | some (.slice e) => some e
 | _ => none
def srcOk (d : Option TypeDesc) (x : AVal) : Bool :=
 match d, x with
 | some .string, .str _ => true
 | some (.slice _), .list .. => true
 | some (.slice _), .own .. => true
 | some (.slice _), .nonS => true
 | _, _ => false
def noteOk (H : Heap) (k : Nat) (e : TypeId) : Bool := match H[k + 1]? with
 | some (.note t n) => t == e && n == 0
 | _ => true
def appendA (P : Program) (nl : Bool) (t : TypeId) (B : Boxes) (H : Heap) (s x : AVal) : Option SR :=
 match elemT P t with
 | none => none
 | some e => match sizeT P e, bytesT P e with
  | some sz, some by_ => match rowsOf sz H x with
   | some (ok1, ys) =>
    if sz = 0 ∨ by_ = 0 ∨ zeroOk P e sz = false then none else
    match s with
    | .nilX => if nl then some ⟨ok1 && ys.isEmpty, .nilX, B, H⟩ else none
    | .list true n row =>
     if nl then some ⟨ok1 && n == 0 && ys.isEmpty, .list true n row, B, H⟩ else
     some ⟨ok1 && (decide ((row 0).length = sz) || n == 0) && (decide (0 < ys.length) || n == 0) && decide ((2 * (n + ys.length) + 1000) * by_ ≤ 281474976710656), .own H.length 0 (n + ys.length) 0 false, B,
      H ++ [.arr sz ((List.range n).map row ++ ys) 0]⟩
    | .own k off len ver clip => match H[k]? with
     | some (.arr sz' rows v) =>
      if off = 0 ∧ sz' = sz then
       if clip then
        some ⟨ok1 && v == ver && decide (len ≤ rows.length) && decide (0 < ys.length) && decide ((2 * (len + ys.length) + 1000) * by_ ≤ 281474976710656), .own H.length 0 (len + ys.length) 0 false, B,
         H ++ [.arr sz (rows.take len ++ ys) 0]⟩
       else
        some ⟨ok1 && v == ver && len == rows.length && decide ((2 * (len + ys.length) + 1000) * by_ ≤ 281474976710656) && noteOk H k e, .own k 0 (len + ys.length) (ver + 1) false, B,
         H.set k (.arr sz (rows ++ ys) (ver + 1))⟩
      else none
     | _ => none
    | _ => none
   | none => none
  | _, _ => none
def isIntV (x : AVal) : Bool := match x with
 | .int _ _ => true
 | _ => false
def isIntO (x : Option AVal) : Bool := match x with
 | some v => isIntV v
 | none => true
def lowOf (lo : Option AVal) : Int := match lo with
 | some v => intOf v
 | none => 0
def highOf (hi : Option AVal) (n : Nat) : Int := match hi with
 | some v => intOf v
 | none => n
def sliceA (P : Program) (H : Heap) (t : TypeId) (x : AVal) (lo hi mx : Option AVal) : Option (Bool × AVal) :=
 let q : Bool := isIntO lo && isIntO hi && isIntO mx
 let l : Int := lowOf lo
 match P.underlying t, x with
 | some .string, .str s =>
  match mx with
  | some _ => none
  | none =>
   let h : Int := highOf hi s.length
   some (q && decide (0 ≤ l) && decide (l ≤ h) && decide (h ≤ s.length), .str ((s.take h.toNat).drop l.toNat))
 | some (.slice e), .list full n row =>
  let z : Bool := q && (decide (some (row 0).length = sizeT P e) || (n == 0 && (sizeT P e).isSome))
  let h : Int := highOf hi n
  match mx with
  | some m => let m := intOf m
   some (z && hi.isSome && decide (0 ≤ l) && decide (l ≤ h) && decide (h ≤ m) && decide (m ≤ n), .list (h == m) (h - l).toNat (fun i => row (l.toNat + i)))
  | none => some (z && decide (0 ≤ l) && decide (l ≤ h) && decide (h ≤ n), .list (full && h == n) (h - l).toNat (fun i => row (l.toNat + i)))
 | some (.slice e), .own k off len ver clip =>
  let z : Bool := q && (match H[k]? with
   | some (.arr sz _ u) => decide (some sz = sizeT P e) && u == ver
   | _ => false)
  let h : Int := highOf hi len
  match mx with
  | some m => let m := intOf m
   if h == l && h == m then some (z && hi.isSome && decide (0 ≤ l) && decide (h ≤ len), nilList)
   else some (z && hi.isSome && decide (0 ≤ l) && decide (l ≤ h) && decide (h = m) && decide (m ≤ len), .own k (off + l.toNat) (h - l).toNat ver true)
  | none => some (z && (!clip || h == len) && decide (0 ≤ l) && decide (l ≤ h) && decide (h ≤ len), .own k (off + l.toNat) (h - l).toNat ver (clip && h == len))
 | some (.array n e), .eptr k ver 0 0 => match H[k]?, mx with
  | some (.arr sz rows u), none =>
   let h : Int := highOf hi n
   some (q && decide (some sz = sizeT P e) && u == ver && decide (n ≤ rows.length) && decide (0 ≤ l) && decide (l ≤ h) && decide (h = n), .own k l.toNat (h - l).toNat ver true)
  | _, _ => none
 | _, _ => none
def idxA (P : Program) (H : Heap) (t : TypeId) (x i : AVal) : Option (Bool × AVal) :=
 match elemT P t, i with
 | some e, .int _ i => match x with
  | .list _ n row => some (decide (some (row 0).length = sizeT P e) && decide (0 ≤ i) && decide (i < n), .rptr (row i.toNat))
  | .own k off len ver _ => match H[k]? with
   | some (.arr sz _ u) => some (decide (some sz = sizeT P e) && u == ver && decide (0 ≤ i) && decide (i < len), .eptr k ver (off + i.toNat) 0)
   | _ => none
  | _ => none
 | none, .int _ i => match P.underlying t, x with
  | some (.array len e), .ptr q off => match sizeT P e with
   | some sz => some (decide (0 ≤ i) && decide (i < len), .ptr q (off + i.toNat * sz))
   | none => none
  | some (.array len e), .eptr k ver 0 0 => match H[k]? with
   | some (.arr sz _ u) => some (decide (some sz = sizeT P e) && u == ver && decide (0 ≤ i) && decide (i < len), .eptr k ver i.toNat 0)
   | _ => none
  | _, _ => none
 | _, _ => none
def fieldOff (P : Program) (t : TypeId) (f : Nat) : Option (Nat × TypeId) :=
 match P.underlying t with
 | some (.struct fields) => match fields[f]? with
  | some fd => match sizeT P fd.type with
   | some 0 => none
   | some _ => some (fd.offset, fd.type)
   | none => none
  | none => none
 | _ => none
def fieldAddrA (P : Program) (H : Heap) (t : TypeId) (x : AVal) (f : Nat) : Option (Bool × AVal) :=
 match fieldOff P t f with
 | some (o, _) => match x with
  | .ptr q off => some (true, .ptr q (off + o))
  | .eptr k ver i off => match H[k]? with
   | some (.arr _ _ u) => some (u == ver, .eptr k ver i (off + o))
   | _ => none
  | .rptr cs => some (true, .rptr (cs.drop o))
  | _ => none
 | none => none
def fillA (place : Nat → Option (Nat × Nat)) (cells : Vs) : List (Nat × AVal) → Option Vs
 | [] => some cells
 | (i, v) :: rest => match place i, cellsOf? v with
  | some (off, size), some cs => if cs.length = size ∧ off + cs.length ≤ cells.length then fillA place (setAt cells off cs) rest else none
  | _, _ => none
def placeOf (P : Program) (fields : List Field) (i : Nat) : Option (Nat × Nat) :=
 match fields[i]? with
 | some f => match sizeT P f.type with
  | some s => some (f.offset, s)
  | none => none
 | none => none
def buildA (ex : Bool) (P : Program) (t : TypeId) (parts : List (Nat × AVal)) : Option AVal :=
 match P.underlying t, zeroTX ex P t with
 | some (.struct fields), some z =>
  if fields.toList.all (fun f => (sizeT P f.type).isSome) = false then none else
  match fillA (placeOf P fields.toList) z parts with
  | some cs => some (.agg cs)
  | none => none
 | _, _ => none
def rowsA (sz : Nat) : Nat → List (Nat × AVal) → Option (List Vs)
 | _, [] => some []
 | i, (j, v) :: rest => match cellsOf? v, rowsA sz (i + 1) rest with
  | some cs, some rs => if i = j ∧ cs.length = sz then some (cs :: rs) else none
  | _, _ => none
def toUnsafe (P : Program) (H : Heap) (i off : Nat) (te : TypeId) : Bool := match H[i + 1]?, P.info? te with
 | some (.note _ n), some j => decide (off < n) && j.size != 0
 | _, _ => false
def ofUnsafe (P : Program) (H : Heap) (i off : Nat) (u : TypeId) : Bool := match H[i + 1]?, P.info? u with
 | some (.note t n), some _ => n != 0 && liesAt P P.depth t (n / P.cellsOf t) off u 1
 | _, _ => false
def isHp : AVal → Bool
 | .ptr (.hp _) _ => true
 | _ => false
def convA (P : Program) (own : Bool) (B : Boxes) (H : Heap) (src dst : TypeId) (x : AVal) : Option SR :=
 match P.underlying src, P.underlying dst, x with
 | some (.pointer te), some .unsafePointer, .ptr (.hp i) off => some ⟨toUnsafe P H i off te, .ptr (.hp i) off, B, H⟩
 | some .unsafePointer, some (.pointer u), .ptr (.hp i) off => some ⟨ofUnsafe P H i off u, .ptr (.hp i) off, B, H⟩
 | some _, some (.int k), .int _ n => some ⟨true, .int k (k.wrap n), B, H⟩
 | some _, some .string, .str s => some ⟨true, .str s, B, H⟩
 | some .string, some (.slice e), .str s => match P.underlying e with
  | some (.int .u8) => if own then some ⟨true, .own H.length 0 s.length 0 false, B, H ++ [.arr 1 (s.map byteRow) 0]⟩
   else some ⟨true, .list false s.length (fun i => byteRow (s.getD i 0)), B, H⟩
  | _ => none
 | some (.slice e), some .string, x => match P.underlying e with
  | some (.int .u8) => match x with
   | .str _ => none
   | .nonS => none
   | x => match rowsOf 1 H x with
    | some (ok, rows) => some ⟨ok && rows.all isByteRow, .str (rows.map byteOf), B, H⟩
    | none => none
  | _ => none
 | _, _, _ => none
def assertA (P : Program) (x : AVal) (t : TypeId) (ok : Bool) : Option AVal :=
 match P.underlying t with
 | some (.interface _) => none
 | none => none
 | some _ => match x with
  | .nilIface => if ok then (zeroV P t).map fun z => .tuple [z, .bool false] else none
  | .iface u v => if u = t then some (if ok then .tuple [v, .bool true] else v) else if ok then (zeroV P t).map fun z => .tuple [z, .bool false] else none
  | _ => none
def unA (op : UnOp) (x : AVal) : Option AVal :=
 match op, x with
 | .not, .bool b => some (.bool (!b))
 | .neg, .int k n => some (.int k (k.wrap (0 - n)))
 | _, _ => none
def minA : AVal → AVal → Option AVal
 | .int k x, .int _ y => some (.int k (if y < x then y else x))
 | _, _ => none
def maxA : AVal → AVal → Option AVal
 | .int k x, .int _ y => some (.int k (if y > x then y else x))
 | _, _ => none
def lenA (P : Program) (H : Heap) (t : TypeId) : AVal → Option AVal
 | .map m => match H[m]?, P.underlying t with
  | some (.map _ es), some (.map _ _) => some (.int .i64 (es.length : Nat))
  | _, _ => none
 | .str s => match P.underlying t with
  | some .string => some (.int .i64 s.length)
  | _ => none
 | .list _ n _ => match P.underlying t with
  | some (.slice _) => some (.int .i64 n)
  | _ => none
 | .own _ _ len _ _ => match P.underlying t with
  | some (.slice _) => some (.int .i64 len)
  | _ => none
 | .nilX => match P.underlying t with
  | some (.slice _) => some (.int .i64 (0 : Nat))
  | _ => none
 | _ => none
def val (B : Boxes) (H : Heap) : Option (Bool × AVal) → Option SR
 | some (ok, v) => some ⟨ok, v, B, H⟩
 | none => none
def val1 (B : Boxes) (H : Heap) : Option AVal → Option SR
 | some v => some ⟨true, v, B, H⟩
 | none => none
def makeA (P : Program) (H : Heap) (t : TypeId) (l c : AVal) : Option (Bool × AVal × Heap) :=
 match elemT P t with
 | none => none
 | some e => match sizeT P e, bytesT P e, zeroT P e, l, c with
  | some sz, some by_, some z, .int _ nl, .int _ nc => if sz = 0 ∨ z.length ≠ sz then none else
   some (decide (0 ≤ nl) && decide (nl ≤ nc) && decide ((by_ : Int) * nc ≤ 281474976710656) && decide (nc ≤ 9223372036854775807), .own H.length 0 nl.toNat 0 false, H ++ [.arr sz (List.replicate nl.toNat z) 0])
  | _, _, _, _, _ => none
def arrA (B : Boxes) (H : Heap) (z : Vs) : SR := ⟨!z.isEmpty, .eptr H.length 0 0 0, B, H ++ [.arr 1 (z.map fun v => [v]) 0]⟩
def copyA (P : Program) (t : TypeId) (B : Boxes) (H : Heap) (d s : AVal) : Option SR :=
 match elemT P t with
 | some e => match sizeT P e, d, s with
  | some _, .own k off len ver _, .str [c] => match storeA B H (.eptr k ver off 0) (byteRow c) with
   | some r => some ⟨r.ok && decide (0 < len), .int .i64 (1 : Nat), r.B, r.H⟩
   | none => none
  | _, _, _ => none
 | none => none
def clearA (P : Program) (t : TypeId) (B : Boxes) (H : Heap) (d : AVal) : Option SR :=
 match elemT P t with
 | some e => match zeroT P e, d with
  | some z, .own k off len ver _ => match H[k]? with
   | some (.arr sz rows u) => some ⟨u == ver && z.length == sz && decide (off + len ≤ rows.length), .undef, B, H.set k (.arr sz (rows.take off ++ List.replicate len z ++ rows.drop (off + len)) u)⟩
   | _ => none
  | _, _ => none
 | none => none
def nilOf : AVal → Option Bool
 | .nilS => some true
 | .nilX => some true
 | .nonS => some false
 | .list _ (_ + 1) _ => some false
 | _ => none
def nilPOf : AVal → Option Bool
 | .nilptr => some true
 | .ptr _ _ => some false
 | _ => none
def nilCmp (P : Program) (op : BinOp) (t : TypeId) (y : Operand) (x : AVal) : Option Bool :=
 match (match y with
  | .const (.slice none 0 0) => (match P.underlying t with
   | some (.slice _) => nilOf x
   | _ => none)
  | .const (.pointer none) => (match P.underlying t with
   | some (.pointer _) => nilPOf x
   | _ => none)
  | _ => none), op with
 | some b, .eql => some b
 | some b, .neq => some (!b)
 | _, _ => none
def ptrSame (P : Program) (op : BinOp) (t : TypeId) (x y : AVal) : Option Bool := match x, y with
 | .ptr (.hp i) o, .ptr (.hp j) o' => if i = j ∧ o = o' then (match P.underlying t with
  | some (.pointer te) => (match P.info? te, op with
   | some _, .eql => some true
   | some _, .neq => some false
   | _, _ => none)
  | _ => none) else none
 | _, _ => none
def isSc : AVal → Bool
 | .bool _ => true
 | .int _ _ => true
 | _ => false
def scOf : AVal → Value
 | .bool b => .bool b
 | .int k n => .int k n
 | _ => undef
def mapT (P : Program) (t : TypeId) : Option (IntKind × TypeId) := match P.underlying t with
 | some (.map kt e) => match P.underlying kt with
  | some (.int k) => some (k, e)
  | _ => none
 | _ => none
def mpFind (n : Int) : List (Int × AVal) → Option AVal
 | [] => none
 | (m, v) :: es => bif n == m then some v else mpFind n es
def mpPut (n : Int) (v : AVal) : List (Int × AVal) → List (Int × AVal)
 | [] => [(n, v)]
 | (m, u) :: es => bif n == m then (n, v) :: es else (m, u) :: mpPut n v es
def mpDel (n : Int) : List (Int × AVal) → List (Int × AVal)
 | [] => []
 | (m, u) :: es => bif n == m then es else (m, u) :: mpDel n es
def hintOk : Option AVal → Bool
 | none => true
 | some (.int _ _) => true
 | _ => false
def newMapA (P : Program) (B : Boxes) (H : Heap) (t : TypeId) (r : Option AVal) : Option SR := match mapT P t with
 | some (k, _) => some ⟨hintOk r, .map H.length, B, H ++ [.map k []]⟩
 | none => none
def lookA (P : Program) (H : Heap) (t : TypeId) (x i : AVal) (ok : Bool) : Option (Bool × AVal) :=
 match mapT P t, x, i with
 | some (k, e), .map m, .int k' n => match H[m]?, zeroV P e with
  | some (.map kk es), some z => some (decide (k' = k) && decide (kk = k) && isSc ((mpFind n es).getD z), if ok then .tuple [(mpFind n es).getD z, .bool (mpFind n es).isSome] else (mpFind n es).getD z)
  | _, _ => none
 | _, _, _ => none
def putA (P : Program) (B : Boxes) (H : Heap) (t : TypeId) (x i v : AVal) : Option SR :=
 match mapT P t, x, i with
 | some (k, _), .map m, .int k' n => match H[m]? with
  | some (.map kk es) => some ⟨decide (k' = k) && decide (kk = k) && isSc v, .undef, B, H.set m (.map kk (mpPut n v es))⟩
  | _ => none
 | _, _, _ => none
def delA (P : Program) (B : Boxes) (H : Heap) (t : TypeId) (x i : AVal) : Option SR :=
 match mapT P t, x, i with
 | some (k, _), .map m, .int k' n => match H[m]? with
  | some (.map kk es) => some ⟨decide (k' = k) && decide (kk = k), .undef, B, H.set m (.map kk (mpDel n es))⟩
  | _ => none
 | _, _, _ => none
inductive ExtK where
 | count
 | index
 | esc
def extOf (P : Program) (f : Operand) : Option ExtK := match f with
 | .func g => match P.funcs[g]? with
  | some fn => if fn.body.isNone && fn.origin == "" then
   (if fn.name == "internal/bytealg.CountString" then some .count else if fn.name == "internal/bytealg.IndexByteString" then some .index else if fn.name == "internal/abi.NoEscape" then some .esc else none)
   else none
  | none => none
 | _ => none
def extA (e : ExtK) (xs : Vs) : Option AVal := match e, xs with
 | .count, [.str s, .int k c] => if k = .u8 then some (.int .i64 (Lib.countByte s c.toNat.toUInt8)) else none
 | .index, [.str s, .int k c] => if k = .u8 then some (.int .i64 (Lib.indexByte s c.toNat.toUInt8)) else none
 | .esc, [x] => if noTmp x then some x else none
 | _, _ => none
def ghostsOf : List (Nat × TypeId) → Heap
 | [] => []
 | (m, t) :: l => .arr (m + 1) [] 0 :: .note t 0 :: ghostsOf l
def noteOf (fh : FH) (d : Nat) (t : TypeId) (z : Vs) : Heap := match fh.typed.lookup d with
 | some l => .note t z.length :: ghostsOf l
 | none => []
def stepOp (P : Program) (fh : FH) (T : Vs) (B : Boxes) (H : Heap) (o : Oper) : Option SR :=
 let d := o.dst.getD 0
 match o.op with
 | .move x => some ⟨true, aeval T x, B, H⟩
 | .assign x => some ⟨true, aeval T x, B, H⟩
 | .pick c a b => match aeval T c with
  | .bool q => some ⟨true, pickA q (aeval T a) (aeval T b), B, H⟩
  | _ => none
 | .alloc t => match o.dst, zeroTX fh.exact P t with
  | some d, some z => if fh.heap.contains d then some ⟨true, .ptr (.hp H.length) 0, B, H ++ .var z :: noteOf fh d t z⟩
   else if fh.arrs.contains d then some (arrA B H z)
   else if d < B.length then some ⟨!T.any (pointsTo d), .ptr (.tmp d) 0, bset B d z, H⟩ else none
  | _, _ => none
 | .box t x => match o.dst, cellsOf? (aeval T x) with
  | some d, some z => if fh.heap.contains d then some ⟨noTmp (aeval T x), .ptr (.hp H.length) 0, B, H ++ .var z :: noteOf fh d t z⟩
   else if d < B.length then some ⟨noTmp (aeval T x) && !T.any (pointsTo d), .ptr (.tmp d) 0, bset B d z, H⟩ else none
  | _, _ => none
 | .build t ps => match buildA fh.exact P t (ps.toList.map fun x => (x.1, aeval T x.2)) with
  | some v => some ⟨ps.toList.all (fun x => noTmp (aeval T x.2)), v, B, H⟩
  | none => none
 | .buildSlice t n ps => match elemT P t with
  | some e => match sizeT P e with
   | some sz => match rowsA sz 0 (ps.toList.map fun x => (x.1, aeval T x.2)) with
    | some rows => if rows.length = n ∧ sz ≠ 0 ∧ zeroOk P e sz = true ∧ n * sz ≤ 16777216 then
     (if fh.own.contains d then some ⟨ps.toList.all (fun x => noTmp (aeval T x.2)), .own H.length 0 n 0 false, B, H ++ [.arr sz rows 0]⟩
      else some ⟨ps.toList.all (fun x => noTmp (aeval T x.2)) && rows.all (fun r => r.all isPure), .list true n (fun i => rows.getD i []), B, H⟩)
     else none
    | none => none
   | none => none
  | none => none
 | .makeSlice t l c => match makeA P H t (aeval T l) (aeval T c) with
  | some (ok, v, H') => some ⟨ok, v, B, H'⟩
  | none => none
 | .makeMap t r => newMapA P B H t (r.map (aeval T))
 | .lookup t x i ok => val B H (lookA P H t (aeval T x) (aeval T i) ok)
 | .mapUpdate t x i v => putA P B H t (aeval T x) (aeval T i) (aeval T v)
 | .load t a => val B H (loadA P B H t (aeval T a))
 | .store t a x => match cellsOf? (exV fh.exact x (aeval T x)), sizeT P t with
  | some cs, some n => if cs.length = n then match storeA B H (aeval T a) cs with
   | some r => some ⟨noTmp (exV fh.exact x (aeval T x)) && r.ok, r.v, r.B, r.H⟩
   | none => none
   else none
  | _, _ => none
 | .nilCheck x => match aeval T x with
  | .ptr o off => some ⟨true, .ptr o off, B, H⟩
  | .rptr cs => some ⟨true, .rptr cs, B, H⟩
  | .eptr k v i off => match H[k]? with
   | some (.arr _ _ u) => some ⟨u == v, .eptr k v i off, B, H⟩
   | _ => none
  | .func f cs => some ⟨true, .func f cs, B, H⟩
  | _ => none
 | .binOp op t x y _ => match nilCmp P op t y (aeval T x) with
  | some b => val1 B H (some (.bool b))
  | none => match ptrSame P op t (aeval T x) (aeval T y) with
   | some b => val1 B H (some (.bool b))
   | none => val B H (binA P op t (aeval T x) (aeval T y))
 | .unOp op _ x => val1 B H (unA op (aeval T x))
 | .convert s t x => convA P (fh.own.contains d) B H s t (aeval T x)
 | .makeInterface t x => match P.underlying t with
  | some (.interface _) => none
  | some _ => some ⟨noTmp (aeval T x), .iface t (aeval T x), B, H⟩
  | none => none
 | .makeFunc fn first caps => match fn with
  | .func f => if first.size = 0 then some ⟨(caps.toList.map (aeval T)).all noTmp, .func f (caps.toList.map (aeval T)), B, H⟩ else none
  | _ => none
 | .slice t x lo hi mx => val B H (sliceA P H t (aeval T x) (lo.map (aeval T)) (hi.map (aeval T)) (mx.map (aeval T)))
 | .fieldAddr t x f => val B H (fieldAddrA P H t (aeval T x) f)
 | .indexAddr t x i => val B H (idxA P H t (aeval T x) (aeval T i))
 | .index t x i => match P.underlying t, aeval T x, aeval T i with
  | some .string, .str s, .int _ i => some ⟨decide (0 ≤ i) && decide (i < s.length), .int .u8 (s.getD i.toNat 0).toNat, B, H⟩
  | _, _, _ => none
 | .typeAssert x _ t ok => val1 B H (assertA P (aeval T x) t ok)
 | .extract x i => match aeval T x with
  | .tuple vs => match vs[i]? with
   | some v => some ⟨true, v, B, H⟩
   | none => none
  | _ => none
 | .call c => match c.callee with
  | .builtin .len => match c.argTypes[0]?, c.args[0]? with
   | some t, some x => val1 B H (lenA P H t (aeval T x))
   | _, _ => none
  | .builtin .append => match c.argTypes[0]?, c.args[0]?, c.args[1]?, c.argTypes[1]? with
   | some t, some s, some x, some u => if c.args.size = 2 ∧ c.argTypes.size = 2 ∧ srcOk (P.underlying u) (aeval T x) = true then appendA P (fh.nils.contains d) t B H (aeval T s) (aeval T x) else none
   | _, _, _, _ => none
  | .builtin .copy => match c.argTypes[0]?, c.args.toList with
   | some t, [x, y] => copyA P t B H (aeval T x) (aeval T y)
   | _, _ => none
  | .builtin .clear => match c.argTypes[0]?, c.args.toList with
   | some t, [x] => clearA P t B H (aeval T x)
   | _, _ => none
  | .builtin .delete => match c.argTypes[0]?, c.args.toList with
   | some t, [x, i] => delA P B H t (aeval T x) (aeval T i)
   | _, _ => none
  | .builtin .min => match c.args.toList with
   | [x, y] => val1 B H (minA (aeval T x) (aeval T y))
   | _ => none
  | .builtin .max => match c.args.toList with
   | [x, y] => val1 B H (maxA (aeval T x) (aeval T y))
   | _ => none
  | .value f => match extOf P f with
   | some e => val1 B H (extA e (c.args.toList.map (aeval T)))
   | none => none
  | _ => none
 | _ => none
def callable (P : Program) (f : FuncId) : Bool :=
 match P.funcs[f]? with
 | some fn => fn.name != "runtime.NumGoroutine" && fn.body.isSome
 | none => false
def borrowV (H : Heap) : AVal → AVal
 | .own k off len ver _ => match H[k]? with
  | some (.arr _ rows v) => .list false len (fun i => rows.getD (off + i) [])
  | _ => .undef
 | v => v
def borrowOk (H : Heap) : AVal → Bool
 | .own k off len ver _ => match H[k]? with
  | some (.arr _ rows v) => v == ver && decide (off + len ≤ rows.length) && rows.all (fun r => r.all isPure)
  | _ => false
 | v => isPure v
def isOwn : AVal → Bool
 | .own .. => true
 | _ => false
def callA (h : Hd) (fh : FH) (g : FuncId) (xs : Vs) (H : Heap) (k : Out → Ans) : Ans :=
 if !fh.thaw.contains g && xs.all isPure then
  h g xs [] fun
   | .ret v _ => if isPure v then k (.ret v H) else none
   | .panic p _ => if isPure p then k (.panic p H) else none
 else if !fh.thaw.contains g && (!fh.keep.contains g && xs.all (fun x => isPure x || isOwn x)) then
  cond (xs.all (borrowOk H)) (h g (xs.map (borrowV H)) [] fun
   | .ret v _ => if isFlat v then k (.ret v H) else none
   | .panic p _ => if isFlat p then k (.panic p H) else none) none
 else cond (xs.all noTmp) (h g xs H k) none
abbrev Tags := List (Option (Nat × Bool × Bool))
structure RS where
 T : Vs
 B : Boxes
 H : Heap
 D : List (FuncId × Vs)
 G : Tags
inductive Rec where
 | rd (i : Nat) (t : TypeId) (p v : AVal)
 | eff (i : Nat) (box : Option Nat) (B0 : Boxes) (H0 : Heap) (B1 : Boxes) (H1 : Heap)
 | use (i : Nat)
 | al (i d : Nat)
 | ptv (i d : Nat)
 | pan (i : Nat)
 | bad
def guardDst (ops : List Oper) (o : Oper) : Option (Nat × Bool) :=
 match o.guard with
 | none => none
 | some (j, w) => match ops[j]? with
  | some oj => match oj.dst with
   | some d => some (d, w)
   | none => none
  | none => none
def valid (G : Tags) (t : Nat) : Bool :=
 match G.getD t none with
 | none => true
 | some (_, _, g) => g
def eqB (w b : Bool) : Bool := cond w b (!b)
def gval (T : Vs) (G : Tags) (d : Nat) (w : Bool) : Bool := valid G d && eqB w (boolOf (T.getD d .undef))
theorem gval_eq (T : Vs) (G : Tags) (d : Nat) (w : Bool) : gval T G d w = (boolOf (T.getD d .undef) == w && valid G d) := by
 unfold gval eqB
 cases w <;> cases boolOf (T.getD d .undef) <;> cases valid G d <;> rfl
def tagOk (G : Tags) : Nat → Option (Nat × Bool) → Nat → Bool
 | 0, _, _ => false
 | f + 1, c, t => match G.getD t none with
  | none => true
  | some (d, w, _) => match c with
   | none => false
   | some (d', w') => (d == d' && w == w') || (match G.getD d' none with
    | none => false
    | some (d'', w'', _) => tagOk G f (some (d'', w'')) t)
def tmpsOf (l : List Operand) : List Nat := l.filterMap fun | .tmp t => some t | _ => none
def opTags (G : Tags) (c : Option (Nat × Bool)) (o : Op) : Bool :=
 match o with
 | .pick (.tmp q) a b =>
  tagOk G 8 c q &&
  (tmpsOf [a]).all (fun t => tagOk G 8 c t || (match G.getD t none with | some (d, w, _) => d == q && w | none => false)) &&
  (tmpsOf [b]).all (fun t => tagOk G 8 c t || (match G.getD t none with | some (d, w, _) => d == q && !w | none => false))
 | o => (tmpsOf o.operands.toList).all (tagOk G 8 c)
def setDst (T : Vs) (d : Option Nat) (v : AVal) : Vs :=
 match d with
 | some d => T.set d v
 | none => T
def addTag (G : Tags) (dst : Option Nat) (c : Option (Nat × Bool)) (g : Bool) : Tags :=
 match dst, c with
 | some d, some (e, w) => G.set d (some (e, w, g))
 | _, _ => G
def guardOk (T : Vs) (G : Tags) (dst : Option Nat) (c : Option (Nat × Bool)) : Bool :=
 match c with
 | some (d, _) => (isBool (T.getD d .undef) || !valid G d) && dst != some d
 | none => true
def freeDst (G : Tags) (dst : Option Nat) : Bool :=
 match dst with
 | some d => G.all (fun x => match x with | some (e, _, _) => e != d | none => true) && (G.getD d none).isNone
 | none => true
def writes (o : Oper) (fh : FH) (T : Vs) : Option (Option Nat) :=
 match o.op with
 | .store _ a _ => match aeval T a with
  | .ptr (.tmp t) _ => some (some t)
  | _ => some none
 | .alloc _ => if fh.heap.contains (o.dst.getD 0) then some none else if fh.arrs.contains (o.dst.getD 0) then some none else some o.dst
 | .box _ _ => if fh.heap.contains (o.dst.getD 0) then some none else some o.dst
 | .buildSlice .. => if fh.own.contains (o.dst.getD 0) then some none else none
 | .makeSlice .. => some none
 | .makeMap .. => some none
 | .mapUpdate .. => some none
 | .convert .. => if fh.own.contains (o.dst.getD 0) then some none else none
 | .call c => match c.callee with
  | .builtin .append => some none
  | .builtin .copy => some none
  | .builtin .clear => some none
  | .builtin .delete => some none
  | _ => none
 | _ => none
def isEptr : AVal → Bool
 | .eptr .. => true
 | _ => false
def isMapV : AVal → Bool
 | .map _ => true
 | _ => false
def usesH (o : Oper) (T : Vs) : Bool :=
 match o.op with
 | .convert _ _ x => isOwn (aeval T x) || isHp (aeval T x)
 | .slice _ x _ _ _ => isOwn (aeval T x) || isEptr (aeval T x)
 | .indexAddr _ x _ => isOwn (aeval T x) || isEptr (aeval T x)
 | .fieldAddr _ x _ => isEptr (aeval T x)
 | .nilCheck x => isEptr (aeval T x)
 | .lookup .. => true
 | .call c => match c.callee with
  | .builtin .len => match c.args[0]? with
   | some x => isMapV (aeval T x)
   | none => false
  | _ => false
 | _ => false
def ptvOf (i : Nat) : AVal → List Rec
 | .ptr (.tmp d) _ => [.ptv i d]
 | _ => []
def alOf (i : Nat) (o : Oper) (fh : FH) (T : Vs) : List Rec :=
 match o.op, writes o fh T with
 | .alloc _, some (some d) => [.al i d]
 | .box _ _, some (some d) => [.al i d]
 | _, _ => []
def recOf (i : Nat) (o : Oper) (fh : FH) (T : Vs) (B : Boxes) (H : Heap) (r : SR) : List Rec :=
 (match o.op with
  | .load t a => [.rd i t (aeval T a) r.v]
  | _ => []) ++
 (if usesH o T then [.use i] else []) ++
 (match writes o fh T with
  | some b => [.eff i b B H r.B r.H]
  | none => []) ++ alOf i o fh T ++ ptvOf i r.v
abbrev RKont := List Rec → RS → Ans
def quietCall (fh : FH) (g : FuncId) (xs : Vs) : Bool := (!fh.thaw.contains g && xs.all isPure) || (!fh.thaw.contains g && (!fh.keep.contains g && xs.all (fun x => isPure x || isOwn x)))
def callRecs (fh : FH) (g : FuncId) (xs : Vs) (i : Nat) (B : Boxes) (H H' : Heap) (v : AVal) : List Rec :=
 (if quietCall fh g xs then (if xs.all isPure then [] else [.use i]) else [.eff i none B H B H', .use i]) ++ ptvOf i v
inductive Kind where
 | call (f : Operand) (args : Array Operand)
 | pan (x : Operand)
 | dfr (f : Operand) (args : Array Operand)
 | other
def kindOf (P : Program) (o : Op) : Kind :=
 match o with
 | .call c => match c.callee with
  | .value f => match extOf P f with
   | some _ => .other
   | none => .call f c.args
  | _ => .other
 | .panic x => .pan x
 | .defer c => match c.callee with
  | .value f => .dfr f c.args
  | _ => .other
 | _ => .other
def gvOf (s : RS) (c : Option (Nat × Bool)) : Bool := match c with
 | some (d, w) => gval s.T s.G d w
 | none => true
def funOf (P : Program) (v : AVal) : Option (FuncId × Vs) := match v with
 | .func g caps => if callable P g then some (g, caps) else none
 | _ => none
def ifaceOf (v : AVal) : Option (TypeId × AVal) := match v with
 | .iface t v => some (t, v)
 | _ => none
def mixed (x y : AVal) : Bool := match x, y with
 | .bool _, .bool _ => false
 | .int k _, .int k' _ => !decide (k = k')
 | .str _, .str _ => false
 | _, _ => true
def isPl : AVal → Bool
 | .list _ _ _ => true
 | _ => false
def plF : AVal → Bool
 | .list f _ _ => f
 | _ => false
def plN : AVal → Nat
 | .list _ n _ => n
 | _ => 0
def plR : AVal → Nat → Vs
 | .list _ _ r => r
 | _ => fun _ => []
def onV (fh : FH) (T : Vs) (o : Oper) (r : SR) (F : SR → Ans) : Ans :=
 match o.op with
 | .load _ _ => if fh.plain.contains (o.dst.getD 0) then cond (isPl r.v) (F { r with v := .list (plF r.v) (plN r.v) (plR r.v) }) none else if fh.strs.contains (o.dst.getD 0) then cond (isStr r.v) (F { r with v := .str (strOf r.v) }) none else F r
 | .pick c a b => match aeval T c with
  | .bool q => if mixed (aeval T a) (aeval T b) then cond q (F { r with v := aeval T a }) (F { r with v := aeval T b }) else F r
  | _ => F r
 | _ => F r
theorem pickA_true (x y : AVal) : pickA true x y = x := by
 unfold pickA
 split <;> try rfl
 split <;> rfl
theorem pickA_false (x y : AVal) : pickA false x y = y := by
 unfold pickA
 split <;> try rfl
 split
 · rename_i h; subst h; rfl
 · rfl
theorem onV_eq {P : Program} {fh : FH} {T : Vs} {B : Boxes} {H : Heap} {o : Oper} {r : SR} {F : SR → Ans} (h : stepOp P fh T B H o = some r) {out : Out} (hF : onV fh T o r F = some out) : F r = some out := by
 unfold onV at hF
 split at hF
 · split at hF
   · rw [Bool.cond_eq_ite] at hF
     split at hF
     · rename_i hp
       have e : AVal.list (plF r.v) (plN r.v) (plR r.v) = r.v := by
        unfold isPl at hp
        split at hp
        · rename_i e; rw [e]; rfl
        · simp at hp
       rw [e] at hF
       exact hF
     · simp at hF
   · split at hF
     · rw [Bool.cond_eq_ite] at hF
       split at hF
       · rename_i hp
         have e : AVal.str (strOf r.v) = r.v := by
          cases hv : r.v <;> rw [hv] at hp <;> first | rfl | (simp [isStr] at hp)
         rw [e] at hF
         exact hF
       · simp at hF
     · exact hF
 · rename_i c a b e
   split at hF
   · rename_i q hq
     split at hF
     · unfold stepOp at h
       simp only [e, hq, sJ] at h
       subst h
       cases q
       · simpa only [cond_false, pickA_false] using hF
       · simpa only [cond_true, pickA_true] using hF
     · exact hF
   · exact hF
 · exact hF
def isUndef : AVal → Bool
 | .undef => true
 | _ => false
def pureCall (P : Program) (fh : FH) (s : RS) (c : Option (Nat × Bool)) (o : Oper) (f : Operand) (args : Array Operand) : Option (FuncId × Vs) :=
 match c with
 | none => none
 | some _ => if opTags s.G c o.op then match funOf P (aeval s.T f) with
  | some (g, caps) => if (args.toList.map (aeval s.T) ++ caps).all (fun x => isPure x && !isUndef x) && !fh.thaw.contains g then some (g, args.toList.map (aeval s.T) ++ caps) else none
  | none => none
  else none
theorem pureCall_some {P : Program} {fh : FH} {s : RS} {c : Option (Nat × Bool)} {o : Oper} {f : Operand} {args : Array Operand} {g : FuncId} {xs : Vs} (h : pureCall P fh s c o f args = some (g, xs)) :
 ∃ d caps, c = some d ∧ opTags s.G c o.op = true ∧ funOf P (aeval s.T f) = some (g, caps) ∧ xs = args.toList.map (aeval s.T) ++ caps ∧ xs.all isPure = true ∧ fh.thaw.contains g = false := by
 unfold pureCall at h
 split at h
 · simp at h
 · rename_i d
   split at h
   · rename_i ht
     split at h
     · rename_i g' caps hf
       split at h
       · rename_i hc
         simp only [sJ, Prod.mk.injEq] at h
         obtain ⟨rfl, rfl⟩ := h
         simp only [Bool.and_eq_true, Bool.not_eq_true'] at hc
         refine ⟨d, caps, rfl, ht, hf, rfl, ?_, hc.2⟩
         rw [List.all_eq_true] at hc ⊢
         intro x hx
         have := hc.1 x hx
         rw [Bool.and_eq_true] at this
         exact this.1
       · simp at h
     · simp at h
   · simp at h
def iOpsL (P : Program) (h : Hd) (fh : FH) (ops : List Oper) : List Oper → Nat → List Rec → RS → (Nat → List Rec → AVal → RS → Ans) → RKont → Ans
 | [], _, rs, s, _, k => k rs s
 | o :: rest, i, rs, s, kp, k =>
  let c := guardDst ops o
  if (o.guard.isSome && c.isNone) || !freeDst s.G o.dst then none else cond (!guardOk s.T s.G o.dst c) none <|
  let skip (_ : Unit) : Ans := iOpsL P h fh ops rest (i + 1) rs { s with T := setDst s.T o.dst .undef, G := addTag s.G o.dst c false } kp k
  match kindOf P o.op with
  | .call f args => match pureCall P fh s c o f args with
   | some (g, xs) => callA h fh g xs s.H fun
    | .ret v _ => iOpsL P h fh ops rest (i + 1) (callRecs fh g xs i s.B s.H s.H v ++ rs) { s with T := setDst s.T o.dst v, G := addTag s.G o.dst c (gvOf s c) } kp k
    | .panic p H' => cond (gvOf s c) (kp i rs p { s with H := H' }) (skip ())
   | none =>
    cond (gvOf s c) (if opTags s.G c o.op then match funOf P (aeval s.T f) with
     | some (g, caps) => callA h fh g (args.toList.map (aeval s.T) ++ caps) s.H fun
      | .ret v H' => iOpsL P h fh ops rest (i + 1) (callRecs fh g (args.toList.map (aeval s.T) ++ caps) i s.B s.H H' v ++ rs)
       { s with T := setDst s.T o.dst v, H := H', G := addTag s.G o.dst c true } kp k
      | .panic p H' => kp i rs p { s with H := H' }
     | none => none
     else none) (skip ())
  | .pan x => match c with
   | some _ => none
   | none => if opTags s.G c o.op then match ifaceOf (aeval s.T x) with
    | some (t, v) => kp i rs (.iface t v) s
    | none => none
    else none
  | .dfr f args => match c with
   | none => match funOf P (aeval s.T f) with
    | some (g, caps) => if opTags s.G c o.op && args.size == 0 && caps.all noTmp then
     iOpsL P h fh ops rest (i + 1) (.bad :: rs) { s with T := setDst s.T o.dst .undef, D := (g, caps) :: s.D } kp k else none
    | none => none
   | some _ => none
  | .other =>
   match (if opTags s.G c o.op then stepOp P fh s.T s.B s.H o else none) with
   | some r => match c with
    | none => cond r.ok (onV fh s.T o r fun r => iOpsL P h fh ops rest (i + 1) (recOf i o fh s.T s.B s.H r ++ rs) { s with T := setDst s.T o.dst r.v, B := r.B, H := r.H } kp k) none
    | some _ => match writes o fh s.T with
     | some _ => none
     | none => cond (r.ok || !gvOf s c) (onV fh s.T o r fun r => iOpsL P h fh ops rest (i + 1) (recOf i o fh s.T s.B s.H r ++ rs) { s with T := setDst s.T o.dst r.v, G := addTag s.G o.dst c (gvOf s c) } kp k) none
   | none => match c with
    | some _ => cond (gvOf s c) none (skip ())
    | none => none
def setK {α R : Type} : List α → Nat → α → (List α → R) → R
 | [], _, _, F => F []
 | _ :: xs, 0, v, F => F (v :: xs)
 | x :: xs, n + 1, v, F => setK xs n v fun ys => F (x :: ys)
theorem setK_eq {α R : Type} : ∀ (xs : List α) (n : Nat) (v : α) (F : List α → R), setK xs n v F = F (xs.set n v)
 | [], _, _, _ => rfl
 | _ :: _, 0, _, _ => rfl
 | x :: xs, n + 1, v, F => by rw [setK, setK_eq xs n v]; rfl
def spine {α R : Type} : List α → (List α → R) → R
 | [], F => F []
 | x :: xs, F => spine xs fun ys => F (x :: ys)
theorem spine_eq {α R : Type} : ∀ (xs : List α) (F : List α → R), spine xs F = F xs
 | [], _ => rfl
 | x :: xs, F => by rw [spine, spine_eq xs]
def spines {α R : Type} : List (List α) → (List (List α) → R) → R
 | [], F => F []
 | x :: xs, F => spine x fun x => spines xs fun ys => F (x :: ys)
theorem spines_eq {α R : Type} : ∀ (xs : List (List α)) (F : List (List α) → R), spines xs F = F xs
 | [], _ => rfl
 | x :: xs, F => by rw [spines, spine_eq, spines_eq xs]
def forceV (v : AVal) (F : AVal → Ans) : Ans := match v with
 | .undef => F .undef
 | .bool b => F (.bool b)
 | .int k n => F (.int k n)
 | .str s => F (.str s)
 | .list f n r => F (.list f n r)
 | .own k o l u c => F (.own k o l u c)
 | .ptr (.tmp t) o => F (.ptr (.tmp t) o)
 | .ptr (.hp k) o => F (.ptr (.hp k) o)
 | .eptr k u i o => F (.eptr k u i o)
 | .rptr cs => F (.rptr cs)
 | .nilptr => F .nilptr
 | .nilS => F .nilS
 | .nonS => F .nonS
 | .nilX => F .nilX
 | .func f cs => F (.func f cs)
 | .nilfunc => F .nilfunc
 | .iface t x => F (.iface t x)
 | .nilIface => F .nilIface
 | .agg cs => spine cs fun cs => F (.agg cs)
 | .tuple vs => spine vs fun vs => F (.tuple vs)
 | .map k => F (.map k)
theorem forceV_eq (v : AVal) (F : AVal → Ans) : forceV v F = F v := by
 cases v <;> try rfl
 · rename_i o _; cases o <;> rfl
 · simp only [forceV, spine_eq]
 · simp only [forceV, spine_eq]
def strict (w : Option (Option Nat)) (r : SR) (F : SR → Ans) : Ans := forceV r.v fun v => match w with
 | some (some _) => spines r.B fun B => F ⟨r.ok, v, B, r.H⟩
 | some none => spine r.H fun H => F ⟨r.ok, v, r.B, H⟩
 | none => F ⟨r.ok, v, r.B, r.H⟩
theorem strict_eq (w : Option (Option Nat)) (r : SR) (F : SR → Ans) : strict w r F = F r := by
 unfold strict
 rw [forceV_eq]
 split <;> simp only [spine_eq, spines_eq]
def setD (T : Vs) (d : Option Nat) (v : AVal) (F : Vs → Ans) : Ans := match d with
 | some d => setK T d v F
 | none => F T
theorem setD_eq (T : Vs) (d : Option Nat) (v : AVal) (F : Vs → Ans) : setD T d v F = F (setDst T d v) := by
 cases d with
 | none => rfl
 | some d => exact setK_eq T d v F
def addG (G : Tags) (dst : Option Nat) (c : Option (Nat × Bool)) (g : Bool) (F : Tags → Ans) : Ans := match dst, c with
 | some d, some (e, w) => setK G d (some (e, w, g)) F
 | _, _ => F G
theorem addG_eq (G : Tags) (dst : Option Nat) (c : Option (Nat × Bool)) (g : Bool) (F : Tags → Ans) : addG G dst c g F = F (addTag G dst c g) := by
 unfold addG addTag
 split
 · exact setK_eq _ _ _ _
 · rfl
def zipT : Vs → Tags → (Vs → Ans) → Ans
 | t :: ts, none :: gs, F => zipT ts gs fun r => F (t :: r)
 | _ :: ts, some _ :: gs, F => zipT ts gs fun r => F (.undef :: r)
 | [], _, F => F []
 | _ :: _, [], F => F []
theorem zipT_eq : ∀ (T : Vs) (G : Tags) (F : Vs → Ans), zipT T G F = F ((T.zip G).map (fun x => match x.2 with | none => x.1 | some _ => .undef))
 | t :: ts, none :: gs, F => by rw [zipT, zipT_eq ts gs]; rfl
 | _ :: ts, some _ :: gs, F => by rw [zipT, zipT_eq ts gs]; rfl
 | [], _, F => by simp [zipT]
 | _ :: _, [], F => by simp [zipT]
def iOps (P : Program) (h : Hd) (fh : FH) (ops : List Oper) : List Oper → Nat → List Rec → RS → (Nat → List Rec → AVal → RS → Ans) → RKont → Ans
 | [], _, rs, s, _, k => k rs s
 | o :: rest, i, rs, s, kp, k =>
  let c := guardDst ops o
  if (o.guard.isSome && c.isNone) || !freeDst s.G o.dst then none else cond (!guardOk s.T s.G o.dst c) none <|
  let skip (_ : Unit) : Ans := setD s.T o.dst .undef fun T => addG s.G o.dst c false fun G => iOps P h fh ops rest (i + 1) rs { s with T := T, G := G } kp k
  match kindOf P o.op with
  | .call f args => match pureCall P fh s c o f args with
   | some (g, xs) => callA h fh g xs s.H fun
    | .ret v _ => setD s.T o.dst v fun T => addG s.G o.dst c (gvOf s c) fun G => iOps P h fh ops rest (i + 1) (callRecs fh g xs i s.B s.H s.H v ++ rs) { s with T := T, G := G } kp k
    | .panic p H' => cond (gvOf s c) (kp i rs p { s with H := H' }) (skip ())
   | none =>
    cond (gvOf s c) (if opTags s.G c o.op then match funOf P (aeval s.T f) with
     | some (g, caps) => callA h fh g (args.toList.map (aeval s.T) ++ caps) s.H fun
      | .ret v H' => setD s.T o.dst v fun T => addG s.G o.dst c true fun G => iOps P h fh ops rest (i + 1) (callRecs fh g (args.toList.map (aeval s.T) ++ caps) i s.B s.H H' v ++ rs)
       { s with T := T, H := H', G := G } kp k
      | .panic p H' => kp i rs p { s with H := H' }
     | none => none
     else none) (skip ())
  | .pan x => match c with
   | some _ => none
   | none => if opTags s.G c o.op then match ifaceOf (aeval s.T x) with
    | some (t, v) => kp i rs (.iface t v) s
    | none => none
    else none
  | .dfr f args => match c with
   | none => match funOf P (aeval s.T f) with
    | some (g, caps) => if opTags s.G c o.op && args.size == 0 && caps.all noTmp then
     iOps P h fh ops rest (i + 1) (.bad :: rs) { s with T := setDst s.T o.dst .undef, D := (g, caps) :: s.D } kp k else none
    | none => none
   | some _ => none
  | .other =>
   match (if opTags s.G c o.op then stepOp P fh s.T s.B s.H o else none) with
   | some r => match c with
    | none => cond r.ok (onV fh s.T o r fun r => strict (writes o fh s.T) r fun r => setD s.T o.dst r.v fun T => iOps P h fh ops rest (i + 1) (recOf i o fh s.T s.B s.H r ++ rs) { s with T := T, B := r.B, H := r.H } kp k) none
    | some _ => match writes o fh s.T with
     | some _ => none
     | none => cond (r.ok || !gvOf s c) (onV fh s.T o r fun r => strict (writes o fh s.T) r fun r => setD s.T o.dst r.v fun T => addG s.G o.dst c (gvOf s c) fun G => iOps P h fh ops rest (i + 1) (recOf i o fh s.T s.B s.H r ++ rs) { s with T := T, G := G } kp k) none
   | none => match c with
    | some _ => cond (gvOf s c) none (skip ())
    | none => none
theorem iOps_eq (P : Program) (h : Hd) (fh : FH) (ops : List Oper) : ∀ (l : List Oper) (i : Nat) (rs : List Rec) (s : RS) (kp : Nat → List Rec → AVal → RS → Ans) (k : RKont), iOps P h fh ops l i rs s kp k = iOpsL P h fh ops l i rs s kp k
 | [], _, _, _, _, _ => rfl
 | o :: rest, i, rs, s, kp, k => by
  have ih := iOps_eq P h fh ops rest
  unfold iOps iOpsL
  simp only [setD_eq, addG_eq, strict_eq, ih]
def cmpB (b : Array Nat) (i j : Nat) : Bool := if i < j then (b.getD j 0).testBit i else (b.getD i 0).testBit j
open Classical in
noncomputable def sameV (a b : AVal) : Bool :=
 (match a, b with
 | .int k x, .int k' y => decide (k = k') && x == y
 | .str x, .str y => x == y
 | .bool x, .bool y => x == y
 | .own k o l v c, .own k' o' l' v' c' => k == k' && o == o' && l == l' && v == v' && c == c'
 | .ptr (.hp k) o, .ptr (.hp k') o' => k == k' && o == o'
 | .nilIface, .nilIface => true
 | .nilptr, .nilptr => true
 | _, _ => false) || (if a = b then true else false)
def resOf (p : AVal) : Option Nat :=
 match p with
 | .ptr (.tmp t) _ => some t
 | _ => none
noncomputable def reread (P : Program) (B : Boxes) (H : Heap) (t : TypeId) (p v : AVal) : Bool :=
 match p with
 | .rptr _ => true
 | _ => match loadA P B H t p with
  | some (ok, u) => ok && sameV u v
  | none => false
noncomputable def pairOk (P : Program) (b : Array Nat) : Rec → Rec → Bool
 | .eff i x B0 H0 _ _, .rd j t p v => cmpB b i j || x != resOf p || reread P B0 H0 t p v
 | .rd i t p v, .eff j x _ _ B1 H1 => cmpB b i j || x != resOf p || reread P B1 H1 t p v
 | .eff i x _ _ _ _, .eff j y _ _ _ _ => cmpB b i j || x != y
 | .eff i x _ _ _ _, .use j => i == j || cmpB b i j || x.isSome
 | .use i, .eff j x _ _ _ _ => i == j || cmpB b i j || x.isSome
 | .al i d, .ptv j d' => i == j || cmpB b i j || d != d'
 | .ptv i d, .al j d' => i == j || d != d'
 | .eff i x _ _ _ _, .pan j => cmpB b i j || x.isSome
 | .bad, _ => false
 | _, .bad => false
 | _, _ => true
noncomputable def drawOk (P : Program) (b : Array Nat) : List Rec → Bool
 | [] => true
 | y :: rs => rs.all (fun x => pairOk P b x y) && (match y with | .bad => false | _ => true) && drawOk P b rs
def namesOf (ops : List Oper) (o : Oper) : List Nat := o.dst.toList ++ tmpsOf o.op.operands.toList ++ (match guardDst ops o with | some (d, _) => [d] | none => [])
def namesOk (ops : List Oper) (b : Array Nat) : Bool :=
 ops.zipIdx.all fun x => ops.zipIdx.all fun y => x.2 == y.2 || cmpB b x.2 y.2 || (match x.1.dst with | some d => !(namesOf ops y.1).contains d | none => true)
def edgesDown (ops : List Oper) : Bool := ops.zipIdx.all fun x => x.1.after.toList.all fun e => !Region.binds .any e || decide (e.on < x.2)
def guardsOk (ops : List Oper) : Bool :=
 ops.zipIdx.all fun x => ops.zipIdx.all fun y =>
  (match guardDst ops y.1, x.1.dst with
   | some (d, _), some e => e != d || decide (x.2 < y.2)
   | _, _ => true) &&
  (x.2 == y.2 || (match x.1.dst, y.1.dst with
   | some d, some e => d != e || (x.1.guard.isNone && y.1.guard.isNone)
   | _, _ => true))
def staticOk (ops : List Oper) (b : Array Nat) : Bool := namesOk ops b && edgesDown ops && guardsOk ops
def behind (n : Nat) (b : Array Nat) (i : Nat) : Bool := (List.range n).all fun j => decide (j ≤ i) || (b.getD j 0).testBit i
def untag (s : RS) : St := { T := (s.T.zip s.G).map (fun x => match x.2 with | none => x.1 | some _ => .undef), B := s.B, H := s.H, D := s.D }
def withUntag (s : RS) (F : St → Ans) : Ans := zipT s.T s.G fun T => F { T := T, B := s.B, H := s.H, D := s.D }
theorem withUntag_eq (s : RS) (F : St → Ans) : withUntag s F = F (untag s) := zipT_eq _ _ _
def dropDsts (ops : List Oper) (T : Vs) : Vs := ops.foldl (fun T o => setDst T o.dst .undef) T
def allocsFree (fh : FH) (ops : List Oper) (T : Vs) : Bool := ops.all fun o => match o.op with
 | .alloc _ => !T.any (pointsTo (o.dst.getD 0))
 | .box _ _ => !T.any (pointsTo (o.dst.getD 0))
 | _ => true
def renO (σ : List Nat) (o : Oper) : Oper := { o with after := o.after.map (fun e => { e with on := σ.idxOf e.on }), guard := o.guard.map (fun g => (σ.idxOf g.1, g.2)) }
def permOps (σ : List Nat) (l : List Oper) : List Oper := σ.map fun i => renO σ (l.getD i default)
def isAlloc (o : Oper) : Bool := match o.op with
 | .alloc _ => true
 | _ => false
def isCallO (o : Oper) : Bool := match o.op with
 | .call c => (match c.callee with
  | .value _ => true
  | _ => false)
 | _ => false
def waits (l : List Oper) (b : Array Nat) (i : Nat) : Bool := (List.range l.length).any (fun c => isCallO (l.getD c default) && (c == i || (b.getD i 0).testBit c))
def hoistOf (two : Bool) (l : List Oper) : List Nat :=
 if two then (List.range l.length).filter (fun i => !waits l (Region.before l.toArray) i) ++ (List.range l.length).filter (fun i => !!waits l (Region.before l.toArray) i)
 else (List.range l.length).filter (fun i => isAlloc (l.getD i default)) ++ (List.range l.length).filter (fun i => !isAlloc (l.getD i default))
noncomputable def iDrawn (P : Program) (h : Hd) (fh : FH) (l : List Oper) (st : St) (k : Kont) : Ans :=
 let s0 : RS := { T := st.T, B := st.B, H := st.H, D := st.D, G := st.T.map fun _ => none }
 let pan (p : AVal) (s : RS) : Ans := k (.panic p) { T := dropDsts l st.T, B := st.B.map fun _ => [], H := s.H, D := s.D }
 let b := Region.before l.toArray
 if P.follows .mixedOrders && staticOk l b && allocsFree fh l st.T then
  iOps P h fh l l 0 [] s0 (fun i rs p s => cond (behind l.length b i && drawOk P b (.pan i :: rs)) (pan p s) none) (fun rs s => cond (drawOk P b rs) (withUntag s (k .normal)) none)
 else none
noncomputable def iRegion (P : Program) (h : Hd) (fh : FH) (ops : Array Oper) (draw : Bool) (st : St) (k : Kont) : Ans :=
 let l := ops.toList
 let s0 : RS := { T := st.T, B := st.B, H := st.H, D := st.D, G := st.T.map fun _ => none }
 let pan (p : AVal) (s : RS) : Ans := k (.panic p) { T := dropDsts l st.T, B := st.B.map fun _ => [], H := s.H, D := s.D }
 match draw with
 | false => iOps P h fh l l 0 [] s0 (fun _ _ p s => pan p s) (fun _ s => withUntag s (k .normal))
 | true => iDrawn P h fh (if fh.hoist then permOps (hoistOf fh.hoist2 l) l else l) st k
def firstRegion : Code → Nat
 | .region id _ _ => id
 | .seq a _ => firstRegion a
 | .block _ c => firstRegion c
 | _ => 0
def forget (live : Option (List Nat)) (st : St) : St :=
 match live with
 | none => st
 | some l => { st with T := st.T.zipIdx.map (fun x => if l.contains x.2 then x.1 else .undef), B := st.B.zipIdx.map (fun x => if l.contains x.2 then x.1 else []) }
def iLoop (body : St → Kont → Ans) (fg : St → St) : Nat → St → Kont → Ans
 | 0, _, _ => none
 | n + 1, st, k => body (fg st) fun e st' => match e with
  | .normal => iLoop body fg n st' k
  | e => k e st'
noncomputable def iCode (P : Program) (h : Hd) (fh : FH) (F : Nat) : Code → St → Kont → Ans
 | .skip, st, k => k .normal st
 | .region _ ops draw, st, k => iRegion P h fh ops draw st k
 | .seq a b, st, k => iCode P h fh F a st fun e st' => match e with
  | .normal => iCode P h fh F b st' k
  | e => k e st'
 | .cond c x y, st, k => match aeval st.T c with
  | .bool q => cond q (iCode P h fh F x st k) (iCode P h fh F y st k)
  | _ => none
 | .block id c, st, k => iCode P h fh F c st fun e st' => match e with
  | .exit id' => if id' = id then k .normal st' else k (.exit id') st'
  | e => k e st'
 | .loop c, st, k => match fh.loops (firstRegion c) with
  | some sp => sp st k
  | none => iLoop (iCode P h fh F c) (forget (fh.live.lookup (firstRegion c))) F st k
 | .exit id, st, k => k (.exit id) st
 | .ret, st, k => k .ret st
 | _, _, _ => none
def resA (P : Program) (T : Vs) (B : Boxes) (H : Heap) : ResultVar → Option (Bool × AVal)
 | .tmp t => some (true, T.getD t .undef)
 | .cell a t => loadA P B H t (T.getD a .undef)
def resAll (P : Program) (T : Vs) (B : Boxes) (H : Heap) : List ResultVar → Option (Bool × Vs)
 | [] => some (true, [])
 | r :: rs => match resA P T B H r, resAll P T B H rs with
  | some (ok, v), some (ok', vs) => some (ok && ok', v :: vs)
  | _, _ => none
def oneOf (vs : Vs) : AVal := match vs with
 | [v] => v
 | vs => .tuple vs
def finish (P : Program) (fn : Func) (st : St) (k : Out → Ans) : Ans :=
 match resAll P st.T st.B st.H fn.results.toList with
 | some (ok, vs) => cond (ok && vs.all noTmp) (k (.ret (oneOf vs) st.H)) none
 | none => none
def start (fn : Func) (xs : Vs) (H : Heap) : St :=
 { T := xs ++ List.replicate (fn.ntmps - xs.length) .undef, B := List.replicate (xs.length + (fn.ntmps - xs.length)) [], H, D := [] }
def recV : Option AVal → AVal
 | some p => p
 | none => .nilIface
noncomputable def iDeferred (P : Program) (h : Hd) (fh : FH) (F : Nat) (g : FuncId) (caps : Vs) (pan : Option AVal) (H : Heap) (k : Bool → Heap → Ans) : Ans :=
 match P.funcs[g]? with
 | some fn => match fn.body, fn.results.toList with
  | some (.seq (.region _ ops false) rest), [] => match ops.toList with
   | o :: os => match o.op, o.guard, o.dst with
    | .call { callee := .builtin .recover, args := _, argTypes := _ }, none, some d =>
     let st := start fn caps H
     let v : AVal := recV pan
     iOps P h fh (o :: os) os 1 [] { T := st.T.set d v, B := st.B, H := st.H, D := [], G := st.T.map fun _ => none } (fun _ _ _ _ => none)
      (fun _ s => withUntag s fun st0 => iCode P h fh F rest st0 fun e st' => match e with
       | .normal => if st'.D.isEmpty then k pan.isSome st'.H else none
       | .ret => if st'.D.isEmpty then k pan.isSome st'.H else none
       | _ => none)
    | _, _, _ => none
   | [] => none
  | _, _ => none
 | none => none
noncomputable def iDefers (P : Program) (h : Hd) (fhs : FuncId → FH) (F : Nat) : List (FuncId × Vs) → Option AVal → Heap → (Option AVal → Heap → Ans) → Ans
 | [], m, H, k => k m H
 | (g, caps) :: ds, m, H, k => if callable P g then iDeferred P h (fhs g) F g caps m H fun took H' => iDefers P h fhs F ds (if took then none else m) H' k else none
noncomputable def iFun (P : Program) (h : Hd) (fhs : FuncId → FH) (F : Nat) (f : FuncId) (xs : Vs) (H : Heap) (k : Out → Ans) : Ans :=
 match P.funcs[f]? with
 | some fn => match fn.body with
  | some c => iCode P h (fhs f) F c (start fn xs H) fun e st =>
   match e with
   | .normal => if st.D.isEmpty then finish P fn st k else iDefers P h fhs F st.D none st.H fun m H' => match m with
    | none => finish P fn { st with H := H', B := st.B.map fun _ => [] } k
    | some _ => none
   | .ret => if st.D.isEmpty then finish P fn st k else iDefers P h fhs F st.D none st.H fun m H' => match m with
    | none => finish P fn { st with H := H', B := st.B.map fun _ => [] } k
    | some _ => none
   | .panic p => if st.D.isEmpty then k (.panic p st.H) else iDefers P h fhs F st.D (some p) st.H fun m H' => match m with
    | none => finish P fn { st with H := H' } k
    | some p => k (.panic p H')
   | _ => none
  | none => none
 | none => none
def freezeV (H : Heap) : Nat → AVal → Option AVal
 | 0, _ => none
 | d + 1, v => match v with
  | .own k off len ver _ => match H[k]? with
   | some (.arr _ rows u) => if u == ver && decide (off + len ≤ rows.length) then
    match ((rows.drop off).take len).mapM (fun r => r.mapM (freezeV H d)) with
    | some rows' => some (.list false len (fun i => rows'.getD i []))
    | none => none
    else none
   | _ => none
  | .agg cs => (cs.mapM (freezeV H d)).map .agg
  | .tuple cs => (cs.mapM (freezeV H d)).map .tuple
  | .iface t x => (freezeV H d x).map (.iface t)
  | v => if isPure v then some v else none
noncomputable def iPure (P : Program) (h : Hd) (fhs : FuncId → FH) (F : Nat) (f : FuncId) (xs : Vs) (k : Out → Ans) : Ans :=
 iFun P h fhs F f xs [] fun
  | .ret v H => match freezeV H 40 v with
   | some v' => k (.ret v' [])
   | none => none
  | .panic p H => match freezeV H 8 p with
   | some p' => k (.panic p' [])
   | none => none
noncomputable def iAll (P : Program) (spec : Hd) (known : FuncId → Bool) (fhs : FuncId → FH) (F : Nat) : Nat → Hd
 | 0 => fun _ _ _ _ => none
 | n + 1 => fun f xs H k =>
  if known f then spec f xs H k
  else match H with
   | [] => if xs.all isPure && !(fhs f).raw then iPure P (iAll P spec known fhs F n) fhs F f xs k else iFun P (iAll P spec known fhs F n) fhs F f xs H k
   | _ => iFun P (iAll P spec known fhs F n) fhs F f xs H k
end Go.Mu
namespace Go.Mu
open Go
structure Env where
 imm : Nat → Prop
 φ : Nat → Nat
 cap : Nat → Nat
def isVar (H : Heap) (k : Nat) : Bool := match H[k]? with | some (.var _) => true | some (.map _ _) => true | _ => false
def arrInfo (H : Heap) (k : Nat) : Option (Nat × Nat) := match H[k]? with | some (.arr sz _ v) => some (sz, v) | _ => none
inductive RepP (w : World) (imm : Nat → Prop) : AVal → Value → Prop
 | undef (c) : RepP w imm .undef c
 | bool (b) : RepP w imm (.bool b) (.bool b)
 | int (k n) : RepP w imm (.int k n) (.int k n)
 | str (b : ByteArray) : RepP w imm (.str b.data.toList) (.string b)
 | list0 (full row a cap) : (full = true → cap = 0) → RepP w imm (.list full 0 row) (.slice a 0 cap)
 | list (full n row blk off cap sz) (cs : Nat → Nat → Value) : n ≤ cap → (full = true → cap = n) → imm blk → (∀ i, i < n → (row i).length = sz) →
  (∀ i j, i < n → j < sz → w.cell? ⟨blk, off + i * sz + j, none⟩ = some (cs i j) ∧ (cs i j).oneCell' = true) →
  (∀ i j, i < n → j < sz → RepP w imm ((row i).getD j .undef) (cs i j)) → RepP w imm (.list full n row) (.slice (some ⟨blk, off, none⟩) n cap)
 | rptr (cells : Vs) (blk off : Nat) (cs : Nat → Value) : imm blk → (∀ j, j < cells.length → w.cell? ⟨blk, off + j, none⟩ = some (cs j) ∧ (cs j).oneCell' = true) →
  (∀ j, j < cells.length → RepP w imm (cells.getD j .undef) (cs j)) → RepP w imm (.rptr cells) (.pointer (some ⟨blk, off, none⟩))
 | nilptr : RepP w imm .nilptr (.pointer none)
 | nilS (cap) : RepP w imm .nilS (.slice none 0 cap)
 | nonS (a cap) : RepP w imm .nonS (.slice (some a) 0 cap)
 | nilX : RepP w imm .nilX (.slice none 0 0)
 | func (f) : RepP w imm (.func f []) (.func (.func f) #[] #[])
 | nilfunc : RepP w imm .nilfunc .nilFunc
 | iface (t v c) : RepP w imm v c → RepP w imm (.iface t v) (.iface t c)
 | nilIface : RepP w imm .nilIface .nilIface
 | agg (cells : Vs) (cs : List Value) : cells.length = cs.length → (∀ j, j < cells.length → (cs.getD j undef).oneCell' = true) → (∀ j, j < cells.length → RepP w imm (cells.getD j .undef) (cs.getD j undef)) →
  RepP w imm (.agg cells) (.agg cs.toArray)
 | tuple (vs : Vs) (cs : List Value) : vs.length = cs.length → (∀ j, j < vs.length → RepP w imm (vs.getD j .undef) (cs.getD j undef)) → RepP w imm (.tuple vs) (.tuple cs.toArray)
def OwnShape (E : Env) (k off len : Nat) (clip : Bool) (sz : Nat) (a : Option Addr) (cap : Nat) : Prop :=
 len ≤ cap ∧ (clip = true → cap = len) ∧ (clip = false → off = 0 → cap = E.cap k) ∧ off + len ≤ E.cap k ∧
 (E.cap k ≠ 0 → (len ≠ 0 ∨ (off = 0 ∧ clip = false)) → a = some ⟨E.φ k, off * sz, none⟩)
inductive Rep (w : World) (E : Env) (H : Heap) : AVal → Value → Prop
 | pure (v c) : RepP w E.imm v c → Rep w E H v c
 | own (k off len ver clip a cap sz u) : arrInfo H k = some (sz, u) → ver ≤ u → (ver = u → OwnShape E k off len clip sz a cap) →
  Rep w E H (.own k off len ver clip) (.slice a len cap)
 | ptrH (k off) : isVar H k = true → Rep w E H (.ptr (.hp k) off) (.pointer (some ⟨E.φ k, off, none⟩))
 | eptr (k ver i off p sz u) : arrInfo H k = some (sz, u) → ver ≤ u → (ver = u → E.cap k ≠ 0 ∧ p = some ⟨E.φ k, i * sz + off, none⟩) →
  Rep w E H (.eptr k ver i off) (.pointer p)
 | func (f) (caps : Vs) (cs : List Value) : caps.length = cs.length → (∀ j, j < caps.length → Rep w E H (caps.getD j .undef) (cs.getD j undef)) →
  Rep w E H (.func f caps) (.func (.func f) #[] cs.toArray)
 | iface (t v c) : Rep w E H v c → Rep w E H (.iface t v) (.iface t c)
 | agg (cells : Vs) (cs : List Value) : cells.length = cs.length → (∀ j, j < cells.length → (cs.getD j undef).oneCell' = true) → (∀ j, j < cells.length → Rep w E H (cells.getD j .undef) (cs.getD j undef)) →
  Rep w E H (.agg cells) (.agg cs.toArray)
 | tuple (vs : Vs) (cs : List Value) : vs.length = cs.length → (∀ j, j < vs.length → Rep w E H (vs.getD j .undef) (cs.getD j undef)) → Rep w E H (.tuple vs) (.tuple cs.toArray)
 | mapH (k) : isVar H k = true → Rep w E H (.map k) (.map (some (E.φ k)))
inductive RepT (w : World) (E : Env) (H : Heap) (β : Nat → Option Nat) : AVal → Value → Prop
 | box (t off b) : β t = some b → RepT w E H β (.ptr (.tmp t) off) (.pointer (some ⟨b, off, none⟩))
 | val (v c) : Rep w E H v c → RepT w E H β v c
def thawed (fr : Nat × Nat) (n : Nat) : Prop := ∀ o, o < n → ¬(fr.1 ≤ o ∧ o < fr.2)
def BlockRep (w : World) (E : Env) (H : Heap) (b : Nat) (n : Nat) (cells : Nat → Option AVal) : Prop :=
 ∃ ds ty fr, w.heap[b]? = some (.cells ds ty fr) ∧ n ≤ ds.size ∧ thawed fr n ∧
  ∀ j v, cells j = some v → ∃ c, ds[j]? = some c ∧ c.oneCell' = true ∧ Rep w E H v c
def live (E : Env) (H : Heap) (k : Nat) : Prop := isVar H k = true ∨ (∃ sz u, arrInfo H k = some (sz, u)) ∧ E.cap k ≠ 0
def cellAt (sz : Nat) (rows : List Vs) (o : Nat) : Option AVal := (rows[o / sz]?).bind fun r => r[o % sz]?
def NoteOK (w : World) (b : Nat) (t : TypeId) (n : Nat) : Prop := ∃ cs fr, w.heap[b]? = some (.cells cs t fr) ∧ (n ≠ 0 → cs.size = n)
theorem NoteOK.same {w w' : World} {b : Nat} {t : TypeId} {n : Nat} (h : NoteOK w b t n) (e : w'.heap[b]? = w.heap[b]?) : NoteOK w' b t n := by
 obtain ⟨cs, fr, h1, h2⟩ := h
 exact ⟨cs, fr, by rw [e]; exact h1, h2⟩
def GlobOK (w : World) (imm : Nat → Prop) : Prop :=
 (∀ g k, gints g = some k → imm g ∧ ∃ n, w.cell? ⟨g, 0, none⟩ = some (.int k n)) ∧
 ∀ g cells, gvals g = some cells → RepP w imm (.rptr cells) (.pointer (some ⟨g, 0, none⟩))
def MapRep (w : World) (b : Nat) (kk : IntKind) (es : List (Int × AVal)) : Prop :=
 ∃ (ms : Array MapEntry) (clock : Nat), w.heap[b]? = some (.map ms clock) ∧ ms.toList.map (fun e => (e.key, e.val)) = es.map (fun e => (.int kk e.1, scOf e.2))
theorem MapRep.same {w w' : World} {b : Nat} {kk : IntKind} {es : List (Int × AVal)} (h : MapRep w b kk es) (e : w'.heap[b]? = w.heap[b]?) : MapRep w' b kk es := by
 obtain ⟨ms, cl, h1, h2⟩ := h
 exact ⟨ms, cl, by rw [e]; exact h1, h2⟩
structure Sim (w : World) (E : Env) (H : Heap) : Prop where
 immLt : ∀ b, E.imm b → b < w.heap.size
 var : ∀ k cs, H[k]? = some (.var cs) → BlockRep w E H (E.φ k) cs.length (fun j => cs[j]?)
 arr : ∀ k sz rows u, H[k]? = some (.arr sz rows u) → 0 < sz ∧ rows.length ≤ E.cap k ∧ (∀ r ∈ rows, r.length = sz) ∧
  (E.cap k ≠ 0 → BlockRep w E H (E.φ k) (E.cap k * sz) (cellAt sz rows))
 apart : ∀ k, live E H k → ¬ E.imm (E.φ k) ∧ E.φ k < w.heap.size
 inj : ∀ k l, live E H k → live E H l → E.φ k = E.φ l → k = l
 note : ∀ j t n, H[j]? = some (.note t n) → live E H (j - 1) → NoteOK w (E.φ (j - 1)) t n
 glob : GlobOK w E.imm
 map : ∀ k kk es, H[k]? = some (.map kk es) → MapRep w (E.φ k) kk es
structure Evo (X : Nat → Prop) (w : World) (E : Env) (H : Heap) (w' : World) (E' : Env) (H' : Heap) : Prop where
 size : w.heap.size ≤ w'.heap.size
 kept : ∀ b, b < w.heap.size → ¬ X b → (∀ k, live E H k → E.φ k ≠ b) → w'.heap[b]? = w.heap[b]?
 immKept : ∀ b, E.imm b → E'.imm b ∧ w'.heap[b]? = w.heap[b]?
 immNew : ∀ b, E'.imm b → E.imm b ∨ w.heap.size ≤ b
 var : ∀ k, isVar H k = true → isVar H' k = true ∧ E'.φ k = E.φ k
 arr : ∀ k sz u, arrInfo H k = some (sz, u) → ∃ u', arrInfo H' k = some (sz, u') ∧ u ≤ u' ∧ (u' = u → E'.cap k = E.cap k ∧ (E.cap k ≠ 0 → E'.φ k = E.φ k))
 phi : ∀ k, live E' H' k → w.heap.size ≤ E'.φ k ∨ (live E H k ∧ E'.φ k = E.φ k)
 len : H.length ≤ H'.length
 tape : w'.tape = w.tape
 os : w'.os = w.os
 output : w'.output = w.output
theorem live_lt {E : Env} {H : Heap} {k : Nat} (h : live E H k) : k < H.length := by
 rcases h with h | ⟨⟨sz, u, h⟩, _⟩
 · unfold isVar at h
   rcases Nat.lt_or_ge k H.length with g | g
   · exact g
   · rw [List.getElem?_eq_none g] at h; cases h
 · unfold arrInfo at h
   rcases Nat.lt_or_ge k H.length with g | g
   · exact g
   · rw [List.getElem?_eq_none g] at h; cases h
theorem Evo.refl {X w E H} : Evo X w E H w E H :=
 ⟨Nat.le_refl _, fun _ _ _ _ => rfl, fun _ h => ⟨h, rfl⟩, fun _ h => .inl h, fun _ h => ⟨h, rfl⟩, fun _ _ u h => ⟨u, h, Nat.le_refl _, fun _ => ⟨rfl, fun _ => rfl⟩⟩, fun _ h => .inr ⟨h, rfl⟩, Nat.le_refl _, rfl, rfl, rfl⟩
theorem cell?_same {w w' : World} {b : Nat} (h : w'.heap[b]? = w.heap[b]?) (o : Nat) : w'.cell? ⟨b, o, none⟩ = w.cell? ⟨b, o, none⟩ := by
 simp only [World.cell?, h]
theorem RepP.mono {w w' : World} {imm imm' : Nat → Prop} (h : ∀ b, imm b → imm' b ∧ w'.heap[b]? = w.heap[b]?) {v : AVal} {c : Value} (r : RepP w imm v c) : RepP w' imm' v c := by
 induction r with
 | undef c => exact .undef c
 | bool b => exact .bool b
 | int k n => exact .int k n
 | str b => exact .str b
 | list0 full row a cap hc => exact .list0 full row a cap hc
 | list full n row blk off cap sz cs h1 h2 h3 h4 h5 _ ih => exact .list full n row blk off cap sz cs h1 h2 (h _ h3).1 h4 (fun i j hi hj => by rw [cell?_same (h _ h3).2]; exact h5 i j hi hj) ih
 | rptr cells blk off cs h1 h2 _ ih => exact .rptr cells blk off cs (h _ h1).1 (fun j hj => by rw [cell?_same (h _ h1).2]; exact h2 j hj) ih
 | nilptr => exact .nilptr
 | nilS cap => exact .nilS cap
 | nonS a cap => exact .nonS a cap
 | nilX => exact .nilX
 | func f => exact .func f
 | nilfunc => exact .nilfunc
 | iface t v c _ ih => exact .iface t v c ih
 | nilIface => exact .nilIface
 | agg cells cs hl h1 _ ih => exact .agg cells cs hl h1 ih
 | tuple vs cs hl _ ih => exact .tuple vs cs hl ih
theorem GlobOK.mono {w w' : World} {imm imm' : Nat → Prop} (h : ∀ b, imm b → imm' b ∧ w'.heap[b]? = w.heap[b]?) (g : GlobOK w imm) : GlobOK w' imm' :=
 ⟨fun g' k e => let ⟨a, n, b⟩ := g.1 g' k e; ⟨(h _ a).1, n, by rw [cell?_same (h _ a).2]; exact b⟩, fun g' cells e => (g.2 g' cells e).mono h⟩
structure Sees (w : World) (E : Env) (H : Heap) (w' : World) (E' : Env) (H' : Heap) : Prop where
 imm : ∀ b, E.imm b → E'.imm b ∧ w'.heap[b]? = w.heap[b]?
 var : ∀ k, isVar H k = true → isVar H' k = true ∧ E'.φ k = E.φ k
 arr : ∀ k sz u, arrInfo H k = some (sz, u) → ∃ u', arrInfo H' k = some (sz, u') ∧ u ≤ u' ∧ (u' = u → E'.cap k = E.cap k ∧ (E.cap k ≠ 0 → E'.φ k = E.φ k))
theorem Evo.sees {X w E H w' E' H'} (h : Evo X w E H w' E' H') : Sees w E H w' E' H' := ⟨h.immKept, h.var, h.arr⟩
theorem Rep.mono {w w' : World} {E E' : Env} {H H' : Heap} (h : Sees w E H w' E' H') {v : AVal} {c : Value} (r : Rep w E H v c) : Rep w' E' H' v c := by
 induction r with
 | pure v c r => exact .pure v c (r.mono h.imm)
 | own k off len ver clip a cap sz u h1 h2 h3 =>
  obtain ⟨u', g1, g2, g3⟩ := h.arr k sz u h1
  refine .own k off len ver clip a cap sz u' g1 (Nat.le_trans h2 g2) (fun hv => ?_)
  have e : u' = u := by omega
  obtain ⟨s1, s2, s3, s4, s5⟩ := h3 (by omega)
  obtain ⟨c1, c2⟩ := g3 e
  refine ⟨s1, s2, fun a b => by rw [c1]; exact s3 a b, by rw [c1]; exact s4, fun hc hl => ?_⟩
  rw [c1] at hc
  rw [c2 hc]; exact s5 hc hl
 | ptrH k off hv => rw [← (h.var k hv).2]; exact .ptrH k off (h.var k hv).1
 | eptr k ver i off p sz u h1 h2 h3 =>
  obtain ⟨u', g1, g2, g3⟩ := h.arr k sz u h1
  refine .eptr k ver i off p sz u' g1 (Nat.le_trans h2 g2) (fun hv => ?_)
  have e : u' = u := by omega
  obtain ⟨s1, s2⟩ := h3 (by omega)
  obtain ⟨c1, c2⟩ := g3 e
  exact ⟨by rw [c1]; exact s1, by rw [c2 s1]; exact s2⟩
 | func f caps cs hl _ ih => exact .func f caps cs hl ih
 | iface t v c _ ih => exact .iface t v c ih
 | agg cells cs hl h1 _ ih => exact .agg cells cs hl h1 ih
 | tuple vs cs hl _ ih => exact .tuple vs cs hl ih
 | mapH k hv => rw [← (h.var k hv).2]; exact .mapH k (h.var k hv).1
theorem Evo.trans {X Y w E H w1 E1 H1 w2 E2 H2} (a : Evo X w E H w1 E1 H1) (b : Evo Y w1 E1 H1 w2 E2 H2) (hX : ∀ x, Y x → X x ∨ w.heap.size ≤ x) : Evo X w E H w2 E2 H2 := by
 refine ⟨Nat.le_trans a.size b.size, ?_, ?_, ?_, ?_, ?_, ?_, Nat.le_trans a.len b.len, b.tape.trans a.tape, b.os.trans a.os, b.output.trans a.output⟩
 · intro x hx hn hk
   rw [b.kept x (Nat.lt_of_lt_of_le hx a.size) (fun hy => (hX x hy).elim hn (fun h => by omega)) ?_, a.kept x hx hn hk]
   intro k hl he
   rcases a.phi k hl with h | ⟨h1, h2⟩
   · omega
   · exact hk k h1 (by rw [← h2]; exact he)
 · intro x hx
   obtain ⟨h1, h2⟩ := a.immKept x hx
   obtain ⟨h3, h4⟩ := b.immKept x h1
   exact ⟨h3, h4.trans h2⟩
 · intro x hx
   rcases b.immNew x hx with h | h
   · exact a.immNew x h
   · exact .inr (Nat.le_trans a.size h)
 · intro k hk
   obtain ⟨h1, h2⟩ := a.var k hk
   obtain ⟨h3, h4⟩ := b.var k h1
   exact ⟨h3, h4.trans h2⟩
 · intro k sz u hk
   obtain ⟨u1, h1, h2, h3⟩ := a.arr k sz u hk
   obtain ⟨u2, h4, h5, h6⟩ := b.arr k sz u1 h1
   refine ⟨u2, h4, Nat.le_trans h2 h5, fun he => ?_⟩
   obtain ⟨c1, c2⟩ := h3 (by omega)
   obtain ⟨c3, c4⟩ := h6 (by omega)
   exact ⟨c3.trans c1, fun hc => by rw [c4 (by rw [c1]; exact hc), c2 hc]⟩
 · intro k hk
   rcases b.phi k hk with h | ⟨h1, h2⟩
   · exact .inl (Nat.le_trans a.size h)
   · rcases a.phi k h1 with h | ⟨h3, h4⟩
     · exact .inl (by rw [h2]; exact h)
     · exact .inr ⟨h3, h2.trans h4⟩
theorem BlockRep.mono {w w' E E' H H'} (h : Sees w E H w' E' H') {b n cells} (hb : w'.heap[b]? = w.heap[b]?) (r : BlockRep w E H b n cells) : BlockRep w' E' H' b n cells := by
 obtain ⟨ds, ty, fr, h1, h2, h3, h4⟩ := r
 exact ⟨ds, ty, fr, hb.trans h1, h2, h3, fun j v hv => let ⟨c, g1, g2, g3⟩ := h4 j v hv; ⟨c, g1, g2, g3.mono h⟩⟩
variable {w : World} {E : Env} {H : Heap} {β : Nat → Option Nat}
theorem rep_nilX {c : Value} (h : Rep w E H .nilX c) : c = .slice none 0 0 := by
 cases h with
 | pure _ _ h => cases h; rfl
theorem rep_bool {b : Bool} {c : Value} (h : Rep w E H (.bool b) c) : c = .bool b := by
 cases h with
 | pure _ _ h => cases h; rfl
theorem rep_int {k : IntKind} {n : Int} {c : Value} (h : Rep w E H (.int k n) c) : c = .int k n := by
 cases h with
 | pure _ _ h => cases h; rfl
theorem rep_str {s : Oc} {c : Value} (h : Rep w E H (.str s) c) : ∃ b : ByteArray, c = .string b ∧ b.data.toList = s := by
 cases h with
 | pure _ _ h => cases h with | str b => exact ⟨b, rfl, rfl⟩
theorem rep_nilIface {c : Value} (h : Rep w E H .nilIface c) : c = .nilIface := by
 cases h with
 | pure _ _ h => cases h; rfl
theorem rep_iface {t : TypeId} {v : AVal} {c : Value} (h : Rep w E H (.iface t v) c) : ∃ d, c = .iface t d ∧ Rep w E H v d := by
 cases h with
 | pure _ _ h => cases h with | iface _ _ c h => exact ⟨c, rfl, .pure _ _ h⟩
 | iface _ _ c h => exact ⟨c, rfl, h⟩
theorem rep_agg {cells : Vs} {c : Value} (h : Rep w E H (.agg cells) c) :
 ∃ cs : List Value, c = .agg cs.toArray ∧ cells.length = cs.length ∧ ∀ j, j < cells.length → (cs.getD j undef).oneCell' = true ∧ Rep w E H (cells.getD j .undef) (cs.getD j undef) := by
 cases h with
 | pure _ _ h => cases h with | agg _ cs h1 h2 h3 => exact ⟨cs, rfl, h1, fun j hj => ⟨h2 j hj, .pure _ _ (h3 j hj)⟩⟩
 | agg _ cs h1 h2 h3 => exact ⟨cs, rfl, h1, fun j hj => ⟨h2 j hj, h3 j hj⟩⟩
theorem rep_tuple {vs : Vs} {c : Value} (h : Rep w E H (.tuple vs) c) :
 ∃ cs : List Value, c = .tuple cs.toArray ∧ vs.length = cs.length ∧ ∀ j, j < vs.length → Rep w E H (vs.getD j .undef) (cs.getD j undef) := by
 cases h with
 | pure _ _ h => cases h with | tuple _ cs h1 h2 => exact ⟨cs, rfl, h1, fun j hj => .pure _ _ (h2 j hj)⟩
 | tuple _ cs h1 h2 => exact ⟨cs, rfl, h1, h2⟩
theorem rep_func {f : FuncId} {caps : Vs} {c : Value} (h : Rep w E H (.func f caps) c) :
 ∃ cs : List Value, c = .func (.func f) #[] cs.toArray ∧ caps.length = cs.length ∧ ∀ j, j < caps.length → Rep w E H (caps.getD j .undef) (cs.getD j undef) := by
 cases h with
 | pure _ _ h => cases h with | func => exact ⟨[], rfl, rfl, fun j hj => by simp at hj⟩
 | func _ _ cs h1 h2 => exact ⟨cs, rfl, h1, h2⟩
theorem rep_list {full : Bool} {n : Nat} {row : Nat → Vs} {c : Value} (h : Rep w E H (.list full n row) c) :
 ∃ a cap, c = .slice a n cap ∧ n ≤ cap ∧ (full = true → cap = n) ∧
  (n ≠ 0 → ∃ blk off sz, ∃ cs : Nat → Nat → Value, a = some ⟨blk, off, none⟩ ∧ E.imm blk ∧ (∀ i, i < n → (row i).length = sz) ∧
   (∀ i j, i < n → j < sz → w.cell? ⟨blk, off + i * sz + j, none⟩ = some (cs i j) ∧ (cs i j).oneCell' = true) ∧
   (∀ i j, i < n → j < sz → RepP w E.imm ((row i).getD j .undef) (cs i j))) := by
 cases h with
 | pure _ _ h => cases h with
  | list0 _ _ a cap hc => exact ⟨a, cap, rfl, Nat.zero_le _, hc, fun h => absurd rfl h⟩
  | list _ _ _ blk off cap sz cs h1 h2 h3 h4 h5 h6 => exact ⟨_, cap, rfl, h1, h2, fun _ => ⟨blk, off, sz, cs, rfl, h3, h4, h5, h6⟩⟩
theorem rep_rptr {cells : Vs} {c : Value} (h : Rep w E H (.rptr cells) c) :
 ∃ blk off, ∃ cs : Nat → Value, c = .pointer (some ⟨blk, off, none⟩) ∧ E.imm blk ∧ (∀ j, j < cells.length → w.cell? ⟨blk, off + j, none⟩ = some (cs j) ∧ (cs j).oneCell' = true) ∧
  (∀ j, j < cells.length → RepP w E.imm (cells.getD j .undef) (cs j)) := by
 cases h with
 | pure _ _ h => cases h with | rptr _ blk off cs h1 h2 h3 => exact ⟨blk, off, cs, rfl, h1, h2, h3⟩
theorem rep_own {k off len ver : Nat} {clip : Bool} {c : Value} (h : Rep w E H (.own k off len ver clip) c) :
 ∃ a cap sz u, c = .slice a len cap ∧ arrInfo H k = some (sz, u) ∧ ver ≤ u ∧ (ver = u → OwnShape E k off len clip sz a cap) := by
 cases h with
 | pure _ _ h => cases h
 | own _ _ _ _ _ a cap sz u h1 h2 h3 => exact ⟨a, cap, sz, u, rfl, h1, h2, h3⟩
theorem rep_ptrH {k off : Nat} {c : Value} (h : Rep w E H (.ptr (.hp k) off) c) : c = .pointer (some ⟨E.φ k, off, none⟩) ∧ isVar H k = true := by
 cases h with
 | pure _ _ h => cases h
 | ptrH _ _ hv => exact ⟨rfl, hv⟩
theorem rep_eptr {k ver i off : Nat} {c : Value} (h : Rep w E H (.eptr k ver i off) c) :
 ∃ p sz u, c = .pointer p ∧ arrInfo H k = some (sz, u) ∧ ver ≤ u ∧ (ver = u → E.cap k ≠ 0 ∧ p = some ⟨E.φ k, i * sz + off, none⟩) := by
 cases h with
 | pure _ _ h => cases h
 | eptr _ _ _ _ p sz u h1 h2 h3 => exact ⟨p, sz, u, rfl, h1, h2, h3⟩
theorem rep_map {k : Nat} {c : Value} (h : Rep w E H (.map k) c) : c = .map (some (E.φ k)) ∧ isVar H k = true := by
 cases h with
 | pure _ _ h => cases h
 | mapH _ hv => exact ⟨rfl, hv⟩
theorem map_isVar {k : Nat} {kk : IntKind} {es : List (Int × AVal)} (h : H[k]? = some (.map kk es)) : isVar H k = true := by simp [isVar, h]
theorem Rep.undef (c : Value) : Rep w E H .undef c := .pure _ _ (.undef c)
theorem RepT.undef (c : Value) : RepT w E H β .undef c := .val _ _ (.undef c)
theorem noTmp_rep {v : AVal} {c : Value} (h : noTmp v = true) (r : RepT w E H β v c) : Rep w E H v c := by
 cases r with
 | box t off b hb => simp [noTmp] at h
 | val _ _ r => exact r
theorem repT_ptr {t off : Nat} {c : Value} (h : RepT w E H β (.ptr (.tmp t) off) c) : ∃ b, c = .pointer (some ⟨b, off, none⟩) ∧ β t = some b := by
 cases h with
 | box _ _ b hb => exact ⟨b, rfl, hb⟩
 | val _ _ h => cases h with | pure _ _ h => cases h
theorem pureD_rep : ∀ (d : Nat) (v : AVal) (c : Value), pureD d v = true → Rep w E H v c → RepP w E.imm v c := by
 intro d
 induction d with
 | zero => intro v c h; simp [pureD] at h
 | succ d ih =>
  intro v c hn h
  cases h with
  | pure _ _ h => exact h
  | own k off len ver clip a cap sz u h1 h2 h3 => simp [pureD] at hn
  | ptrH k off hv => simp [pureD] at hn
  | eptr k ver i off p sz u h1 h2 h3 => simp [pureD] at hn
  | func f caps cs hl hr =>
   cases caps with
   | nil => 
    have : cs = [] := List.length_eq_zero_iff.1 hl.symm
    subst this; exact .func f
   | cons x xs => simp [pureD] at hn
  | iface t v c hr => exact .iface t v c (ih _ _ (by simpa [pureD] using hn) hr)
  | agg cells cs hl h1 hr =>
   simp only [pureD, List.all_eq_true] at hn
   exact .agg cells cs hl h1 (fun j hj => ih _ _ (hn _ (by simp [List.getD, List.getElem?_eq_getElem hj])) (hr j hj))
  | tuple vs cs hl hr =>
   simp only [pureD, List.all_eq_true] at hn
   exact .tuple vs cs hl (fun j hj => ih _ _ (hn _ (by simp [List.getD, List.getElem?_eq_getElem hj])) (hr j hj))
  | mapH k hv => simp [pureD] at hn
theorem isPure_rep {v : AVal} {c : Value} (h : isPure v = true) (r : Rep w E H v c) : RepP w E.imm v c := pureD_rep 5 v c h r
theorem flatD_rep {imm imm' : Nat → Prop} {w' : World} : ∀ (d : Nat) (v : AVal) (c : Value), flatD d v = true → RepP w imm v c → RepP w' imm' v c := by
 intro d
 induction d with
 | zero => intro v c h; simp [flatD] at h
 | succ d ih =>
  intro v c hn h
  cases h with
  | undef c => simp [flatD] at hn
  | bool b => exact .bool b
  | int k n => exact .int k n
  | str b => exact .str b
  | list0 full row a cap hc => simp [flatD] at hn
  | list full n row blk off cap sz cs h1 h2 h3 h4 h5 h6 => simp [flatD] at hn
  | rptr cells blk off cs h1 h2 h3 => simp [flatD] at hn
  | nilptr => exact .nilptr
  | nilS cap => simp [flatD] at hn
  | nonS a cap => simp [flatD] at hn
  | nilX => simp [flatD] at hn
  | func f => simp [flatD] at hn
  | nilfunc => simp [flatD] at hn
  | iface t v c hr => exact .iface t v c (ih _ _ (by simpa [flatD] using hn) hr)
  | nilIface => exact .nilIface
  | agg cells cs hl h1 hr =>
   simp only [flatD, List.all_eq_true] at hn
   exact .agg cells cs hl h1 (fun j hj => ih _ _ (hn _ (by simp [List.getD, List.getElem?_eq_getElem hj])) (hr j hj))
  | tuple vs cs hl hr =>
   simp only [flatD, List.all_eq_true] at hn
   exact .tuple vs cs hl (fun j hj => ih _ _ (hn _ (by simp [List.getD, List.getElem?_eq_getElem hj])) (hr j hj))
theorem exCell_rep (ex : Bool) {c : Value} {v : AVal} {imm : Nat → Prop} (h : RepP w imm v c) : RepP w imm (exCell ex c v) c := by
 unfold exCell
 split
 · split
   · exact .nilX
   · exact h
 · exact h
theorem ofCell_rep (c : Value) {imm : Nat → Prop} : RepP w imm (ofCell c) c := by
 unfold ofCell
 split
 · exact .bool _
 · exact .int _ _
 · exact .str _
 · exact .nilptr
 · exact .list0 _ _ _ _ (fun _ => rfl)
 · exact .nilfunc
 · exact .nilIface
 · exact .undef _
end Go.Mu
namespace Go.Mu
open Go
structure FS (w : World) (a : Act) (E : Env) (H : Heap) (β : Nat → Option Nat) (T : Vs) (B : Boxes) (G : Tags) : Prop where
 sim : Sim w E H
 tsize : a.tmps.size = T.length
 bsize : B.length = T.length
 gsize : G.length = T.length
 vals : ∀ t, valid G t = true → RepT w E H β (T.getD t .undef) (a.tmps.getD t undef)
 box : ∀ t b, β t = some b → ¬ E.imm b ∧ b < w.heap.size ∧ (∀ k, live E H k → E.φ k ≠ b) ∧ BlockRep w E H b (B.getD t []).length (fun j => (B.getD t [])[j]?)
 binj : ∀ t u b, β t = some b → β u = some b → t = u
def Xβ (β : Nat → Option Nat) (x : Nat) : Prop := ∃ t, β t = some x
structure OpOut (P : Program) (w : World) (a : Act) (E : Env) (H : Heap) (β : Nat → Option Nat) (T : Vs) (G : Tags) (o : Oper) (v : AVal) (B' : Boxes) (H' : Heap)
 (c : Value) (w' : World) (E' : Env) (β' : Nat → Option Nat) : Prop where
 run : (execOp a.eval o).run P w = .ok (.value c) w' ∨ ((execOp a.eval o).run P w = .ok .skip w' ∧ c = undef)
 evo : Evo (Xβ β) w E H w' E' H'
 fs : FS w' a E' H' β' T B' G
 rep : RepT w' E' H' β' v c
 new : ∀ t b, β' t = some b → β t = some b ∨ w.heap.size ≤ b
variable {P : Program} {w : World} {a : Act} {E : Env} {H : Heap} {β : Nat → Option Nat} {T : Vs} {B : Boxes} {G : Tags} {o : Oper}
theorem OpOut.pure (fs : FS w a E H β T B G) {v : AVal} {c : Value} (hr : (execOp a.eval o).run P w = .ok (.value c) w) (h : RepT w E H β v c) :
 ∃ c w' E' β', OpOut P w a E H β T G o v B H c w' E' β' :=
 ⟨c, w, E, β, .inl hr, .refl, fs, h, fun _ _ h => .inl h⟩
theorem ofConst_rep (c : Value) {imm : Nat → Prop} : RepP w imm (ofConst c) c := by
 unfold ofConst
 split
 · rename_i cs
   split
   · rename_i h
     have := RepP.agg (w := w) (imm := imm) (cs.toList.map ofCell) cs.toList (by simp)
      (fun j hj => by
       simp only [List.length_map] at hj
       simp only [List.all_eq_true] at h
       have := h (cs.toList[j]) (List.getElem_mem hj)
       simpa [List.getD, List.getElem?_eq_getElem hj] using this)
      (fun j hj => by
       simp only [List.length_map] at hj
       have := ofCell_rep (w := w) (imm := imm) (cs.toList[j])
       simpa [List.getD, List.getElem?_eq_getElem hj, hj] using this)
     simpa using this
   · exact .undef _
 · exact ofCell_rep _
theorem aeval_rep (fs : FS w a E H β T B G) (x : Operand) (h : ∀ t, x = .tmp t → valid G t = true) : RepT w E H β (aeval T x) (a.eval x) := by
 cases x with
 | tmp t => exact fs.vals t (h t rfl)
 | const v => exact .val _ _ (.pure _ _ (ofConst_rep v))
 | global g =>
  cases e : gvals g with
  | some cells =>
   have : aeval T (.global g) = .rptr cells := by simp only [aeval, e]
   rw [this]
   exact .val _ _ (.pure _ _ (fs.sim.glob.2 g cells e))
  | none =>
   have : aeval T (.global g) = .undef := by simp only [aeval, e]
   rw [this]
   exact .undef _
 | func f => exact .val _ _ (.pure _ _ (.func f))
def okTmps (G : Tags) (o : Oper) : Prop := ∀ t, t ∈ tmpsOf o.op.operands.toList → valid G t = true
theorem okTmps_rep (fs : FS w a E H β T B G) (hv : okTmps G o) {x : Operand} (hx : x ∈ o.op.operands.toList) : RepT w E H β (aeval T x) (a.eval x) :=
 aeval_rep fs x fun t e => hv t (List.mem_filterMap.2 ⟨x, hx, by rw [e]⟩)
theorem addr_add (b off j : Nat) : (⟨b, off, none⟩ : Addr).add j = ⟨b, off + j, none⟩ := by unfold Addr.add; split <;> simp_all
theorem cell?_block {b : Nat} {ds : Array Value} {ty : TypeId} {fr : Nat × Nat} (h : w.heap[b]? = some (.cells ds ty fr)) (o : Nat) : w.cell? ⟨b, o, none⟩ = ds[o]? := by
 simp [World.cell?, h]
theorem frozen?_block {b : Nat} {ds : Array Value} {ty : TypeId} {fr : Nat × Nat} (h : w.heap[b]? = some (.cells ds ty fr)) (o : Nat) : w.frozen? ⟨b, o, none⟩ = (decide (fr.1 ≤ o) && decide (o < fr.2)) := by
 simp [World.frozen?, h]
theorem info_size {t : TypeId} {n : Nat} (h : sizeT P t = some n) : ∃ i, P.info? t = some i ∧ i.size = n := by
 unfold sizeT at h
 cases hi : P.info? t with
 | none => simp [hi] at h
 | some i => simp [hi] at h; exact ⟨i, rfl, h⟩
theorem run_sizeT {t : TypeId} {n : Nat} (h : sizeT P t = some n) (w : World) : (sizeOf t).run P w = .ok n w := by
 obtain ⟨i, hi, hn⟩ := info_size h
 simp [sizeOf, typeInfo, hi, hn]
theorem run_aggT {t : TypeId} {b : Bool} (h : aggT P t = some b) (w : World) : (isAgg t).run P w = .ok b w := by
 unfold aggT at h
 cases hu : P.underlying t with
 | none => simp [hu] at h
 | some d =>
  simp only [hu] at h
  cases d <;> simp at h <;> subst h <;> simp [isAgg, run_underlying hu]
theorem readCells_rep (fs : FS w a E H β T B G) {p : AVal} {n : Nat} {cs : Vs} {c : Value} (h : readCells B H p n = some (true, cs)) (hp : RepT w E H β p c) :
 ∃ blk off, c = .pointer (some ⟨blk, off, none⟩) ∧ cs.length = n ∧ ∃ f : Nat → Value, ∀ j, j < n → w.cell? ⟨blk, off + j, none⟩ = some (f j) ∧ (f j).oneCell' = true ∧ Rep w E H (cs.getD j .undef) (f j) := by
 unfold readCells at h
 split at h
 · rename_i t off
   simp only [sJ, Prod.mk.injEq, decide_eq_true_eq] at h
   obtain ⟨hle, rfl⟩ := h
   obtain ⟨b, rfl, hb⟩ := repT_ptr hp
   obtain ⟨_, _, _, ds, ty, fr, h1, h2, h3, h4⟩ := fs.box t b hb
   refine ⟨b, off, rfl, by simp, fun j => ds.getD (off + j) undef, fun j hj => ?_⟩
   obtain ⟨c, g1, g2, g3⟩ := h4 (off + j) ((B.getD t []).getD (off + j) .undef) (by simp only [gQ]; rw [List.getElem?_eq_getElem (by simp only [gQ] at hle; omega)]; simp)
   refine ⟨?_, ?_, ?_⟩
   · rw [cell?_block h1, g1]; simp [g1]
   · simpa [g1] using g2
   · simpa [g1, hj] using g3
 · rename_i k off
   split at h
   · rename_i cs0 hk
     simp only [sJ, Prod.mk.injEq, decide_eq_true_eq] at h
     obtain ⟨hle, rfl⟩ := h
     have hp' : Rep w E H (.ptr (.hp k) off) c := by cases hp with | val _ _ h => exact h
     obtain ⟨rfl, hv⟩ := rep_ptrH hp'
     obtain ⟨ds, ty, fr, h1, h2, h3, h4⟩ := fs.sim.var k cs0 hk
     refine ⟨_, off, rfl, by simp, fun j => ds.getD (off + j) undef, fun j hj => ?_⟩
     obtain ⟨c, g1, g2, g3⟩ := h4 (off + j) (cs0.getD (off + j) .undef) (by simp only [gQ]; rw [List.getElem?_eq_getElem (by omega)]; simp)
     refine ⟨?_, ?_, ?_⟩
     · rw [cell?_block h1, g1]; simp [g1]
     · simpa [g1] using g2
     · simpa [g1, hj] using g3
   · simp at h
 · rename_i k ver i off
   split at h
   · rename_i sz rows u hk
     simp only [sJ, Prod.mk.injEq, Bool.and_eq_true, beq_iff_eq, decide_eq_true_eq] at h
     obtain ⟨⟨⟨rfl, hi⟩, hle⟩, rfl⟩ := h
     have hp' : Rep w E H (.eptr k u i off) c := by cases hp with | val _ _ h => exact h
     obtain ⟨p, sz', u', rfl, ha, hu, hpp⟩ := rep_eptr hp'
     simp only [arrInfo, hk, sJ, Prod.mk.injEq] at ha
     obtain ⟨rfl, rfl⟩ := ha
     obtain ⟨hcap, rfl⟩ := hpp rfl
     obtain ⟨hsz, hrl, hrows, hblk⟩ := fs.sim.arr k sz rows u hk
     obtain ⟨ds, ty, fr, h1, h2, h3, h4⟩ := hblk hcap
     refine ⟨_, _, rfl, by simp, fun j => ds.getD (i * sz + off + j) undef, fun j hj => ?_⟩
     have hlen : (rows.getD i []).length = sz := hrows _ (by simp [gQ, List.getElem?_eq_getElem hi])
     have hdiv : (i * sz + off + j) / sz = i := by
      rw [Nat.add_assoc, Nat.mul_comm, Nat.mul_add_div hsz, Nat.div_eq_of_lt (by omega)]; rfl
     have hmod : (i * sz + off + j) % sz = off + j := by
      rw [Nat.add_assoc, Nat.mul_comm, Nat.mul_add_mod, Nat.mod_eq_of_lt (by omega)]
     obtain ⟨c, g1, g2, g3⟩ := h4 (i * sz + off + j) ((rows.getD i []).getD (off + j) .undef) (by
      simp only [cellAt, hdiv, hmod, List.getElem?_eq_getElem hi, Option.bind_some]
      have : rows.getD i [] = rows[i] := by simp [gQ, List.getElem?_eq_getElem hi]
      rw [this] at hlen ⊢
      simp only [gQ]
      rw [List.getElem?_eq_getElem (by omega)]; simp)
     refine ⟨?_, ?_, ?_⟩
     · rw [cell?_block h1, g1]; simp [g1]
     · simpa [g1] using g2
     · simpa [g1, hj] using g3
   · simp at h
 · rename_i cells
   simp only [sJ, Prod.mk.injEq, decide_eq_true_eq] at h
   obtain ⟨hle, rfl⟩ := h
   have hp' : Rep w E H (.rptr cells) c := by cases hp with | val _ _ h => exact h
   obtain ⟨blk, off, f, rfl, h1, h2, h3⟩ := rep_rptr hp'
   refine ⟨blk, off, rfl, by simp, f, fun j hj => ⟨(h2 j (by omega)).1, (h2 j (by omega)).2, ?_⟩⟩
   have := Rep.pure (w := w) (E := E) (H := H) _ _ (h3 j (by omega))
   simpa [hj] using this
 · simp at h
theorem typed_rep {t : TypeId} {v u : AVal} {c : Value} (h : typed P t v = (true, u)) (r : Rep w E H v c) : Rep w E H u c := by
 unfold typed at h
 split at h
 · simp only [Prod.mk.injEq] at h
   obtain ⟨h1, rfl⟩ := h
   cases v <;> simp [isStr] at h1
   exact r
 · simp only [Prod.mk.injEq] at h
   obtain ⟨h1, rfl⟩ := h
   cases v <;> simp [isInt] at h1
   subst h1; exact r
 · simp only [Prod.mk.injEq] at h
   obtain ⟨h1, rfl⟩ := h
   cases v <;> simp [isBool] at h1
   exact r
 · simp only [Prod.mk.injEq, true_and] at h
   subst h; exact r
theorem loadA_run (fs : FS w a E H β T B G) {t : TypeId} {p v : AVal} {c : Value} (h : loadA P B H t p = some (true, v)) (hp : RepT w E H β p c) :
 ∃ blk off d, c = .pointer (some ⟨blk, off, none⟩) ∧ (loadVar t ⟨blk, off, none⟩).run P w = .ok d w ∧ Rep w E H v d := by
 unfold loadA at h
 split at h
 · rename_i n hag hsz
   split at h
   · rename_i ok cs hr
     simp only [sJ, Prod.mk.injEq] at h
     obtain ⟨rfl, rfl⟩ := h
     obtain ⟨blk, off, rfl, hl, f, hf⟩ := readCells_rep fs hr hp
     refine ⟨blk, off, .agg ((List.range n).map f).toArray, rfl, ?_, ?_⟩
     · have := run_loadCells (P := P) w ⟨blk, off, none⟩ n f (fun j hj => by rw [addr_add]; exact (hf j hj).1)
       simp [loadVar, run_aggT hag, run_sizeT hsz, this]
     · refine .agg cs ((List.range n).map f) (by simp [hl]) (fun j hj => ?_) (fun j hj => ?_)
       · have := (hf j (by omega)).2.1
         simpa [gQ, show j < n by omega] using this
       · have := (hf j (by omega)).2.2
         simpa [gQ, show j < n by omega] using this
   · simp at h
 · rename_i n hag hsz
   split at h
   · rename_i ok cs hr
     simp only [sJ, Prod.mk.injEq, Bool.and_eq_true] at h
     obtain ⟨⟨rfl, hty⟩, hv⟩ := h
     obtain ⟨blk, off, rfl, hl, f, hf⟩ := readCells_rep fs hr hp
     obtain ⟨h1, h2, h3⟩ := hf 0 (by omega)
     refine ⟨blk, off, f 0, rfl, ?_, ?_⟩
     · simp only [Nat.add_zero] at h1
       simp [loadVar, run_aggT hag, h1]
     · exact typed_rep (P := P) (t := t) (by rw [← hv, ← hty]) h3
   · simp at h
 · simp at h
def setArr (ds : Array Value) (o : Nat) : List Value → Array Value
 | [] => ds
 | v :: vs => setArr (ds.setIfInBounds o v) (o + 1) vs
theorem setArr_size : ∀ (vs : List Value) (ds : Array Value) (o : Nat), (setArr ds o vs).size = ds.size
 | [], _, _ => rfl
 | v :: vs, ds, o => by rw [setArr, setArr_size vs]; simp
theorem setArr_get : ∀ (vs : List Value) (ds : Array Value) (o j : Nat), o + vs.length ≤ ds.size → (setArr ds o vs)[j]? = if o ≤ j ∧ j < o + vs.length then vs[j - o]? else ds[j]?
 | [], ds, o, j, _ => by simp [setArr]; intro h1 h2; omega
 | v :: vs, ds, o, j, h => by
  simp only [List.length_cons] at h
  rw [setArr, setArr_get vs _ _ j (by simp; omega)]
  by_cases h1 : j = o
  · subst h1
    rw [if_neg (by omega), if_pos ⟨Nat.le_refl _, by simp⟩]
    simp [Array.getElem?_setIfInBounds, show j < ds.size by omega]
  · by_cases h2 : o + 1 ≤ j ∧ j < o + 1 + vs.length
    · rw [if_pos h2, if_pos ⟨by omega, by simp; omega⟩]
      rw [show j - o = (j - (o + 1)) + 1 by omega]; simp
    · rw [if_neg h2, if_neg (by simp; omega)]
      rw [Array.getElem?_setIfInBounds, if_neg (by omega)]
theorem setAt_length : ∀ (vs cs : Vs) (o : Nat), (setAt cs o vs).length = cs.length
 | [], _, _ => rfl
 | v :: vs, cs, o => by rw [setAt, setAt_length vs]; simp
theorem setAt_get : ∀ (vs cs : Vs) (o j : Nat), o + vs.length ≤ cs.length → (setAt cs o vs)[j]? = if o ≤ j ∧ j < o + vs.length then vs[j - o]? else cs[j]?
 | [], cs, o, j, _ => by simp [setAt]; intro h1 h2; omega
 | v :: vs, cs, o, j, h => by
  simp only [List.length_cons] at h
  rw [setAt, setAt_get vs _ _ j (by simp; omega)]
  by_cases h1 : j = o
  · subst h1
    rw [if_neg (by omega), if_pos ⟨Nat.le_refl _, by simp⟩]
    simp [show j < cs.length by omega]
  · by_cases h2 : o + 1 ≤ j ∧ j < o + 1 + vs.length
    · rw [if_pos h2, if_pos ⟨by omega, by simp; omega⟩]
      rw [show j - o = (j - (o + 1)) + 1 by omega]; simp
    · rw [if_neg h2, if_neg (by simp; omega)]
      rw [List.getElem?_set, if_neg (by omega)]
theorem setCells_heap (b : Nat) : ∀ (vs : List Value) (o : Nat) (w : World) (ds : Array Value) (ty : TypeId) (fr : Nat × Nat), w.heap[b]? = some (.cells ds ty fr) →
 (w.setCells b o vs).heap[b]? = some (.cells (setArr ds o vs) ty fr)
 | [], _, _, _, _, _, h => h
 | v :: vs, o, w, ds, ty, fr, h => by
  rw [World.setCells, setArr]
  refine setCells_heap b vs (o + 1) _ _ ty fr ?_
  simp [World.setCell, Array.getElem?_modify, h]
theorem setCells_other (b x : Nat) (hx : x ≠ b) : ∀ (vs : List Value) (o : Nat) (w : World), (w.setCells b o vs).heap[x]? = w.heap[x]?
 | [], _, _ => rfl
 | v :: vs, o, w => by
  rw [World.setCells, setCells_other b x hx vs]
  simp [World.setCell, Array.getElem?_modify, Ne.symm hx]
theorem setCells_size (b : Nat) : ∀ (vs : List Value) (o : Nat) (w : World), (w.setCells b o vs).heap.size = w.heap.size
 | [], _, _ => rfl
 | v :: vs, o, w => by rw [World.setCells, setCells_size b vs]; simp
theorem setCells_rest (b : Nat) : ∀ (vs : List Value) (o : Nat) (w : World), (w.setCells b o vs).tape = w.tape ∧ (w.setCells b o vs).os = w.os ∧ (w.setCells b o vs).output = w.output
 | [], _, _ => ⟨rfl, rfl, rfl⟩
 | v :: vs, o, w => by
  rw [World.setCells]
  obtain ⟨h1, h2, h3⟩ := setCells_rest b vs (o + 1) (w.setCell ⟨b, o, none⟩ v)
  exact ⟨h1.trans rfl, h2.trans rfl, h3.trans rfl⟩
theorem RepT.mono {w' : World} {E' : Env} {H' : Heap} (h : Sees w E H w' E' H') {v : AVal} {c : Value} (r : RepT w E H β v c) : RepT w' E' H' β v c := by
 cases r with
 | box t off b hb => exact .box t off b hb
 | val v c r => exact .val _ _ (r.mono h)
theorem run_storeVar_cells {t : TypeId} {n blk off : Nat} {v : Value} (hsz : sizeT P t = some n) (hn : v.cells.size = n)
 (hc : ∀ j, j < n → (w.cell? ⟨blk, off + j, none⟩).isSome = true) (hf : ∀ j, j < n → w.frozen? ⟨blk, off + j, none⟩ = false) (h1 : ∀ c ∈ v.cells.toList, c.oneCell' = true) :
 (storeVar t ⟨blk, off, none⟩ v).run P w = .ok () (w.setCells blk off v.cells.toList) := by
 have hl : v.cells.toList.length = n := by simpa using hn
 have := run_storeCells_cells (P := P) blk off v.cells.toList 0 w (by simpa [hl] using hc) (by simpa [hl] using hf) h1
 simp only [Nat.add_zero] at this
 simp [storeVar, run_sizeT hsz, hn, this]
theorem cellsOf_rep {v : AVal} {c : Value} {cs : Vs} (h : cellsOf? v = some cs) (r : Rep w E H v c) :
 c.cells.toList.length = cs.length ∧ (∀ x ∈ c.cells.toList, x.oneCell' = true) ∧ ∀ j, j < cs.length → Rep w E H (cs.getD j .undef) (c.cells.toList.getD j undef) := by
 have one : ∀ {x : AVal} {y : Value}, Rep w E H x y → y.oneCell' = true → y.cells = #[y] → c = y → cs = [x] →
  c.cells.toList.length = cs.length ∧ (∀ x ∈ c.cells.toList, x.oneCell' = true) ∧ ∀ j, j < cs.length → Rep w E H (cs.getD j .undef) (c.cells.toList.getD j undef) := by
  intro x y hr h1 h2 e1 e2
  subst e1; subst e2
  rw [h2]
  refine ⟨rfl, by simpa using h1, fun j hj => ?_⟩
  have : j = 0 := by simp at hj; exact hj
  subst this; exact hr
 cases v with
 | undef => simp [cellsOf?] at h
 | tuple vs => simp [cellsOf?] at h
 | agg cells =>
  simp only [cellsOf?, sJ] at h
  subst h
  obtain ⟨ds, rfl, hl, hr⟩ := rep_agg r
  refine ⟨by simp [Value.cells, hl], ?_, ?_⟩
  · intro x hx
    simp only [Value.cells] at hx
    obtain ⟨j, hj, rfl⟩ := List.mem_iff_getElem.1 hx
    have := (hr j (by rw [hl]; exact hj)).1
    simpa [gQ, List.getElem?_eq_getElem hj] using this
  · intro j hj
    simpa [Value.cells] using (hr j hj).2
 | bool b => simp [cellsOf?] at h; obtain rfl := rep_bool r; exact one r rfl rfl rfl h.symm
 | int k n => simp [cellsOf?] at h; obtain rfl := rep_int r; exact one r rfl rfl rfl h.symm
 | str s => simp [cellsOf?] at h; obtain ⟨b, rfl, hb⟩ := rep_str r; exact one r rfl rfl rfl h.symm
 | list f n row => simp [cellsOf?] at h; obtain ⟨a, cap, rfl, _⟩ := rep_list r; exact one r rfl rfl rfl h.symm
 | own k off len ver clip => simp [cellsOf?] at h; obtain ⟨a, cap, sz, u, rfl, _⟩ := rep_own r; exact one r rfl rfl rfl h.symm
 | ptr o off =>
  simp [cellsOf?] at h
  cases o with
  | tmp t => cases r with | pure _ _ h => cases h
  | hp k => obtain ⟨rfl, _⟩ := rep_ptrH r; exact one r rfl rfl rfl h.symm
 | eptr k ver i off => simp [cellsOf?] at h; obtain ⟨p, sz, u, rfl, _⟩ := rep_eptr r; exact one r rfl rfl rfl h.symm
 | rptr cells => simp [cellsOf?] at h; obtain ⟨blk, off, cs, rfl, _⟩ := rep_rptr r; exact one r rfl rfl rfl h.symm
 | nilS => simp [cellsOf?] at h; cases r with | pure _ _ hr => cases hr; exact one (.pure _ _ (.nilS _)) rfl rfl rfl h.symm
 | nonS => simp [cellsOf?] at h; cases r with | pure _ _ hr => cases hr; exact one (.pure _ _ (.nonS _ _)) rfl rfl rfl h.symm
 | nilX => simp [cellsOf?] at h; cases r with | pure _ _ hr => cases hr; exact one (.pure _ _ .nilX) rfl rfl rfl h.symm
 | nilptr => simp [cellsOf?] at h; cases r with | pure _ _ hr => cases hr; exact one (.pure _ _ .nilptr) rfl rfl rfl h.symm
 | func f caps => simp [cellsOf?] at h; obtain ⟨cs, rfl, _⟩ := rep_func r; exact one r rfl rfl rfl h.symm
 | nilfunc => simp [cellsOf?] at h; cases r with | pure _ _ hr => cases hr; exact one (.pure _ _ .nilfunc) rfl rfl rfl h.symm
 | iface t x => simp [cellsOf?] at h; obtain ⟨d, rfl, _⟩ := rep_iface r; exact one r rfl rfl rfl h.symm
 | nilIface => simp [cellsOf?] at h; obtain rfl := rep_nilIface r; exact one r rfl rfl rfl h.symm
 | map k => simp [cellsOf?] at h; obtain ⟨rfl, _⟩ := rep_map r; exact one r rfl rfl rfl h.symm
theorem BlockRep.write {b n off : Nat} {cells cells' : Nat → Option AVal} {vs : List Value} (r : BlockRep w E H b n cells) (hle : off + vs.length ≤ n) (h1 : ∀ x ∈ vs, x.oneCell' = true)
 {E' : Env} {H' : Heap} (hs : Sees w E H (w.setCells b off vs) E' H')
 (hin : ∀ j v, off ≤ j → j < off + vs.length → cells' j = some v → Rep w E H v (vs.getD (j - off) undef))
 (hout : ∀ j v, ¬(off ≤ j ∧ j < off + vs.length) → cells' j = some v → cells j = some v) : BlockRep (w.setCells b off vs) E' H' b n cells' := by
 obtain ⟨ds, ty, fr, g1, g2, g3, g4⟩ := r
 refine ⟨setArr ds off vs, ty, fr, setCells_heap b vs off w ds ty fr g1, by rw [setArr_size]; exact g2, g3, fun j v hv => ?_⟩
 rw [setArr_get vs ds off j (by omega)]
 by_cases hj : off ≤ j ∧ j < off + vs.length
 · rw [if_pos hj]
   have hlt : j - off < vs.length := by omega
   refine ⟨vs[j - off], List.getElem?_eq_getElem hlt, h1 _ (List.getElem_mem hlt), ?_⟩
   have := hin j v hj.1 hj.2 hv
   rw [gQ, List.getElem?_eq_getElem hlt] at this
   exact Rep.mono hs this
 · rw [if_neg hj]
   obtain ⟨c, k1, k2, k3⟩ := g4 j v (hout j v hj hv)
   exact ⟨c, k1, k2, k3.mono hs⟩
theorem BlockRep.some {b n : Nat} {cells : Nat → Option AVal} (r : BlockRep w E H b n cells) {j : Nat} (hj : j < n) : (w.cell? ⟨b, j, none⟩).isSome = true ∧ w.frozen? ⟨b, j, none⟩ = false := by
 obtain ⟨ds, ty, fr, g1, g2, g3, g4⟩ := r
 refine ⟨by rw [cell?_block g1]; simp [show j < ds.size by omega], ?_⟩
 rw [frozen?_block g1]
 have := g3 j hj
 by_cases h : fr.1 ≤ j <;> simp [h] <;> omega
theorem sees_write {b off : Nat} {vs : List Value} (h : ∀ x, E.imm x → x ≠ b) : Sees w E H (w.setCells b off vs) E H :=
 ⟨fun x hx => ⟨hx, setCells_other b x (h x hx) vs off w⟩, fun k hk => ⟨hk, rfl⟩, fun k sz u hk => ⟨u, hk, Nat.le_refl _, fun _ => ⟨rfl, fun _ => rfl⟩⟩⟩
end Go.Mu
namespace Go.Mu
open Go
variable {P : Program} {w w' : World} {a : Act} {E E' : Env} {H H' : Heap} {β : Nat → Option Nat} {T : Vs} {B : Boxes} {G : Tags} {o : Oper}
theorem live_congr (hi : ∀ l, isVar H' l = isVar H l) (ha : ∀ l, arrInfo H' l = arrInfo H l) (k : Nat) : live E H' k ↔ live E H k := by
 simp only [live, hi, ha]
theorem var_of_get {k : Nat} {cs : Vs} (h : H[k]? = some (.var cs)) : isVar H k = true := by simp [isVar, h]
theorem arr_of_get {k sz u : Nat} {rows : List Vs} (h : H[k]? = some (.arr sz rows u)) : arrInfo H k = some (sz, u) := by simp [arrInfo, h]
theorem NoteOK.setCells {b : Nat} {t : TypeId} {n x off : Nat} {vs : List Value} (h : NoteOK w b t n) : NoteOK (w.setCells x off vs) b t n := by
 by_cases e : b = x
 · subst e
   obtain ⟨cs, fr, h1, h2⟩ := h
   exact ⟨_, fr, setCells_heap b vs off w cs t fr h1, fun hn => by rw [setArr_size]; exact h2 hn⟩
 · exact h.same (setCells_other x b e vs off w)
theorem get_set_note {k j : Nat} {obj : Obj} (hno : ∀ t n, obj ≠ .note t n) {t : TypeId} {n : Nat} (h : (H.set k obj)[j]? = some (.note t n)) : H[j]? = some (.note t n) := by
 by_cases e : k = j
 · subst e
   by_cases hl : k < H.length
   · rw [List.getElem?_set_self hl] at h; exact absurd (Option.some.inj h) (hno t n)
   · rw [List.getElem?_eq_none (by simp; omega)] at h; cases h
 · rwa [List.getElem?_set_ne e] at h
theorem Sim.keep (s : Sim w E H) (hs : Sees w E H w' E H) (hk : ∀ k, live E H k → w'.heap[E.φ k]? = w.heap[E.φ k]?) (hz : w.heap.size ≤ w'.heap.size) : Sim w' E H :=
 ⟨fun b hb => Nat.lt_of_lt_of_le (s.immLt b hb) hz,
  fun k cs hc => (s.var k cs hc).mono hs (hk k (.inl (var_of_get hc))),
  fun k sz rows u hc => let ⟨h1, h2, h3, h4⟩ := s.arr k sz rows u hc
   ⟨h1, h2, h3, fun hcap => (h4 hcap).mono hs (hk k (.inr ⟨⟨sz, u, arr_of_get hc⟩, hcap⟩))⟩,
  fun k hl => ⟨(s.apart k hl).1, Nat.lt_of_lt_of_le (s.apart k hl).2 hz⟩, s.inj, fun j t n hj hl => (s.note j t n hj hl).same (hk _ hl), s.glob.mono hs.imm, fun k kk es h => (s.map k kk es h).same (hk k (.inl (map_isVar h)))⟩
theorem Sim.set (s : Sim w E H) {k : Nat} {obj : Obj} (hi : ∀ l, isVar (H.set k obj) l = isVar H l) (ha : ∀ l, arrInfo (H.set k obj) l = arrInfo H l)
 (hs : Sees w E H w' E (H.set k obj)) (hz : w.heap.size ≤ w'.heap.size) (hblk : ∀ l, l ≠ k → live E H l → w'.heap[E.φ l]? = w.heap[E.φ l]?)
 (hv : ∀ cs, obj = .var cs → BlockRep w' E (H.set k obj) (E.φ k) cs.length (fun j => cs[j]?))
 (hr : ∀ sz rows u, obj = .arr sz rows u → 0 < sz ∧ rows.length ≤ E.cap k ∧ (∀ r ∈ rows, r.length = sz) ∧ (E.cap k ≠ 0 → BlockRep w' E (H.set k obj) (E.φ k) (E.cap k * sz) (cellAt sz rows)))
 (hno : ∀ t n, obj ≠ .note t n) (hn : ∀ t n, NoteOK w (E.φ k) t n → NoteOK w' (E.φ k) t n) (hm : ∀ kk es, obj = .map kk es → MapRep w' (E.φ k) kk es := by intro kk es e; cases e) : Sim w' E (H.set k obj) := by
 have hl := fun k' => live_congr (E := E) hi ha k'
 refine ⟨fun b hb => Nat.lt_of_lt_of_le (s.immLt b hb) hz, ?_, ?_, fun l h => ⟨(s.apart l ((hl l).1 h)).1, Nat.lt_of_lt_of_le (s.apart l ((hl l).1 h)).2 hz⟩,
  fun x y hx hy => s.inj x y ((hl x).1 hx) ((hl y).1 hy), fun j t n hj hlv => ?_, s.glob.mono hs.imm, fun l kk es h => ?_⟩
 rotate_left 3
 · by_cases e : l = k
   · subst e
     have hlt : l < H.length := by
      rcases Nat.lt_or_ge l H.length with g | g
      · exact g
      · rw [List.getElem?_eq_none (by simpa using g)] at h; cases h
     rw [List.getElem?_set_self hlt] at h
     exact hm kk es (Option.some.inj h)
   · rw [List.getElem?_set_ne (Ne.symm e)] at h
     exact (s.map l kk es h).same (hblk l e (.inl (map_isVar h)))
 rotate_left 2
 · have h1 := s.note j t n (get_set_note hno hj) ((hl _).1 hlv)
   by_cases e : j - 1 = k
   · rw [e] at h1 ⊢; exact hn t n h1
   · exact h1.same (hblk _ e ((hl _).1 hlv))
 · intro l cs hc
   by_cases e : l = k
   · subst e
     have hlt : l < H.length := by
      rcases Nat.lt_or_ge l H.length with g | g
      · exact g
      · rw [List.getElem?_eq_none (by simpa using g)] at hc; cases hc
     rw [List.getElem?_set_self hlt] at hc
     exact hv cs (Option.some.inj hc)
   · rw [List.getElem?_set_ne (Ne.symm e)] at hc
     exact (s.var l cs hc).mono hs (hblk l e (.inl (var_of_get hc)))
 · intro l sz rows u hc
   by_cases e : l = k
   · subst e
     have hlt : l < H.length := by
      rcases Nat.lt_or_ge l H.length with g | g
      · exact g
      · rw [List.getElem?_eq_none (by simpa using g)] at hc; cases hc
     rw [List.getElem?_set_self hlt] at hc
     exact hr sz rows u (Option.some.inj hc)
   · rw [List.getElem?_set_ne (Ne.symm e)] at hc
     obtain ⟨h1, h2, h3, h4⟩ := s.arr l sz rows u hc
     exact ⟨h1, h2, h3, fun hcap => (h4 hcap).mono hs (hblk l e (.inr ⟨⟨sz, u, arr_of_get hc⟩, hcap⟩))⟩
theorem FS.keep (fs : FS w a E H β T B G) (sim : Sim w' E' H') (hs : Sees w E H w' E' H') (hz : w.heap.size ≤ w'.heap.size)
 (himm : ∀ t b, β t = some b → ¬ E'.imm b) (hlive : ∀ t b, β t = some b → ∀ k, live E' H' k → E'.φ k ≠ b) (hb : ∀ t b, β t = some b → w'.heap[b]? = w.heap[b]?) : FS w' a E' H' β T B G :=
 ⟨sim, fs.tsize, fs.bsize, fs.gsize, fun t h => (fs.vals t h).mono hs,
  fun t b h => ⟨himm t b h, Nat.lt_of_lt_of_le (fs.box t b h).2.1 hz, hlive t b h, (fs.box t b h).2.2.2.mono hs (hb t b h)⟩, fs.binj⟩
theorem set_same_var {k : Nat} {old new : Vs} (hk : H[k]? = some (.var old)) : (∀ l, isVar (H.set k (.var new)) l = isVar H l) ∧ ∀ l, arrInfo (H.set k (.var new)) l = arrInfo H l := by
 have hlt : k < H.length := by
  rcases Nat.lt_or_ge k H.length with g | g
  · exact g
  · rw [List.getElem?_eq_none g] at hk; cases hk
 constructor <;> intro l <;> by_cases e : l = k
 · subst e; simp [isVar, List.getElem?_set_self hlt, hk]
 · simp [isVar, List.getElem?_set_ne (Ne.symm e)]
 · subst e; simp [arrInfo, List.getElem?_set_self hlt, hk]
 · simp [arrInfo, List.getElem?_set_ne (Ne.symm e)]
theorem set_same_arr {k sz u : Nat} {old new : List Vs} (hk : H[k]? = some (.arr sz old u)) : (∀ l, isVar (H.set k (.arr sz new u)) l = isVar H l) ∧ ∀ l, arrInfo (H.set k (.arr sz new u)) l = arrInfo H l := by
 have hlt : k < H.length := by
  rcases Nat.lt_or_ge k H.length with g | g
  · exact g
  · rw [List.getElem?_eq_none g] at hk; cases hk
 constructor <;> intro l <;> by_cases e : l = k
 · subst e; simp [isVar, List.getElem?_set_self hlt, hk]
 · simp [isVar, List.getElem?_set_ne (Ne.symm e)]
 · subst e; simp [arrInfo, List.getElem?_set_self hlt, hk]
 · simp [arrInfo, List.getElem?_set_ne (Ne.symm e)]
theorem evo_write {k b off : Nat} {vs : List Value} {obj : Obj} (hb : ∀ x, E.imm x → x ≠ b) (hX : Xβ β b ∨ ∃ k, live E H k ∧ E.φ k = b)
 (hi : ∀ l, isVar H' l = isVar H l) (ha : ∀ l, arrInfo H' l = arrInfo H l) (hlen : H'.length = H.length) : Evo (Xβ β) w E H (w.setCells b off vs) E H' := by
 obtain ⟨r1, r2, r3⟩ := setCells_rest b vs off w
 refine ⟨Nat.le_of_eq (setCells_size b vs off w).symm, fun x hx hn hk => setCells_other b x (fun e => ?_) vs off w, fun x hx => ⟨hx, setCells_other b x (hb x hx) vs off w⟩, fun x hx => .inl hx,
  fun k hk => ⟨by rw [hi]; exact hk, rfl⟩, fun k sz u hk => ⟨u, by rw [ha]; exact hk, Nat.le_refl _, fun _ => ⟨rfl, fun _ => rfl⟩⟩,
  fun k hk => .inr ⟨(live_congr hi ha k).1 hk, rfl⟩, Nat.le_of_eq hlen.symm, r1, r2, r3⟩
 subst e
 rcases hX with h | ⟨k, h1, h2⟩
 · exact hn h
 · exact hk k h1 h2
theorem storeA_sound (fs : FS w a E H β T B G) {p : AVal} {cs : Vs} {vs : List Value} {r : SR} {c : Value} (h : storeA B H p cs = some r) (hok : r.ok = true) (hp : RepT w E H β p c)
 (hl : vs.length = cs.length) (h1 : ∀ x ∈ vs, x.oneCell' = true) (hr : ∀ j, j < cs.length → Rep w E H (cs.getD j .undef) (vs.getD j undef)) :
 ∃ blk off, c = .pointer (some ⟨blk, off, none⟩) ∧ (∀ j, j < vs.length → (w.cell? ⟨blk, off + j, none⟩).isSome = true ∧ w.frozen? ⟨blk, off + j, none⟩ = false) ∧
  Evo (Xβ β) w E H (w.setCells blk off vs) E r.H ∧ FS (w.setCells blk off vs) a E r.H β T r.B G := by
 unfold storeA at h
 split at h
 · rename_i t off
   simp only [sJ] at h
   subst h
   simp only [decide_eq_true_eq] at hok
   obtain ⟨b, rfl, hb⟩ := repT_ptr hp
   obtain ⟨k1, k2, k3, k4⟩ := fs.box t b hb
   have hne : ∀ x, E.imm x → x ≠ b := fun x hx e => k1 (e ▸ hx)
   have hs := sees_write (w := w) (E := E) (H := H) (b := b) (off := off) (vs := vs) hne
   refine ⟨b, off, rfl, fun j hj => k4.some (by omega), evo_write (k := 0) (obj := .var []) hne (.inl ⟨t, hb⟩) (fun _ => rfl) (fun _ => rfl) rfl, ?_⟩
   have sim : Sim (w.setCells b off vs) E H := fs.sim.keep hs (fun k hk => setCells_other b _ (k3 k hk) vs off w) (Nat.le_of_eq (setCells_size b vs off w).symm)
   have htlen : t < B.length ∨ B.length ≤ t := Nat.lt_or_ge _ _
   refine ⟨sim, fs.tsize, by simp [bset, fs.bsize], fs.gsize, fun u hu => (fs.vals u hu).mono hs, fun u b' hu => ?_, fs.binj⟩
   obtain ⟨j1, j2, j3, j4⟩ := fs.box u b' hu
   refine ⟨j1, by rw [setCells_size]; exact j2, j3, ?_⟩
   by_cases e : u = t
   · subst e
     rw [hb] at hu
     obtain rfl := Option.some.inj hu
     rcases htlen with hlt | hge
     · have e2 : (bset B u (setAt (B.getD u []) off cs)).getD u [] = setAt (B.getD u []) off cs := by simp [bset, gQ, hlt]
       rw [e2, setAt_length]
       refine k4.write (by omega) h1 hs (fun j v g1 g2 hv => ?_) (fun j v hj hv => ?_)
       · rw [setAt_get cs _ off j hok, if_pos ⟨g1, by omega⟩] at hv
         have := hr (j - off) (by omega)
         rw [gQ, hv] at this
         exact this
       · rw [setAt_get cs _ off j hok, if_neg (by omega)] at hv
         exact hv
     · have e2 : (bset B u (setAt (B.getD u []) off cs)).getD u [] = [] := by simp [bset, gQ, Nat.not_lt.2 hge]
       rw [e2]
       have e3 : B.getD u [] = [] := by simp [gQ, hge]
       rw [e3] at hok k4
       simp only [List.length_nil, Nat.le_zero, Nat.add_eq_zero_iff, List.length_eq_zero_iff] at hok
       obtain ⟨rfl, rfl⟩ := hok
       obtain rfl : vs = [] := List.length_eq_zero_iff.1 (by simpa using hl)
       exact k4.mono hs rfl
   · have e2 : (bset B t (setAt (B.getD t []) off cs)).getD u [] = B.getD u [] := by simp [bset, gQ, List.getElem?_set_ne (Ne.symm e)]
     rw [e2]
     exact j4.mono hs (setCells_other b b' (fun e' => e (fs.binj u t b' hu (e' ▸ hb))) vs off w)
 · rename_i k off
   split at h
   · rename_i old hk
     simp only [sJ] at h
     subst h
     simp only [decide_eq_true_eq] at hok
     have hp' : Rep w E H (.ptr (.hp k) off) c := by cases hp with | val _ _ h => exact h
     obtain ⟨rfl, hv⟩ := rep_ptrH hp'
     have hlv : live E H k := .inl hv
     obtain ⟨ap1, ap2⟩ := fs.sim.apart k hlv
     have hne : ∀ x, E.imm x → x ≠ E.φ k := fun x hx e => ap1 (e ▸ hx)
     obtain ⟨hi, ha⟩ := set_same_var (new := setAt old off cs) hk
     have ev := evo_write (w := w) (β := β) (k := 0) (obj := .var []) (off := off) (vs := vs) hne (.inr ⟨k, hlv, rfl⟩) hi ha (by simp)
     have hs := ev.sees
     have kb := fs.sim.var k old hk
     refine ⟨E.φ k, off, rfl, fun j hj => kb.some (by omega), ev, ?_⟩
     have sim : Sim (w.setCells (E.φ k) off vs) E (H.set k (.var (setAt old off cs))) := by
      refine fs.sim.set hi ha hs (Nat.le_of_eq (setCells_size _ vs off w).symm) (fun l hl hll => setCells_other _ _ (fun e => hl (fs.sim.inj l k hll hlv e)) vs off w) ?_ (fun sz rows u e => by cases e) (fun t n e => by cases e) (fun t n h => h.setCells)
      intro cs' e
      cases e
      rw [setAt_length]
      refine kb.write (by omega) h1 hs (fun j v g1 g2 hv => ?_) (fun j v hj hv => ?_)
      · rw [setAt_get cs _ off j hok, if_pos ⟨g1, by omega⟩] at hv
        have := hr (j - off) (by omega)
        rw [gQ, hv] at this
        exact this
      · rw [setAt_get cs _ off j hok, if_neg (by omega)] at hv
        exact hv
     exact fs.keep sim hs (Nat.le_of_eq (setCells_size _ vs off w).symm) (fun t b hb => (fs.box t b hb).1) (fun t b hb l hll => (fs.box t b hb).2.2.1 l ((live_congr hi ha l).1 hll))
      (fun t b hb => setCells_other _ _ (fun e => (fs.box t b hb).2.2.1 k hlv e.symm) vs off w)
   · simp at h
 · rename_i k ver i off
   split at h
   · rename_i sz rows u hk
     simp only [sJ] at h
     subst h
     simp only [Bool.and_eq_true, beq_iff_eq, decide_eq_true_eq] at hok
     obtain ⟨⟨rfl, hi'⟩, hle⟩ := hok
     have hp' : Rep w E H (.eptr k u i off) c := by cases hp with | val _ _ h => exact h
     obtain ⟨p, sz', u', rfl, ha', hu, hpp⟩ := rep_eptr hp'
     rw [arr_of_get hk] at ha'
     simp only [sJ, Prod.mk.injEq] at ha'
     obtain ⟨rfl, rfl⟩ := ha'
     obtain ⟨hcap, rfl⟩ := hpp rfl
     have hlv : live E H k := .inr ⟨⟨sz, u, arr_of_get hk⟩, hcap⟩
     obtain ⟨ap1, ap2⟩ := fs.sim.apart k hlv
     have hne : ∀ x, E.imm x → x ≠ E.φ k := fun x hx e => ap1 (e ▸ hx)
     obtain ⟨hi, ha⟩ := set_same_arr (new := rows.set i (setAt (rows.getD i []) off cs)) hk
     have ev := evo_write (w := w) (β := β) (k := 0) (obj := .var []) (off := i * sz + off) (vs := vs) hne (.inr ⟨k, hlv, rfl⟩) hi ha (by simp)
     have hs := ev.sees
     obtain ⟨hsz, hrl, hrows, hblk⟩ := fs.sim.arr k sz rows u hk
     have kb := hblk hcap
     have hlen : (rows.getD i []).length = sz := hrows _ (by simp [gQ, List.getElem?_eq_getElem hi'])
     have hbound : i * sz + off + vs.length ≤ E.cap k * sz := by
      have : (i + 1) * sz ≤ E.cap k * sz := Nat.mul_le_mul_right _ (by omega)
      rw [Nat.add_mul] at this; omega
     refine ⟨E.φ k, i * sz + off, rfl, fun j hj => kb.some (by omega), ev, ?_⟩
     have sim : Sim (w.setCells (E.φ k) (i * sz + off) vs) E (H.set k (.arr sz (rows.set i (setAt (rows.getD i []) off cs)) u)) := by
      refine fs.sim.set hi ha hs (Nat.le_of_eq (setCells_size _ vs _ w).symm) (fun l hl hll => setCells_other _ _ (fun e => hl (fs.sim.inj l k hll hlv e)) vs _ w) (fun cs' e => by cases e) ?_ (fun t n e => by cases e) (fun t n h => h.setCells)
      intro sz' rows' u' e
      cases e
      refine ⟨hsz, by simpa using hrl, ?_, fun _ => ?_⟩
      · intro r hr'
        rcases List.mem_or_eq_of_mem_set hr' with h | h
        · exact hrows r h
        · rw [h, setAt_length]; exact hlen
      · have hcell : ∀ j, cellAt sz (rows.set i (setAt (rows.getD i []) off cs)) j = if j / sz = i then (setAt (rows.getD i []) off cs)[j % sz]? else cellAt sz rows j := by
         intro j
         unfold cellAt
         by_cases e : j / sz = i
         · rw [if_pos e, e, List.getElem?_set_self hi']; rfl
         · rw [if_neg e, List.getElem?_set_ne (Ne.symm e)]
        have hold : ∀ j, j / sz = i → cellAt sz rows j = (rows.getD i [])[j % sz]? := by
         intro j e
         unfold cellAt
         rw [e, List.getElem?_eq_getElem hi']
         simp [gQ, List.getElem?_eq_getElem hi']
        have hjs : ∀ j, j = (j / sz) * sz + j % sz := fun j => by rw [Nat.mul_comm]; exact (Nat.div_add_mod j sz).symm
        refine kb.write hbound h1 hs (fun j v g1 g2 hv => ?_) (fun j v hj hv => ?_)
        · have hdiv : j / sz = i := Nat.div_eq_of_lt_le (by omega) (by rw [Nat.add_mul]; omega)
          have hmod : j % sz = j - i * sz := by have := hjs j; rw [hdiv] at this; omega
          rw [hcell, if_pos hdiv, hmod, setAt_get cs _ off _ (by omega), if_pos ⟨by omega, by omega⟩] at hv
          have := hr (j - i * sz - off) (by omega)
          rw [gQ, hv] at this
          rw [show j - (i * sz + off) = j - i * sz - off by omega]
          exact this
        · rw [hcell] at hv
          by_cases e : j / sz = i
          · rw [if_pos e] at hv
            have hmod : j % sz = j - i * sz := by have := hjs j; rw [e] at this; omega
            have hge : i * sz ≤ j := by rw [← e]; exact Nat.div_mul_le_self j sz
            rw [hmod, setAt_get cs _ off _ (by omega), if_neg (by omega)] at hv
            rw [hold j e, hmod]; exact hv
          · rw [if_neg e] at hv; exact hv
     exact fs.keep sim hs (Nat.le_of_eq (setCells_size _ vs _ w).symm) (fun t b hb => (fs.box t b hb).1) (fun t b hb l hll => (fs.box t b hb).2.2.1 l ((live_congr hi ha l).1 hll))
      (fun t b hb => setCells_other _ _ (fun e => (fs.box t b hb).2.2.1 k hlv e.symm) vs _ w)
   · simp at h
 · simp at h
end Go.Mu
namespace Go.Mu
open Go
variable {P : Program} {w w' : World} {a : Act} {E E' : Env} {H H' : Heap} {β : Nat → Option Nat} {T : Vs} {B : Boxes} {G : Tags} {o : Oper}
def upd {α : Type} (f : Nat → α) (k : Nat) (v : α) : Nat → α := fun x => if x = k then v else f x
@[simp] theorem upd_same {α : Type} (f : Nat → α) (k : Nat) (v : α) : upd f k v k = v := by simp [upd]
theorem upd_other {α : Type} (f : Nat → α) {k x : Nat} (v : α) (h : x ≠ k) : upd f k v x = f x := by simp [upd, h]
structure PushedO (w w' : World) (ob : Go.Obj) : Prop where
 heap : w'.heap = w.heap.push ob
 tape : w'.tape = w.tape
 os : w'.os = w.os
 output : w'.output = w.output
abbrev Pushed (w w' : World) (ds : Array Value) (ty : TypeId) (fr : Nat × Nat) : Prop := PushedO w w' (.cells ds ty fr)
theorem PushedO.size {ob} (h : PushedO w w' ob) : w'.heap.size = w.heap.size + 1 := by rw [h.heap]; simp
theorem PushedO.new {ob} (h : PushedO w w' ob) : w'.heap[w.heap.size]? = some ob := by rw [h.heap]; simp
theorem PushedO.old {ob} (h : PushedO w w' ob) {b : Nat} (hb : b < w.heap.size) : w'.heap[b]? = w.heap[b]? := by
 rw [h.heap, Array.getElem?_push, if_neg (by omega)]
theorem isVar_append {obj : Obj} {l : Nat} (h : l < H.length) : isVar (H ++ [obj]) l = isVar H l := by simp [isVar, List.getElem?_append_left h]
theorem arrInfo_append {obj : Obj} {l : Nat} (h : l < H.length) : arrInfo (H ++ [obj]) l = arrInfo H l := by simp [arrInfo, List.getElem?_append_left h]
theorem isVar_lt {k : Nat} (h : isVar H k = true) : k < H.length := live_lt (E := ⟨fun _ => False, id, id⟩) (.inl h)
theorem arrInfo_lt {k sz u : Nat} (h : arrInfo H k = some (sz, u)) : k < H.length := live_lt (E := ⟨fun _ => False, id, fun _ => 1⟩) (.inr ⟨⟨sz, u, h⟩, by simp⟩)
theorem fresh_imm (fs : FS w a E H β T B G) {ds ty fr} (h : Pushed w w' ds ty fr) :
 Evo (Xβ β) w E H w' { E with imm := fun x => E.imm x ∨ x = w.heap.size } H ∧ FS w' a { E with imm := fun x => E.imm x ∨ x = w.heap.size } H β T B G := by
 have ev : Evo (Xβ β) w E H w' { E with imm := fun x => E.imm x ∨ x = w.heap.size } H := by
  refine ⟨by rw [h.size]; omega, fun b hb _ _ => h.old hb, fun b hb => ⟨.inl hb, h.old (fs.sim.immLt b hb)⟩, fun b hb => ?_, fun k hk => ⟨hk, rfl⟩, fun k sz u hk => ⟨u, hk, Nat.le_refl _, fun _ => ⟨rfl, fun _ => rfl⟩⟩,
   fun k hk => .inr ⟨hk, rfl⟩, Nat.le_refl _, h.tape, h.os, h.output⟩
  rcases hb with hb | hb
  · exact .inl hb
  · exact .inr (by omega)
 have hs := ev.sees
 refine ⟨ev, fs.keep ?_ hs (by rw [h.size]; omega) (fun t b hb => ?_) (fun t b hb k hk => (fs.box t b hb).2.2.1 k hk) (fun t b hb => h.old (fs.box t b hb).2.1)⟩
 · refine ⟨fun b hb => ?_, fun k cs hc => (fs.sim.var k cs hc).mono hs (h.old (fs.sim.apart k (.inl (var_of_get hc))).2), fun k sz rows u hc => ?_, fun k hk => ⟨?_, ?_⟩, fs.sim.inj, fun j t n hj hl => (fs.sim.note j t n hj hl).same (h.old (fs.sim.apart _ hl).2), fs.sim.glob.mono hs.imm, fun k kk es hk => (fs.sim.map k kk es hk).same (h.old (fs.sim.apart k (.inl (map_isVar hk))).2)⟩
   · rw [h.size]
     rcases hb with hb | hb
     · have := fs.sim.immLt b hb; omega
     · omega
   · obtain ⟨h1, h2, h3, h4⟩ := fs.sim.arr k sz rows u hc
     exact ⟨h1, h2, h3, fun hcap => (h4 hcap).mono hs (h.old (fs.sim.apart k (.inr ⟨⟨sz, u, arr_of_get hc⟩, hcap⟩)).2)⟩
   · rintro (hb | hb)
     · exact (fs.sim.apart k hk).1 hb
     · have := (fs.sim.apart k hk).2; simp only at hb; omega
   · rw [h.size]; have := (fs.sim.apart k hk).2; simp only; omega
 · rintro (hb' | hb')
   · exact (fs.box t b hb).1 hb'
   · have := (fs.box t b hb).2.1; omega
theorem fresh_box (fs : FS w a E H β T B G) {ds ty} (h : Pushed w w' ds ty (0, 0)) {d : Nat} {z : Vs} (hd : d < B.length) (hT : T.any (pointsTo d) = false)
 (hz : ds.size = z.length) (hr : ∀ (j : Nat) (v : AVal), z[j]? = some v → ∃ c, ds[j]? = some c ∧ c.oneCell' = true ∧ Rep w E H v c) :
 Evo (Xβ β) w E H w' E H ∧ FS w' a E H (upd β d (some w.heap.size)) T (bset B d z) G := by
 have ev : Evo (Xβ β) w E H w' E H :=
  ⟨by rw [h.size]; omega, fun b hb _ _ => h.old hb, fun b hb => ⟨hb, h.old (fs.sim.immLt b hb)⟩, fun b hb => .inl hb, fun k hk => ⟨hk, rfl⟩, fun k sz u hk => ⟨u, hk, Nat.le_refl _, fun _ => ⟨rfl, fun _ => rfl⟩⟩,
   fun k hk => .inr ⟨hk, rfl⟩, Nat.le_refl _, h.tape, h.os, h.output⟩
 have hs := ev.sees
 have sim : Sim w' E H := fs.sim.keep hs (fun k hk => h.old (fs.sim.apart k hk).2) (by rw [h.size]; omega)
 refine ⟨ev, sim, fs.tsize, by simp [bset, fs.bsize], fs.gsize, fun t ht => ?_, fun t b hb => ?_, fun t u b ht hu => ?_⟩
 · have hr := fs.vals t ht
   have hne : ∀ off, T.getD t .undef ≠ .ptr (.tmp d) off := by
    intro off e
    have hm : AVal.ptr (.tmp d) off ∈ T := by
     rw [← e, gQ]
     rcases Nat.lt_or_ge t T.length with g | g
     · rw [List.getElem?_eq_getElem g]; exact List.getElem_mem g
     · rw [gQ, List.getElem?_eq_none g] at e; simp at e
    have := List.any_eq_false.1 hT _ hm
    simp [pointsTo] at this
   generalize T.getD t .undef = v at *
   generalize a.tmps.getD t undef = c at *
   cases hr with
   | box u off b hb =>
    refine .box u off b ?_
    rw [upd_other _ _ (fun e => hne off (by rw [e]))]
    exact hb
   | val v c r => exact .val _ _ (r.mono hs)
 · by_cases e : t = d
   · subst e
     rw [upd_same] at hb
     obtain rfl := Option.some.inj hb
     refine ⟨fun hi => Nat.lt_irrefl _ (fs.sim.immLt _ hi), by rw [h.size]; omega, fun k hk he => by have := (fs.sim.apart k hk).2; omega, ?_⟩
     have e2 : (bset B t z).getD t [] = z := by simp [bset, gQ, hd]
     rw [e2]
     refine ⟨ds, ty, (0, 0), h.new, by omega, fun o _ hc => by omega, fun j v hv => ?_⟩
     obtain ⟨c, g1, g2, g3⟩ := hr j v hv
     exact ⟨c, g1, g2, g3.mono hs⟩
   · rw [upd_other _ _ e] at hb
     obtain ⟨j1, j2, j3, j4⟩ := fs.box t b hb
     have e2 : (bset B d z).getD t [] = B.getD t [] := by simp [bset, gQ, List.getElem?_set_ne (Ne.symm e)]
     rw [e2]
     exact ⟨j1, by rw [h.size]; omega, j3, j4.mono hs (h.old j2)⟩
 · by_cases e1 : t = d <;> by_cases e2 : u = d
   · rw [e1, e2]
   · subst e1
     rw [upd_same] at ht; rw [upd_other _ _ e2] at hu
     obtain rfl := Option.some.inj ht
     exact absurd (fs.box u _ hu).2.1 (Nat.lt_irrefl _)
   · subst e2
     rw [upd_same] at hu; rw [upd_other _ _ e1] at ht
     obtain rfl := Option.some.inj hu
     exact absurd (fs.box t _ ht).2.1 (Nat.lt_irrefl _)
   · rw [upd_other _ _ e1] at ht; rw [upd_other _ _ e2] at hu
     exact fs.binj t u b ht hu
def pushEnv (E : Env) (k b c : Nat) : Env := { imm := E.imm, φ := upd E.φ k b, cap := upd E.cap k c }
theorem live_append {obj : Obj} {k b c : Nat} : live (pushEnv E H.length b c) (H ++ [obj]) k → (live E H k ∧ k < H.length) ∨ k = H.length := by
 intro h
 have hlt := live_lt h
 simp only [List.length_append, List.length_singleton] at hlt
 by_cases e : k = H.length
 · exact .inr e
 · refine .inl ⟨?_, by omega⟩
   simp only [live, isVar_append (H := H) (obj := obj) (show k < H.length by omega), arrInfo_append (H := H) (obj := obj) (show k < H.length by omega), pushEnv, upd_other _ _ e] at h
   exact h
theorem evo_push {X} (hsim : Sim w E H) {ob} (h : PushedO w w' ob) (obj : Obj) (c : Nat) : Evo X w E H w' (pushEnv E H.length w.heap.size c) (H ++ [obj]) := by
 refine ⟨by rw [h.size]; omega, fun b hb _ _ => h.old hb, fun b hb => ⟨hb, h.old (hsim.immLt b hb)⟩, fun b hb => .inl hb, fun k hk => ?_, fun k sz u hk => ?_, fun k hk => ?_, by simp, h.tape, h.os, h.output⟩
 · have := isVar_lt hk
   exact ⟨by rw [isVar_append this]; exact hk, by simp only [pushEnv]; rw [upd_other _ _ (by omega)]⟩
 · have := arrInfo_lt hk
   exact ⟨u, by rw [arrInfo_append this]; exact hk, Nat.le_refl _, fun _ => ⟨by simp only [pushEnv]; rw [upd_other _ _ (by omega)], fun _ => by simp only [pushEnv]; rw [upd_other _ _ (by omega)]⟩⟩
 · rcases live_append hk with ⟨h1, h2⟩ | rfl
   · exact .inr ⟨h1, by simp only [pushEnv]; rw [upd_other _ _ (by omega)]⟩
   · exact .inl (by simp [pushEnv])
theorem get_note_append {obj : Obj} (hno : ∀ t n, obj ≠ .note t n) {j : Nat} {t : TypeId} {n : Nat} (h : (H ++ [obj])[j]? = some (.note t n)) : H[j]? = some (.note t n) ∧ j < H.length := by
 rcases Nat.lt_or_ge j H.length with g | g
 · rw [List.getElem?_append_left g] at h; exact ⟨h, g⟩
 · rw [List.getElem?_append_right g] at h
   cases hj : j - H.length with
   | zero => rw [hj] at h; exact absurd (Option.some.inj h) (hno t n)
   | succ m => rw [hj] at h; simp at h
theorem note_not_live {j : Nat} {t : TypeId} {n : Nat} (h : H[j]? = some (.note t n)) : ¬ live E H j := by
 rintro (hl | ⟨⟨sz, u, hl⟩, _⟩)
 · simp [isVar, h] at hl
 · simp [arrInfo, h] at hl
theorem live_note_append {obj : Obj} {j b c : Nat} {t : TypeId} {n : Nat} (h : H[j]? = some (.note t n)) (hl : live (pushEnv E H.length b c) (H ++ [obj]) (j - 1)) : live E H (j - 1) ∧ j - 1 < H.length := by
 have hj : j < H.length := (List.getElem?_eq_some_iff.1 h).1
 rcases live_append hl with h1 | h1
 · exact h1
 · omega
theorem live_note_last {t : TypeId} {n k : Nat} (hl : live E (H ++ [.note t n]) k) : live E H k ∧ k < H.length := by
 have hlt := live_lt hl
 simp only [List.length_append, List.length_singleton] at hlt
 by_cases e : k = H.length
 · subst e
   exact absurd hl (note_not_live (t := t) (n := n) (by simp))
 · simp only [live, isVar_append (H := H) (obj := .note t n) (show k < H.length by omega), arrInfo_append (H := H) (obj := .note t n) (show k < H.length by omega)] at hl
   exact ⟨hl, by omega⟩
theorem push_note {X} (hsim : Sim w E H) {t : TypeId} {n : Nat} (h : live E H (H.length - 1) → NoteOK w (E.φ (H.length - 1)) t n) : Evo X w E H w E (H ++ [.note t n]) ∧ Sim w E (H ++ [.note t n]) := by
 have ev : Evo X w E H w E (H ++ [.note t n]) := by
  refine ⟨Nat.le_refl _, fun _ _ _ _ => rfl, fun b hb => ⟨hb, rfl⟩, fun b hb => .inl hb, fun k hk => ?_, fun k sz u hk => ?_, fun k hk => .inr ⟨(live_note_last hk).1, rfl⟩, by simp, rfl, rfl, rfl⟩
  · exact ⟨by rw [isVar_append (isVar_lt hk)]; exact hk, rfl⟩
  · exact ⟨u, by rw [arrInfo_append (arrInfo_lt hk)]; exact hk, Nat.le_refl _, fun _ => ⟨rfl, fun _ => rfl⟩⟩
 have hs := ev.sees
 have get : ∀ {k : Nat} {obj : Obj}, (∀ t n, obj ≠ .note t n) → (H ++ [.note t n])[k]? = some obj → H[k]? = some obj := fun {k obj} hno hk => by
  rcases Nat.lt_or_ge k H.length with g | g
  · rwa [List.getElem?_append_left g] at hk
  · rw [List.getElem?_append_right g] at hk
    cases hj : k - H.length with
    | zero => rw [hj] at hk; exact absurd (Option.some.inj hk).symm (hno t n)
    | succ m => rw [hj] at hk; simp at hk
 refine ⟨ev, hsim.immLt, fun k cs hc => ?_, fun k sz rows u hc => ?_, fun k hk => hsim.apart k (live_note_last hk).1, fun k l hk hl he => hsim.inj k l (live_note_last hk).1 (live_note_last hl).1 he, fun j t' n' hj hl => ?_, hsim.glob, fun k kk es h => (hsim.map k kk es (get (fun _ _ e => by cases e) h)).same rfl⟩
 · exact (hsim.var k cs (get (fun _ _ e => by cases e) hc)).mono hs rfl
 · obtain ⟨g1, g2, g3, g4⟩ := hsim.arr k sz rows u (get (fun _ _ e => by cases e) hc)
   exact ⟨g1, g2, g3, fun hcap => (g4 hcap).mono hs rfl⟩
 · obtain ⟨hl1, hl2⟩ := live_note_last hl
   rcases Nat.lt_or_ge j H.length with g | g
   · rw [List.getElem?_append_left g] at hj
     exact hsim.note j t' n' hj hl1
   · rw [List.getElem?_append_right g] at hj
     cases hq : j - H.length with
     | zero =>
      rw [hq] at hj
      simp only [List.getElem?_cons_zero, sJ, Obj.note.injEq] at hj
      obtain ⟨rfl, rfl⟩ := hj
      obtain rfl : j = H.length := by omega
      exact h hl1
     | succ m => rw [hq] at hj; simp at hj
theorem fresh_note (fs : FS w a E H β T B G) {t : TypeId} {n : Nat} (h : live E H (H.length - 1) → NoteOK w (E.φ (H.length - 1)) t n) : Evo (Xβ β) w E H w E (H ++ [.note t n]) ∧ FS w a E (H ++ [.note t n]) β T B G := by
 obtain ⟨ev, sim⟩ := push_note (X := Xβ β) fs.sim h
 exact ⟨ev, fs.keep sim ev.sees (Nat.le_refl _) (fun t b hb => (fs.box t b hb).1) (fun t b hb k hk => (fs.box t b hb).2.2.1 k (live_note_last hk).1) (fun t b hb => rfl)⟩
theorem fresh_gen (fs : FS w a E H β T B G) {ob} (h : PushedO w w' ob) {obj : Obj} {c : Nat}
 (hv : ∀ cs, obj = .var cs → ∃ ds ty fr, ob = .cells ds ty fr ∧ thawed fr ds.size ∧ ds.size = cs.length ∧ ∀ (j : Nat) (v : AVal), cs[j]? = some v → ∃ c, ds[j]? = some c ∧ c.oneCell' = true ∧ Rep w E H v c)
 (hr : ∀ sz rows u, obj = .arr sz rows u → 0 < sz ∧ rows.length ≤ c ∧ (∀ r ∈ rows, r.length = sz) ∧ ∃ ds ty fr, ob = .cells ds ty fr ∧ thawed fr ds.size ∧ c * sz ≤ ds.size ∧ ∀ (j : Nat) (v : AVal), cellAt sz rows j = some v → ∃ c, ds[j]? = some c ∧ c.oneCell' = true ∧ Rep w E H v c)
 (hm : ∀ kk es, obj = .map kk es → ∃ ms cl, ob = .map ms cl ∧ ms.toList.map (fun e => (e.key, e.val)) = es.map (fun e => (.int kk e.1, scOf e.2)))
 (hno : ∀ t n, obj ≠ .note t n) :
 Evo (Xβ β) w E H w' (pushEnv E H.length w.heap.size c) (H ++ [obj]) ∧ FS w' a (pushEnv E H.length w.heap.size c) (H ++ [obj]) β T B G := by
 have ev := evo_push (X := Xβ β) fs.sim h obj c
 have hs := ev.sees
 have last : (H ++ [obj])[H.length]? = some obj := by simp
 refine ⟨ev, fs.keep ?_ hs (by rw [h.size]; omega) (fun t b hb => (fs.box t b hb).1) (fun t b hb k hk => ?_) (fun t b hb => h.old (fs.box t b hb).2.1)⟩
 · refine ⟨fun b hb => by rw [h.size]; have := fs.sim.immLt b hb; omega, fun k cs hc => ?_, fun k sz rows u hc => ?_, fun k hk => ?_, fun k l hk hl he => ?_, fun j t n hj hl => ?_, fs.sim.glob.mono hs.imm, fun k kk es hc => ?_⟩
   rotate_left 5
   · rcases Nat.lt_or_ge k H.length with g | g
     · rw [List.getElem?_append_left g] at hc
       have e : (pushEnv E H.length w.heap.size c).φ k = E.φ k := by simp only [pushEnv]; rw [upd_other _ _ (by omega)]
       rw [e]
       exact (fs.sim.map k kk es hc).same (h.old (fs.sim.apart k (.inl (map_isVar hc))).2)
     · have hk : k = H.length := by
        have := isVar_lt (map_isVar hc); simp at this; omega
       subst hk
       rw [last] at hc
       obtain ⟨ms, cl, e, hq⟩ := hm kk es (Option.some.inj hc)
       exact ⟨ms, cl, by rw [← e]; simpa [pushEnv] using h.new, hq⟩
   rotate_left 4
   · obtain ⟨hj, hlt⟩ := get_note_append hno hj
     obtain ⟨h1, h2⟩ := live_note_append hj hl
     have e : (pushEnv E H.length w.heap.size c).φ (j - 1) = E.φ (j - 1) := by simp only [pushEnv]; rw [upd_other _ _ (by omega)]
     rw [e]
     exact (fs.sim.note j t n hj h1).same (h.old (fs.sim.apart _ h1).2)
   · rcases Nat.lt_or_ge k H.length with g | g
     · rw [List.getElem?_append_left g] at hc
       have e : (pushEnv E H.length w.heap.size c).φ k = E.φ k := by simp only [pushEnv]; rw [upd_other _ _ (by omega)]
       rw [e]
       exact (fs.sim.var k cs hc).mono hs (h.old (fs.sim.apart k (.inl (var_of_get hc))).2)
     · have hk : k = H.length := by
        have := isVar_lt (var_of_get hc); simp at this; omega
       subst hk
       rw [last] at hc
       obtain ⟨ds, ty, fr, rfl, hth, k1, k2⟩ := hv cs (Option.some.inj hc)
       refine ⟨ds, ty, fr, by simpa [pushEnv] using h.new, by omega, fun o ho => hth o (by omega), fun j v hv => ?_⟩
       obtain ⟨c, g1, g2, g3⟩ := k2 j v hv
       exact ⟨c, g1, g2, g3.mono hs⟩
   · rcases Nat.lt_or_ge k H.length with g | g
     · rw [List.getElem?_append_left g] at hc
       have e : (pushEnv E H.length w.heap.size c).φ k = E.φ k := by simp only [pushEnv]; rw [upd_other _ _ (by omega)]
       have e' : (pushEnv E H.length w.heap.size c).cap k = E.cap k := by simp only [pushEnv]; rw [upd_other _ _ (by omega)]
       rw [e, e']
       obtain ⟨h1, h2, h3, h4⟩ := fs.sim.arr k sz rows u hc
       exact ⟨h1, h2, h3, fun hcap => (h4 hcap).mono hs (h.old (fs.sim.apart k (.inr ⟨⟨sz, u, arr_of_get hc⟩, hcap⟩)).2)⟩
     · have hk : k = H.length := by
        have := arrInfo_lt (arr_of_get hc); simp at this; omega
       subst hk
       rw [last] at hc
       obtain ⟨k1, k2, k3, ds, ty, fr, rfl, hth, k4, k5⟩ := hr sz rows u (Option.some.inj hc)
       refine ⟨k1, by simpa [pushEnv] using k2, k3, fun hcap => ⟨ds, ty, fr, by simpa [pushEnv] using h.new, by simpa [pushEnv] using k4, fun o ho => hth o (by simp only [pushEnv, upd_same] at ho; omega), fun j v hv => ?_⟩⟩
       obtain ⟨c, g1, g2, g3⟩ := k5 j v hv
       exact ⟨c, g1, g2, g3.mono hs⟩
   · rcases live_append hk with ⟨h1, h2⟩ | rfl
     · have e : (pushEnv E H.length w.heap.size c).φ k = E.φ k := by simp only [pushEnv]; rw [upd_other _ _ (by omega)]
       rw [e, h.size]
       exact ⟨(fs.sim.apart k h1).1, by have := (fs.sim.apart k h1).2; omega⟩
     · simp only [pushEnv, upd_same, h.size]
       exact ⟨fun hi => Nat.lt_irrefl _ (fs.sim.immLt _ hi), by omega⟩
   · rcases live_append hk with ⟨h1, h2⟩ | rfl <;> rcases live_append hl with ⟨g1, g2⟩ | rfl
     · simp only [pushEnv] at he
       rw [upd_other _ _ (by omega), upd_other _ _ (by omega)] at he
       exact fs.sim.inj k l h1 g1 he
     · simp only [pushEnv, upd_same] at he
       rw [upd_other _ _ (by omega)] at he
       have := (fs.sim.apart k h1).2; omega
     · simp only [pushEnv, upd_same] at he
       rw [upd_other _ _ (by omega)] at he
       have := (fs.sim.apart l g1).2; omega
     · rfl
 · rcases live_append hk with ⟨h1, h2⟩ | rfl
   · simp only [pushEnv]; rw [upd_other _ _ (by omega)]
     exact (fs.box t b hb).2.2.1 k h1
   · simp only [pushEnv, upd_same]
     have := (fs.box t b hb).2.1; omega
theorem fresh_obj (fs : FS w a E H β T B G) {ds ty fr} (h : Pushed w w' ds ty fr) (hth : thawed fr ds.size) {obj : Obj} {c : Nat}
 (hv : ∀ cs, obj = .var cs → ds.size = cs.length ∧ ∀ (j : Nat) (v : AVal), cs[j]? = some v → ∃ c, ds[j]? = some c ∧ c.oneCell' = true ∧ Rep w E H v c)
 (hr : ∀ sz rows u, obj = .arr sz rows u → 0 < sz ∧ rows.length ≤ c ∧ (∀ r ∈ rows, r.length = sz) ∧ c * sz ≤ ds.size ∧ ∀ (j : Nat) (v : AVal), cellAt sz rows j = some v → ∃ c, ds[j]? = some c ∧ c.oneCell' = true ∧ Rep w E H v c)
 (hno : ∀ t n, obj ≠ .note t n := by intro t n e; cases e) (hnm : ∀ kk es, obj ≠ .map kk es := by intro t n e; cases e) :
 Evo (Xβ β) w E H w' (pushEnv E H.length w.heap.size c) (H ++ [obj]) ∧ FS w' a (pushEnv E H.length w.heap.size c) (H ++ [obj]) β T B G :=
 fresh_gen fs h (fun cs e => ⟨ds, ty, fr, rfl, hth, hv cs e⟩) (fun sz rows u e => let ⟨k1, k2, k3, k4, k5⟩ := hr sz rows u e; ⟨k1, k2, k3, ds, ty, fr, rfl, hth, k4, k5⟩) (fun kk es e => absurd e (hnm kk es)) hno
theorem fresh_map (fs : FS w a E H β T B G) {cl : Nat} (h : PushedO w w' (.map #[] cl)) (kk : IntKind) :
 Evo (Xβ β) w E H w' (pushEnv E H.length w.heap.size 0) (H ++ [.map kk []]) ∧ FS w' a (pushEnv E H.length w.heap.size 0) (H ++ [.map kk []]) β T B G :=
 fresh_gen fs h (fun cs e => by cases e) (fun sz rows u e => by cases e) (fun kk' es e => by cases e; exact ⟨#[], cl, rfl, rfl⟩) (fun t n e => by cases e)
theorem get_lt {k : Nat} {obj : Obj} (h : H[k]? = some obj) : k < H.length := by
 rcases Nat.lt_or_ge k H.length with g | g
 · exact g
 · rw [List.getElem?_eq_none g] at h; cases h
theorem fresh_virtual (fs : FS w a E H β T B G) {sz : Nat} (hsz : 0 < sz) :
 Evo (Xβ β) w E H w (pushEnv E H.length 0 0) (H ++ [.arr sz [] 0]) ∧ FS w a (pushEnv E H.length 0 0) (H ++ [.arr sz [] 0]) β T B G := by
 have hl : ∀ k, live (pushEnv E H.length 0 0) (H ++ [.arr sz [] 0]) k → live E H k ∧ k < H.length := by
  intro k hk
  rcases live_append hk with h | rfl
  · exact h
  · rcases hk with hk | ⟨_, hk⟩
    · simp [isVar] at hk
    · simp [pushEnv] at hk
 have ev : Evo (Xβ β) w E H w (pushEnv E H.length 0 0) (H ++ [.arr sz [] 0]) := by
  refine ⟨Nat.le_refl _, fun _ _ _ _ => rfl, fun b hb => ⟨hb, rfl⟩, fun b hb => .inl hb, fun k hk => ?_, fun k sz u hk => ?_, fun k hk => ?_, by simp, rfl, rfl, rfl⟩
  · have := isVar_lt hk
    exact ⟨by rw [isVar_append this]; exact hk, by simp only [pushEnv]; rw [upd_other _ _ (by omega)]⟩
  · have := arrInfo_lt hk
    exact ⟨u, by rw [arrInfo_append this]; exact hk, Nat.le_refl _, fun _ => ⟨by simp only [pushEnv]; rw [upd_other _ _ (by omega)], fun _ => by simp only [pushEnv]; rw [upd_other _ _ (by omega)]⟩⟩
  · obtain ⟨h1, h2⟩ := hl k hk
    exact .inr ⟨h1, by simp only [pushEnv]; rw [upd_other _ _ (by omega)]⟩
 have hs := ev.sees
 have φe : ∀ k, k < H.length → (pushEnv E H.length 0 0).φ k = E.φ k := fun k hk => by simp only [pushEnv]; rw [upd_other _ _ (by omega)]
 have ce : ∀ k, k < H.length → (pushEnv E H.length 0 0).cap k = E.cap k := fun k hk => by simp only [pushEnv]; rw [upd_other _ _ (by omega)]
 refine ⟨ev, fs.keep ?_ hs (Nat.le_refl _) (fun t b hb => (fs.box t b hb).1) (fun t b hb k hk => ?_) (fun t b hb => rfl)⟩
 · refine ⟨fs.sim.immLt, fun k cs hc => ?_, fun k sz' rows u hc => ?_, fun k hk => ?_, fun k l hk hl' he => ?_, fun j t n hj hl' => ?_, fs.sim.glob.mono hs.imm, fun k kk es hc => ?_⟩
   rotate_left 5
   · rcases Nat.lt_or_ge k H.length with g | g
     · rw [List.getElem?_append_left g] at hc
       rw [φe k g]
       exact (fs.sim.map k kk es hc).same rfl
     · have hk : k = H.length := by have := get_lt hc; simp at this; omega
       subst hk; simp at hc
   rotate_left 4
   · obtain ⟨hj, hlt⟩ := get_note_append (fun t n e => by cases e) hj
     obtain ⟨h1, h2⟩ := hl _ hl'
     rw [φe _ h2]; exact fs.sim.note j t n hj h1
   · rcases Nat.lt_or_ge k H.length with g | g
     · rw [List.getElem?_append_left g] at hc
       rw [φe k g]
       exact (fs.sim.var k cs hc).mono hs rfl
     · have hk : k = H.length := by have := get_lt hc; simp at this; omega
       subst hk; simp at hc
   · rcases Nat.lt_or_ge k H.length with g | g
     · rw [List.getElem?_append_left g] at hc
       rw [φe k g, ce k g]
       obtain ⟨h1, h2, h3, h4⟩ := fs.sim.arr k sz' rows u hc
       exact ⟨h1, h2, h3, fun hcap => (h4 hcap).mono hs rfl⟩
     · have hk : k = H.length := by have := get_lt hc; simp at this; omega
       subst hk
       simp only [List.getElem?_append_right (Nat.le_refl _), Nat.sub_self, List.getElem?_cons_zero, sJ, Obj.arr.injEq] at hc
       obtain ⟨rfl, rfl, rfl⟩ := hc
       exact ⟨hsz, Nat.zero_le _, fun r hr => by simp at hr, fun hcap => by simp [pushEnv] at hcap⟩
   · obtain ⟨h1, h2⟩ := hl k hk
     rw [φe k h2]; exact fs.sim.apart k h1
   · obtain ⟨h1, h2⟩ := hl k hk
     obtain ⟨g1, g2⟩ := hl l hl'
     rw [φe k h2, φe l g2] at he
     exact fs.sim.inj k l h1 g1 he
 · obtain ⟨h1, h2⟩ := hl k hk
   rw [φe k h2]; exact (fs.box t b hb).2.2.1 k h1
theorem fresh_ghosts : ∀ (l : List (Nat × TypeId)) {E : Env} {H : Heap}, FS w a E H β T B G → ∃ E', Evo (Xβ β) w E H w E' (H ++ ghostsOf l) ∧ FS w a E' (H ++ ghostsOf l) β T B G
 | [], E, H, fs => ⟨E, by simpa [ghostsOf] using Evo.refl, by simpa [ghostsOf] using fs⟩
 | (m, t) :: l, E, H, fs => by
  obtain ⟨ev1, fs1⟩ := fresh_virtual fs (sz := m + 1) (by omega)
  obtain ⟨ev2, fs2⟩ := fresh_note fs1 (t := t) (n := 0) (fun hl => by
   rcases hl with hl | ⟨_, hl⟩
   · simp [isVar] at hl
   · simp [pushEnv] at hl)
  obtain ⟨E3, ev3, fs3⟩ := fresh_ghosts l fs2
  have ev := (ev1.trans ev2 (fun x hx => .inl hx)).trans ev3 (fun x hx => .inl hx)
  have eq : (H ++ [Obj.arr (m + 1) [] 0]) ++ [.note t 0] ++ ghostsOf l = H ++ ghostsOf ((m, t) :: l) := by simp [ghostsOf]
  rw [eq] at ev fs3
  exact ⟨E3, ev, fs3⟩
end Go.Mu
