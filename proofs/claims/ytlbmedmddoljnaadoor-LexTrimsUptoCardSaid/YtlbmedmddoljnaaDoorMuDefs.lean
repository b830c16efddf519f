/-
  The abstract interpreter Mu: definitions. It runs the model's code over abstract values; undecided tests show as 'cond'.
-/
import Derived.Test.YtlbmedmddoljnaaDoorMuGl
import Derived.Calls
import Derived.Orders
import Derived.Defers
import Derived.Recover
import Derived.Laws.Cells
import Derived.Laws.IdiomCopy
import Derived.Laws.Append
import Derived.Laws.IdiomRangeMap
import Derived.ChangeKeysEq
import Derived.Lib.Bytealg
set_option linter.unusedVariables false
namespace Go.Mu
open Go

instance : Inhabited AVal := ⟨.undef⟩

inductive Obj where
  | var (cells : List AVal)
  | arr (sz : Nat) (rows : List (List AVal)) (ver : Nat)
  | note (t : TypeId) (n : Nat)

abbrev Heap := List Obj
abbrev Boxes := List (List AVal)

inductive Out where
  | ret (v : AVal) (H : Heap)
  | panic (p : AVal) (H : Heap)

abbrev Ans := Option Out
abbrev Hd := FuncId → List AVal → Heap → (Out → Ans) → Ans

inductive RecSt where
  | outside
  | idle
  | armed (p : AVal)
  | taken

structure St where
  T : List AVal
  B : Boxes
  H : Heap
  D : List (FuncId × List AVal)

inductive AExit where
  | normal
  | exit (id : Nat)
  | ret
  | panic (p : AVal)

abbrev Kont := AExit → St → Ans

/-- hints of one function: which slots' boxes live in the heap, which slices are owned, which guarded calls are told ahead, which calls keep what they own, what lives at a loop's head, which loops are told ahead -/
structure FH where
  heap : List Nat := []
  own : List Nat := []
  spec : List Nat := []
  keep : List Nat := []
  live : List (Nat × List Nat) := []
  thaw : List Nat := []
  raw : Bool := false
  plain : List Nat := []
  typed : List (Nat × List (Nat × TypeId)) := []
  nils : List Nat := []
  exact : Bool := false
  loops : Nat → Option (St → Kont → Ans) := fun _ => none

/- constants -/
def nilList : AVal := .list true 0 (fun _ => [])
def ofCell : Value → AVal
  | .bool b => .bool b
  | .int k n => .int k n
  | .string s => .str s.data.toList
  | .pointer none => .nilptr
  | .slice none 0 0 => nilList
  | .nilFunc => .nilfunc
  | .nilIface => .nilIface
  | _ => .undef
def ofConst : Value → AVal
  | .agg cs => if cs.toList.all (fun c => c.oneCell') then .agg (cs.toList.map ofCell) else .undef
  | v => ofCell v
def aeval (T : List AVal) : Operand → AVal
  | .tmp t => T.getD t .undef
  | .const v => ofConst v
  | .global g => match gvals g with
    | some cs => .rptr cs
    | none => .undef
  | .func f => .func f []

/- types -/
def sizeT (P : Program) (t : TypeId) : Option Nat := (P.info? t).map (·.size)
def bytesT (P : Program) (t : TypeId) : Option Nat := (P.info? t).map (·.bytes)
def zeroT (P : Program) (t : TypeId) : Option (List AVal) :=
  match P.info? t with
  | some i => match i.zero with
    | some v => if v.cells.toList.all (fun c => c.oneCell') then some (v.cells.toList.map ofCell) else none
    | none => none
  | none => none
/-- a nil slice that stays one -/
def exCell (ex : Bool) (c : Value) (v : AVal) : AVal := if ex then (match c with | .slice none 0 0 => .nilX | _ => v) else v
def zeroTX (ex : Bool) (P : Program) (t : TypeId) : Option (List AVal) :=
  match P.info? t with
  | some i => match i.zero with
    | some v => if v.cells.toList.all (fun c => c.oneCell') then some (v.cells.toList.map fun c => exCell ex c (ofCell c)) else none
    | none => none
  | none => none
def exV (ex : Bool) (x : Operand) (v : AVal) : AVal := match x with
  | .const c => exCell ex c v
  | _ => v
/-- is the zero value of a type as great as the type? -/
def zeroOk (P : Program) (t : TypeId) (sz : Nat) : Bool := match zeroT P t with
  | some z => z.length == sz
  | none => false
def zeroV (P : Program) (t : TypeId) : Option AVal :=
  match P.info? t with
  | some i => match i.zero with
    | some v => some (ofConst v)
    | none => none
  | none => none
def aggT (P : Program) (t : TypeId) : Option Bool :=
  match P.underlying t with
  | some (.struct _) => some true
  | some (.array _ _) => some true
  | some _ => some false
  | none => none

/- accessors -/
def strOf : AVal → List UInt8
  | .str s => s
  | _ => []
def isStr : AVal → Bool
  | .str _ => true
  | _ => false
def intOf : AVal → Int
  | .int _ n => n
  | _ => 0
def isInt (k : IntKind) : AVal → Bool
  | .int k' _ => decide (k' = k)
  | _ => false
def boolOf : AVal → Bool
  | .bool b => b
  | _ => false
def isBool : AVal → Bool
  | .bool _ => true
  | _ => false
/-- a cell that is loaded at a type: told by its type -/
def typed (P : Program) (t : TypeId) (v : AVal) : Bool × AVal :=
  match P.underlying t with
  | some .string => (isStr v, .str (strOf v))
  | some (.int k) => (isInt k v, .int k (intOf v))
  | some .bool => (isBool v, .bool (boolOf v))
  | _ => (true, v)
def cellsOf? : AVal → Option (List AVal)
  | .agg cs => some cs
  | .undef => none
  | .tuple _ => none
  | v => some [v]
/-- may it lie in memory, or be handed on? (no address of a box of this frame) -/
def noTmp (v : AVal) : Bool := match v with
  | .ptr (.tmp _) _ => false
  | _ => true
def pureD : Nat → AVal → Bool
  | 0, _ => false
  | d + 1, v => match v with
    | .own .. => false
    | .ptr .. => false
    | .eptr .. => false
    | .func _ cs => cs.isEmpty
    | .iface _ x => pureD d x
    | .agg cs => cs.all (pureD d)
    | .tuple cs => cs.all (pureD d)
    | _ => true
def isPure (v : AVal) : Bool := pureD 5 v
/-- plain scalars alone -/
def flatD : Nat → AVal → Bool
  | 0, _ => false
  | d + 1, v => match v with
    | .bool _ => true
    | .int _ _ => true
    | .str _ => true
    | .nilIface => true
    | .nilptr => true
    | .agg cs => cs.all (flatD d)
    | .tuple cs => cs.all (flatD d)
    | .iface _ x => flatD d x
    | _ => false
def isFlat (v : AVal) : Bool := flatD 4 v
def pointsTo (d : Nat) : AVal → Bool
  | .ptr (.tmp t) _ => t == d
  | _ => false

/- memory -/
def bset (B : Boxes) (t : Nat) (c : List AVal) : Boxes := B.set t c
def readCells (B : Boxes) (H : Heap) (p : AVal) (n : Nat) : Option (Bool × List AVal) :=
  match p with
  | .ptr (.tmp t) off => let cs := B.getD t []; some (decide (off + n ≤ cs.length), (List.range n).map fun j => cs.getD (off + j) .undef)
  | .ptr (.hp k) off => match H[k]? with
    | some (.var cs) => some (decide (off + n ≤ cs.length), (List.range n).map fun j => cs.getD (off + j) .undef)
    | _ => none
  | .eptr k ver i off => match H[k]? with
    | some (.arr sz rows v) => some (v == ver && decide (i < rows.length) && decide (off + n ≤ sz), (List.range n).map fun j => (rows.getD i []).getD (off + j) .undef)
    | _ => none
  | .rptr cs => some (decide (n ≤ cs.length), (List.range n).map fun j => cs.getD j .undef)
  | _ => none
def setAt (cs : List AVal) (off : Nat) : List AVal → List AVal
  | [] => cs
  | v :: vs => setAt (cs.set off v) (off + 1) vs
def loadA (P : Program) (B : Boxes) (H : Heap) (t : TypeId) (p : AVal) : Option (Bool × AVal) :=
  match aggT P t, sizeT P t with
  | some true, some n => match readCells B H p n with
    | some (ok, cs) => some (ok, .agg cs)
    | none => none
  | some false, some _ => match readCells B H p 1 with
    | some (ok, cs) => let r := typed P t (cs.getD 0 .undef); some (ok && r.1, r.2)
    | none => none
  | _, _ => none

structure SR where
  ok : Bool
  v : AVal
  B : Boxes
  H : Heap

def storeA (B : Boxes) (H : Heap) (p : AVal) (cs : List AVal) : Option SR :=
  match p with
  | .ptr (.tmp t) off => let old := B.getD t []
    some ⟨decide (off + cs.length ≤ old.length), .undef, bset B t (setAt old off cs), H⟩
  | .ptr (.hp k) off => match H[k]? with
    | some (.var old) => some ⟨decide (off + cs.length ≤ old.length), .undef, B, H.set k (.var (setAt old off cs))⟩
    | _ => none
  | .eptr k ver i off => match H[k]? with
    | some (.arr sz rows v) =>
        some ⟨v == ver && decide (i < rows.length) && decide (off + cs.length ≤ sz), .undef, B, H.set k (.arr sz (rows.set i (setAt (rows.getD i []) off cs)) v)⟩
    | _ => none
  | _ => none

/- operations on values -/
def maxS : Nat := 4611686018427387904
def intBin (op : BinOp) (k : IntKind) (a b : Int) : Option (Bool × AVal) :=
  match op with
  | .add => some (true, .int k (k.wrap (a + b)))
  | .sub => some (true, .int k (k.wrap (a - b)))
  | .mul => some (true, .int k (k.wrap (a * b)))
  | .quo => some (!(a == a && b == 0), .int k (k.wrap (a.tdiv b)))
  | .rem => some (!(a == a && b == 0), .int k (a.tmod b))
  | .and => some (true, .int k (k.wrap (BitVec.ofInt k.bits a &&& BitVec.ofInt k.bits b).toNat))
  | .or => some (true, .int k (k.wrap (BitVec.ofInt k.bits a ||| BitVec.ofInt k.bits b).toNat))
  | .xor => some (true, .int k (k.wrap (BitVec.ofInt k.bits a ^^^ BitVec.ofInt k.bits b).toNat))
  | .andNot => some (true, .int k (k.wrap (BitVec.ofInt k.bits a &&& ~~~ BitVec.ofInt k.bits b).toNat))
  | .eql => some (true, .bool (a == b))
  | .neq => some (true, .bool (a != b))
  | .lss => some (true, .bool (decide (a < b)))
  | .leq => some (true, .bool (decide (a ≤ b)))
  | .gtr => some (true, .bool (decide (a > b)))
  | .geq => some (true, .bool (decide (a ≥ b)))
  | _ => none
def shiftA (op : BinOp) (k : IntKind) (a b : Int) : Option (Bool × AVal) :=
  match op with
  | .shl => some (decide (0 ≤ b), .int k (k.wrap (a * 2 ^ (min b.toNat k.bits))))
  | .shr => some (decide (0 ≤ b), .int k (a.fdiv (2 ^ (min b.toNat k.bits))))
  | _ => none
def strBin (op : BinOp) (x y : List UInt8) : Option (Bool × AVal) :=
  match op with
  | .add => some (decide (x.length + y.length ≤ maxS), .str (x ++ y))
  | .eql => some (true, .bool (x == y))
  | .neq => some (true, .bool (!(x == y)))
  | .lss => some (true, .bool (Op.bytesLess x y))
  | .leq => some (true, .bool (Op.bytesLess x y || x == y))
  | .gtr => some (true, .bool (!(Op.bytesLess x y || x == y)))
  | .geq => some (true, .bool (!(Op.bytesLess x y)))
  | _ => none
/-- are two structs of plain fields one? (none: there is another kind of field) -/
def fieldsEq (P : Program) : Nat → List Field → List AVal → List AVal → Option Bool
  | _, [], [], [] => some true
  | i, f :: fs, x :: xs, y :: ys => if f.name ≠ "_" ∧ f.offset = i then
      match P.underlying f.type, x, y, fieldsEq P (i + 1) fs xs ys with
      | some (.int _), .int k a, .int k' b, some r => if k = k' then some (a == b && r) else none
      | some .string, .str a, .str b, some r => some (a == b && r)
      | some .bool, .bool a, .bool b, some r => some (a == b && r)
      | _, _, _, _ => none
    else none
  | _, _, _, _ => none
def structEq (P : Program) (t : TypeId) (xs ys : List AVal) : Option Bool :=
  match P.underlying t with
  | some (.struct fields) => if P.stoodInHeld t = false ∧ P.eqGuardType P.depth t = false then fieldsEq P 0 fields.toList xs ys else none
  | _ => none
def binA (P : Program) (op : BinOp) (t : TypeId) (x y : AVal) : Option (Bool × AVal) :=
  match x, y with
  | .int k a, .int k' b => match op with
    | .shl => shiftA op k a b
    | .shr => shiftA op k a b
    | _ => if k = k' then intBin op k a b else none
  | .str a, .str b => strBin op a b
  | .bool a, .bool b => match P.underlying t, op with
    | some .bool, .eql => some (true, .bool (a == b))
    | some .bool, .neq => some (true, .bool (!(a == b)))
    | _, _ => none
  | .agg xs, .agg ys => match structEq P t xs ys, op with
      | some r, .eql => some (true, .bool r)
      | some r, .neq => some (true, .bool (!r))
      | _, _ => none
  | _, _ => none
def pickA (c : Bool) (x y : AVal) : AVal :=
  match x, y with
  | .bool a, .bool b => .bool (cond c a b)
  | .int k a, .int k' b => if k = k' then .int k (cond c a b) else cond c x y
  | .str a, .str b => .str (cond c a b)
  | _, _ => cond c x y
def byteRow (c : UInt8) : List AVal := [.int .u8 c.toNat]
def byteOf (r : List AVal) : UInt8 := UInt8.ofNat (intOf (r.getD 0 .undef)).toNat
def isByteRow (r : List AVal) : Bool := match r with
  | [v] => isInt .u8 v
  | _ => false
/-- what rows (of sz cells each) a slice (or a string's octets) holds -/
def rowsOf (sz : Nat) (H : Heap) : AVal → Option (Bool × List (List AVal))
  | .list _ n row => some (decide ((row 0).length = sz) || n == 0, (List.range n).map row)
  | .own k off len ver _ => match H[k]? with
    | some (.arr sz' rows v) => some (v == ver && sz' == sz && decide (off + len ≤ rows.length), (rows.drop off).take len)
    | _ => none
  | .str s => some (sz == 1, s.map byteRow)
  | .nonS => some (true, [])
  | _ => none
def elemT (P : Program) (t : TypeId) : Option TypeId :=
  match P.underlying t with
  | some (.slice e) => some e
  | _ => none
/-- does what is appended fit its type? -/
def srcOk (d : Option TypeDesc) (x : AVal) : Bool :=
  match d, x with
  | some .string, .str _ => true
  | some (.slice _), .list .. => true
  | some (.slice _), .own .. => true
  | some (.slice _), .nonS => true
  | _, _ => false
/-- is what is noted of an array (right behind it) kept by what is appended? -/
def noteOk (H : Heap) (k : Nat) (e : TypeId) : Bool := match H[k + 1]? with
  | some (.note t n) => t == e && n == 0
  | _ => true
def appendA (P : Program) (nl : Bool) (t : TypeId) (B : Boxes) (H : Heap) (s x : AVal) : Option SR :=
  match elemT P t with
  | none => none
  | some e => match sizeT P e, bytesT P e with
    | some sz, some by_ => match rowsOf sz H x with
     | some (ok1, ys) =>
      if sz = 0 ∨ by_ = 0 ∨ zeroOk P e sz = false then none else
      match s with
      | .nilX => if nl then some ⟨ok1 && ys.isEmpty, .nilX, B, H⟩ else none
      | .list true n row =>
        if nl then some ⟨ok1 && n == 0 && ys.isEmpty, .list true n row, B, H⟩ else
        some ⟨ok1 && (decide ((row 0).length = sz) || n == 0) && (decide (0 < ys.length) || n == 0) && decide ((2 * (n + ys.length) + 1000) * by_ ≤ 281474976710656), .own H.length 0 (n + ys.length) 0 false, B,
          H ++ [.arr sz ((List.range n).map row ++ ys) 0]⟩
      | .own k off len ver clip => match H[k]? with
        | some (.arr sz' rows v) =>
          if off = 0 ∧ sz' = sz then
            if clip then
              some ⟨ok1 && v == ver && decide (len ≤ rows.length) && decide (0 < ys.length) && decide ((2 * (len + ys.length) + 1000) * by_ ≤ 281474976710656), .own H.length 0 (len + ys.length) 0 false, B,
                H ++ [.arr sz (rows.take len ++ ys) 0]⟩
            else
              some ⟨ok1 && v == ver && len == rows.length && decide ((2 * (len + ys.length) + 1000) * by_ ≤ 281474976710656) && noteOk H k e, .own k 0 (len + ys.length) (ver + 1) false, B,
                H.set k (.arr sz (rows ++ ys) (ver + 1))⟩
          else none
        | _ => none
      | _ => none
     | none => none
    | _, _ => none
def natOf (x : AVal) : Nat := (intOf x).toNat
def isIntV (x : AVal) : Bool := match x with
  | .int _ _ => true
  | _ => false
def isIntO (x : Option AVal) : Bool := match x with
  | some v => isIntV v
  | none => true
def lowOf (lo : Option AVal) : Int := match lo with
  | some v => intOf v
  | none => 0
def highOf (hi : Option AVal) (n : Nat) : Int := match hi with
  | some v => intOf v
  | none => n
def sliceA (P : Program) (H : Heap) (t : TypeId) (x : AVal) (lo hi mx : Option AVal) : Option (Bool × AVal) :=
  let q : Bool := isIntO lo && isIntO hi && isIntO mx
  let l : Int := lowOf lo
  match P.underlying t, x with
  | some .string, .str s =>
    match mx with
    | some _ => none
    | none =>
      let h : Int := highOf hi s.length
      some (q && decide (0 ≤ l) && decide (l ≤ h) && decide (h ≤ s.length), .str ((s.take h.toNat).drop l.toNat))
  | some (.slice e), .list full n row =>
    let z : Bool := q && (decide (some (row 0).length = sizeT P e) || (n == 0 && (sizeT P e).isSome))
    let h : Int := highOf hi n
    match mx with
    | some m => let m := intOf m
      some (z && hi.isSome && decide (0 ≤ l) && decide (l ≤ h) && decide (h ≤ m) && decide (m ≤ n), .list (h == m) (h - l).toNat (fun i => row (l.toNat + i)))
    | none => some (z && decide (0 ≤ l) && decide (l ≤ h) && decide (h ≤ n), .list (full && h == n) (h - l).toNat (fun i => row (l.toNat + i)))
  | some (.slice e), .own k off len ver clip =>
    let z : Bool := q && (match H[k]? with
      | some (.arr sz _ u) => decide (some sz = sizeT P e) && u == ver
      | _ => false)
    let h : Int := highOf hi len
    match mx with
    | some m => let m := intOf m
      if h == l && h == m then some (z && hi.isSome && decide (0 ≤ l) && decide (h ≤ len), nilList)
      else some (z && hi.isSome && decide (0 ≤ l) && decide (l ≤ h) && decide (h = m) && decide (m ≤ len), .own k (off + l.toNat) (h - l).toNat ver true)
    | none => some (z && (!clip || h == len) && decide (0 ≤ l) && decide (l ≤ h) && decide (h ≤ len), .own k (off + l.toNat) (h - l).toNat ver (clip && h == len))
  | _, _ => none
def idxA (P : Program) (H : Heap) (t : TypeId) (x i : AVal) : Option (Bool × AVal) :=
  match elemT P t, i with
  | some e, .int _ i => match x with
    | .list _ n row => some (decide (some (row 0).length = sizeT P e) && decide (0 ≤ i) && decide (i < n), .rptr (row i.toNat))
    | .own k off len ver _ => match H[k]? with
      | some (.arr sz _ u) => some (decide (some sz = sizeT P e) && u == ver && decide (0 ≤ i) && decide (i < len), .eptr k ver (off + i.toNat) 0)
      | _ => none
    | _ => none
  | none, .int _ i => match P.underlying t, x with
    | some (.array len e), .ptr q off => match sizeT P e with
      | some sz => some (decide (0 ≤ i) && decide (i < len), .ptr q (off + i.toNat * sz))
      | none => none
    | _, _ => none
  | _, _ => none
def fieldOff (P : Program) (t : TypeId) (f : Nat) : Option (Nat × TypeId) :=
  match P.underlying t with
  | some (.struct fields) => match fields[f]? with
    | some fd => match sizeT P fd.type with
      | some 0 => none
      | some _ => some (fd.offset, fd.type)
      | none => none
    | none => none
  | _ => none
def fieldAddrA (P : Program) (H : Heap) (t : TypeId) (x : AVal) (f : Nat) : Option (Bool × AVal) :=
  match fieldOff P t f with
  | some (o, _) => match x with
    | .ptr q off => some (true, .ptr q (off + o))
    | .eptr k ver i off => match H[k]? with
      | some (.arr _ _ u) => some (u == ver, .eptr k ver i (off + o))
      | _ => none
    | .rptr cs => some (true, .rptr (cs.drop o))
    | _ => none
  | none => none
/-- a struct's fields, filled one by one -/
def fillA (place : Nat → Option (Nat × Nat)) (cells : List AVal) : List (Nat × AVal) → Option (List AVal)
  | [] => some cells
  | (i, v) :: rest => match place i, cellsOf? v with
    | some (off, size), some cs => if cs.length = size ∧ off + cs.length ≤ cells.length then fillA place (setAt cells off cs) rest else none
    | _, _ => none
def placeOf (P : Program) (fields : List Field) (i : Nat) : Option (Nat × Nat) :=
  match fields[i]? with
  | some f => match sizeT P f.type with
    | some s => some (f.offset, s)
    | none => none
  | none => none
def buildA (ex : Bool) (P : Program) (t : TypeId) (parts : List (Nat × AVal)) : Option AVal :=
  match P.underlying t, zeroTX ex P t with
  | some (.struct fields), some z =>
    if fields.toList.all (fun f => (sizeT P f.type).isSome) = false then none else
    match fillA (placeOf P fields.toList) z parts with
    | some cs => some (.agg cs)
    | none => none
  | _, _ => none
/-- a slice's elements as rows; every element is given, in order -/
def rowsA (sz : Nat) : Nat → List (Nat × AVal) → Option (List (List AVal))
  | _, [] => some []
  | i, (j, v) :: rest => match cellsOf? v, rowsA sz (i + 1) rest with
    | some cs, some rs => if i = j ∧ cs.length = sz then some (cs :: rs) else none
    | _, _ => none
/-- may an address become one that is not safe, and such a one an address again? (as is noted of its object) -/
def toUnsafe (P : Program) (H : Heap) (i off : Nat) (te : TypeId) : Bool := match H[i + 1]?, P.info? te with
  | some (.note _ n), some j => decide (off < n) && j.size != 0
  | _, _ => false
def ofUnsafe (P : Program) (H : Heap) (i off : Nat) (u : TypeId) : Bool := match H[i + 1]?, P.info? u with
  | some (.note t n), some _ => n != 0 && liesAt P P.depth t (n / P.cellsOf t) off u 1
  | _, _ => false
def isHp : AVal → Bool
  | .ptr (.hp _) _ => true
  | _ => false
def convA (P : Program) (own : Bool) (B : Boxes) (H : Heap) (src dst : TypeId) (x : AVal) : Option SR :=
  match P.underlying src, P.underlying dst, x with
  | some (.pointer te), some .unsafePointer, .ptr (.hp i) off => some ⟨toUnsafe P H i off te, .ptr (.hp i) off, B, H⟩
  | some .unsafePointer, some (.pointer u), .ptr (.hp i) off => some ⟨ofUnsafe P H i off u, .ptr (.hp i) off, B, H⟩
  | some _, some (.int k), .int _ n => some ⟨true, .int k (k.wrap n), B, H⟩
  | some _, some .string, .str s => some ⟨true, .str s, B, H⟩
  | some .string, some (.slice e), .str s => match P.underlying e with
    | some (.int .u8) => if own then some ⟨true, .own H.length 0 s.length 0 false, B, H ++ [.arr 1 (s.map byteRow) 0]⟩
      else some ⟨true, .list false s.length (fun i => byteRow (s.getD i 0)), B, H⟩
    | _ => none
  | some (.slice e), some .string, x => match P.underlying e with
    | some (.int .u8) => match x with
      | .str _ => none
      | .nonS => none
      | x => match rowsOf 1 H x with
        | some (ok, rows) => some ⟨ok && rows.all isByteRow, .str (rows.map byteOf), B, H⟩
        | none => none
    | _ => none
  | _, _, _ => none
def assertA (P : Program) (x : AVal) (t : TypeId) (ok : Bool) : Option AVal :=
  match P.underlying t with
  | some (.interface _) => none
  | none => none
  | some _ => match x with
    | .nilIface => if ok then (zeroV P t).map fun z => .tuple [z, .bool false] else none
    | .iface u v => if u = t then some (if ok then .tuple [v, .bool true] else v) else if ok then (zeroV P t).map fun z => .tuple [z, .bool false] else none
    | _ => none
def unA (op : UnOp) (x : AVal) : Option AVal :=
  match op, x with
  | .not, .bool b => some (.bool (!b))
  | .neg, .int k n => some (.int k (k.wrap (0 - n)))
  | _, _ => none
def minA : AVal → AVal → Option AVal
  | .int k x, .int _ y => some (.int k (if y < x then y else x))
  | _, _ => none
def maxA : AVal → AVal → Option AVal
  | .int k x, .int _ y => some (.int k (if y > x then y else x))
  | _, _ => none
def lenA (P : Program) (t : TypeId) : AVal → Option AVal
  | .str s => match P.underlying t with
    | some .string => some (.int .i64 s.length)
    | _ => none
  | .list _ n _ => match P.underlying t with
    | some (.slice _) => some (.int .i64 n)
    | _ => none
  | .own _ _ len _ _ => match P.underlying t with
    | some (.slice _) => some (.int .i64 len)
    | _ => none
  | .nilX => match P.underlying t with
    | some (.slice _) => some (.int .i64 (0 : Nat))
    | _ => none
  | _ => none
def val (B : Boxes) (H : Heap) : Option (Bool × AVal) → Option SR
  | some (ok, v) => some ⟨ok, v, B, H⟩
  | none => none
def val1 (B : Boxes) (H : Heap) : Option AVal → Option SR
  | some v => some ⟨true, v, B, H⟩
  | none => none

def makeA (P : Program) (H : Heap) (t : TypeId) (l c : AVal) : Option (Bool × AVal × Heap) :=
  match elemT P t with
  | none => none
  | some e => match sizeT P e, bytesT P e, zeroT P e, l, c with
    | some sz, some by_, some z, .int _ nl, .int _ nc => if sz = 0 ∨ z.length ≠ sz then none else
      some (decide (0 ≤ nl) && decide (nl ≤ nc) && decide ((by_ : Int) * nc ≤ 281474976710656) && decide (nc ≤ 9223372036854775807), .own H.length 0 nl.toNat 0 false, H ++ [.arr sz (List.replicate nl.toNat z) 0])
    | _, _, _, _, _ => none
/- is a slice, or an address, nil? -/
def nilOf : AVal → Option Bool
  | .nilS => some true
  | .nilX => some true
  | .nonS => some false
  | .list _ (_ + 1) _ => some false
  | _ => none
def nilPOf : AVal → Option Bool
  | .nilptr => some true
  | .ptr _ _ => some false
  | _ => none
def nilCmp (P : Program) (op : BinOp) (t : TypeId) (y : Operand) (x : AVal) : Option Bool :=
  match (match y with
    | .const (.slice none 0 0) => (match P.underlying t with
      | some (.slice _) => nilOf x
      | _ => none)
    | .const (.pointer none) => (match P.underlying t with
      | some (.pointer _) => nilPOf x
      | _ => none)
    | _ => none), op with
  | some b, .eql => some b
  | some b, .neq => some (!b)
  | _, _ => none
/-- one address, compared with itself -/
def ptrSame (P : Program) (op : BinOp) (t : TypeId) (x y : AVal) : Option Bool := match x, y with
  | .ptr (.hp i) o, .ptr (.hp j) o' => if i = j ∧ o = o' then (match P.underlying t with
      | some (.pointer te) => (match P.info? te, op with
        | some _, .eql => some true
        | some _, .neq => some false
        | _, _ => none)
      | _ => none) else none
  | _, _ => none
/- functions without a body, that the model runs in place -/
inductive ExtK where
  | count
  | index
  | esc
def extOf (P : Program) (f : Operand) : Option ExtK := match f with
  | .func g => match P.funcs[g]? with
    | some fn => if fn.body.isNone && fn.origin == "" then
        (if fn.name == "internal/bytealg.CountString" then some .count else if fn.name == "internal/bytealg.IndexByteString" then some .index else if fn.name == "internal/abi.NoEscape" then some .esc else none)
      else none
    | none => none
  | _ => none
def extA (e : ExtK) (xs : List AVal) : Option AVal := match e, xs with
  | .count, [.str s, .int k c] => if k = .u8 then some (.int .i64 (Lib.countByte s c.toNat.toUInt8)) else none
  | .index, [.str s, .int k c] => if k = .u8 then some (.int .i64 (Lib.indexByte s c.toNat.toUInt8)) else none
  | .esc, [x] => if noTmp x then some x else none
  | _, _ => none
/-- what goes with a new variable: a note of its type; arrays of no elements, with notes -/
def ghostsOf : List (Nat × TypeId) → Heap
  | [] => []
  | (m, t) :: l => .arr (m + 1) [] 0 :: .note t 0 :: ghostsOf l
def noteOf (fh : FH) (d : Nat) (t : TypeId) (z : List AVal) : Heap := match fh.typed.lookup d with
  | some l => .note t z.length :: ghostsOf l
  | none => []
/-- one operation that is no call -/
def stepOp (P : Program) (fh : FH) (T : List AVal) (B : Boxes) (H : Heap) (o : Oper) : Option SR :=
  let d := o.dst.getD 0
  match o.op with
  | .move x => some ⟨true, aeval T x, B, H⟩
  | .assign x => some ⟨true, aeval T x, B, H⟩
  | .pick c a b => match aeval T c with
    | .bool q => some ⟨true, pickA q (aeval T a) (aeval T b), B, H⟩
    | _ => none
  | .alloc t => match o.dst, zeroTX fh.exact P t with
    | some d, some z => if fh.heap.contains d then some ⟨true, .ptr (.hp H.length) 0, B, H ++ .var z :: noteOf fh d t z⟩
      else if d < B.length then some ⟨!T.any (pointsTo d), .ptr (.tmp d) 0, bset B d z, H⟩ else none
    | _, _ => none
  | .box t x => match o.dst, cellsOf? (aeval T x) with
    | some d, some z => if fh.heap.contains d then some ⟨noTmp (aeval T x), .ptr (.hp H.length) 0, B, H ++ .var z :: noteOf fh d t z⟩
      else if d < B.length then some ⟨noTmp (aeval T x) && !T.any (pointsTo d), .ptr (.tmp d) 0, bset B d z, H⟩ else none
    | _, _ => none
  | .build t ps => match buildA fh.exact P t (ps.toList.map fun x => (x.1, aeval T x.2)) with
    | some v => some ⟨ps.toList.all (fun x => noTmp (aeval T x.2)), v, B, H⟩
    | none => none
  | .buildSlice t n ps => match elemT P t with
    | some e => match sizeT P e with
      | some sz => match rowsA sz 0 (ps.toList.map fun x => (x.1, aeval T x.2)) with
        | some rows => if rows.length = n ∧ sz ≠ 0 ∧ zeroOk P e sz = true ∧ n * sz ≤ 16777216 then
            (if fh.own.contains d then some ⟨ps.toList.all (fun x => noTmp (aeval T x.2)), .own H.length 0 n 0 false, B, H ++ [.arr sz rows 0]⟩
             else some ⟨ps.toList.all (fun x => noTmp (aeval T x.2)) && rows.all (fun r => r.all isPure), .list true n (fun i => rows.getD i []), B, H⟩)
          else none
        | none => none
      | none => none
    | none => none
  | .makeSlice t l c => match makeA P H t (aeval T l) (aeval T c) with
    | some (ok, v, H') => some ⟨ok, v, B, H'⟩
    | none => none
  | .load t a => val B H (loadA P B H t (aeval T a))
  | .store t a x => match cellsOf? (exV fh.exact x (aeval T x)), sizeT P t with
    | some cs, some n => if cs.length = n then match storeA B H (aeval T a) cs with
        | some r => some ⟨noTmp (exV fh.exact x (aeval T x)) && r.ok, r.v, r.B, r.H⟩
        | none => none
      else none
    | _, _ => none
  | .nilCheck x => match aeval T x with
    | .ptr o off => some ⟨true, .ptr o off, B, H⟩
    | .rptr cs => some ⟨true, .rptr cs, B, H⟩
    | .eptr k v i off => match H[k]? with
      | some (.arr _ _ u) => some ⟨u == v, .eptr k v i off, B, H⟩
      | _ => none
    | .func f cs => some ⟨true, .func f cs, B, H⟩
    | _ => none
  | .binOp op t x y _ => match nilCmp P op t y (aeval T x) with
    | some b => val1 B H (some (.bool b))
    | none => match ptrSame P op t (aeval T x) (aeval T y) with
      | some b => val1 B H (some (.bool b))
      | none => val B H (binA P op t (aeval T x) (aeval T y))
  | .unOp op _ x => val1 B H (unA op (aeval T x))
  | .convert s t x => convA P (fh.own.contains d) B H s t (aeval T x)
  | .makeInterface t x => match P.underlying t with
    | some (.interface _) => none
    | some _ => some ⟨noTmp (aeval T x), .iface t (aeval T x), B, H⟩
    | none => none
  | .makeFunc fn first caps => match fn with
    | .func f => if first.size = 0 then some ⟨(caps.toList.map (aeval T)).all noTmp, .func f (caps.toList.map (aeval T)), B, H⟩ else none
    | _ => none
  | .slice t x lo hi mx => val B H (sliceA P H t (aeval T x) (lo.map (aeval T)) (hi.map (aeval T)) (mx.map (aeval T)))
  | .fieldAddr t x f => val B H (fieldAddrA P H t (aeval T x) f)
  | .indexAddr t x i => val B H (idxA P H t (aeval T x) (aeval T i))
  | .index t x i => match P.underlying t, aeval T x, aeval T i with
    | some .string, .str s, .int _ i => some ⟨decide (0 ≤ i) && decide (i < s.length), .int .u8 (s.getD i.toNat 0).toNat, B, H⟩
    | _, _, _ => none
  | .typeAssert x _ t ok => val1 B H (assertA P (aeval T x) t ok)
  | .extract x i => match aeval T x with
    | .tuple vs => match vs[i]? with
      | some v => some ⟨true, v, B, H⟩
      | none => none
    | _ => none
  | .call c => match c.callee with
    | .builtin .len => match c.argTypes[0]?, c.args[0]? with
      | some t, some x => val1 B H (lenA P t (aeval T x))
      | _, _ => none
    | .builtin .append => match c.argTypes[0]?, c.args[0]?, c.args[1]?, c.argTypes[1]? with
      | some t, some s, some x, some u => if c.args.size = 2 ∧ c.argTypes.size = 2 ∧ srcOk (P.underlying u) (aeval T x) = true then appendA P (fh.nils.contains d) t B H (aeval T s) (aeval T x) else none
      | _, _, _, _ => none
    | .builtin .min => match c.args.toList with
      | [x, y] => val1 B H (minA (aeval T x) (aeval T y))
      | _ => none
    | .builtin .max => match c.args.toList with
      | [x, y] => val1 B H (maxA (aeval T x) (aeval T y))
      | _ => none
    | .value f => match extOf P f with
      | some e => val1 B H (extA e (c.args.toList.map (aeval T)))
      | none => none
    | _ => none
  | _ => none

/- calls -/
def callable (P : Program) (f : FuncId) : Bool :=
  match P.funcs[f]? with
  | some fn => fn.name != "runtime.NumGoroutine" && fn.body.isSome
  | none => false
def borrowV (H : Heap) : AVal → AVal
  | .own k off len ver _ => match H[k]? with
    | some (.arr _ rows v) => .list false len (fun i => rows.getD (off + i) [])
    | _ => .undef
  | v => v
def borrowOk (H : Heap) : AVal → Bool
  | .own k off len ver _ => match H[k]? with
    | some (.arr _ rows v) => v == ver && decide (off + len ≤ rows.length) && rows.all (fun r => r.all isPure)
    | _ => false
  | v => isPure v
def isOwn : AVal → Bool
  | .own .. => true
  | _ => false
def callA (h : Hd) (fh : FH) (g : FuncId) (xs : List AVal) (H : Heap) (k : Out → Ans) : Ans :=
  if xs.all isPure && !fh.thaw.contains g then
    h g xs [] fun
      | .ret v _ => if isPure v then k (.ret v H) else none
      | .panic p _ => if isPure p then k (.panic p H) else none
  else if xs.all (fun x => isPure x || isOwn x) && !fh.keep.contains g && !fh.thaw.contains g then
    cond (xs.all (borrowOk H)) (h g (xs.map (borrowV H)) [] fun
      | .ret v _ => if isFlat v then k (.ret v H) else none
      | .panic p _ => if isFlat p then k (.panic p H) else none) none
  else cond (xs.all noTmp) (h g xs H k) none

/- regions -/
abbrev Tags := List (Option (Nat × Bool × Bool))
structure RS where
  T : List AVal
  B : Boxes
  H : Heap
  D : List (FuncId × List AVal)
  G : Tags

inductive Rec where
  | rd (i : Nat) (t : TypeId) (p v : AVal)
  | eff (i : Nat) (box : Option Nat) (B0 : Boxes) (H0 : Heap) (B1 : Boxes) (H1 : Heap)
  | use (i : Nat)
  | al (i d : Nat)
  | ptv (i d : Nat)
  | pan (i : Nat)
  | bad

def guardDst (ops : List Oper) (o : Oper) : Option (Nat × Bool) :=
  match o.guard with
  | none => none
  | some (j, w) => match ops[j]? with
    | some oj => match oj.dst with
      | some d => some (d, w)
      | none => none
    | none => none
/-- does what a slot holds count? -/
def valid (G : Tags) (t : Nat) : Bool :=
  match G.getD t none with
  | none => true
  | some (_, _, g) => g
def eqB (w b : Bool) : Bool := cond w b (!b)
def gval (T : List AVal) (G : Tags) (d : Nat) (w : Bool) : Bool := valid G d && eqB w (boolOf (T.getD d .undef))
theorem gval_eq (T : List AVal) (G : Tags) (d : Nat) (w : Bool) : gval T G d w = (boolOf (T.getD d .undef) == w && valid G d) := by
  unfold gval eqB
  cases w <;> cases boolOf (T.getD d .undef) <;> cases valid G d <;> rfl
/-- is what slot t holds of use under the guard c? -/
def tagOk (G : Tags) : Nat → Option (Nat × Bool) → Nat → Bool
  | 0, _, _ => false
  | f + 1, c, t => match G.getD t none with
    | none => true
    | some (d, w, _) => match c with
      | none => false
      | some (d', w') => (d == d' && w == w') || (match G.getD d' none with
        | none => false
        | some (d'', w'', _) => tagOk G f (some (d'', w'')) t)
def tmpsOf (l : List Operand) : List Nat := l.filterMap fun | .tmp t => some t | _ => none
def opTags (G : Tags) (c : Option (Nat × Bool)) (o : Op) : Bool :=
  match o with
  | .pick (.tmp q) a b =>
    tagOk G 8 c q &&
    (tmpsOf [a]).all (fun t => tagOk G 8 c t || (match G.getD t none with | some (d, w, _) => d == q && w | none => false)) &&
    (tmpsOf [b]).all (fun t => tagOk G 8 c t || (match G.getD t none with | some (d, w, _) => d == q && !w | none => false))
  | o => (tmpsOf o.operands.toList).all (tagOk G 8 c)
def setDst (T : List AVal) (d : Option Nat) (v : AVal) : List AVal :=
  match d with
  | some d => T.set d v
  | none => T
def addTag (G : Tags) (dst : Option Nat) (c : Option (Nat × Bool)) (g : Bool) : Tags :=
  match dst, c with
  | some d, some (e, w) => G.set d (some (e, w, g))
  | _, _ => G
/-- a guard's slot holds a bool, or counts not -/
def guardOk (T : List AVal) (G : Tags) (dst : Option Nat) (c : Option (Nat × Bool)) : Bool :=
  match c with
  | some (d, _) => (isBool (T.getD d .undef) || !valid G d) && dst != some d
  | none => true
/-- no tag hangs on this slot, and it bears none: it may be written -/
def freeDst (G : Tags) (dst : Option Nat) : Bool :=
  match dst with
  | some d => G.all (fun x => match x with | some (e, _, _) => e != d | none => true) && (G.getD d none).isNone
  | none => true
def isCall (o : Oper) : Bool :=
  match o.op with
  | .call c => match c.callee with
    | .value _ => true
    | _ => false
  | _ => false
/-- what an operation writes: none: nothing but its slot -/
def writes (o : Oper) (fh : FH) (T : List AVal) : Option (Option Nat) :=
  match o.op with
  | .store _ a _ => match aeval T a with
    | .ptr (.tmp t) _ => some (some t)
    | _ => some none
  | .alloc _ => if fh.heap.contains (o.dst.getD 0) then some none else some o.dst
  | .box _ _ => if fh.heap.contains (o.dst.getD 0) then some none else some o.dst
  | .buildSlice .. => if fh.own.contains (o.dst.getD 0) then some none else none
  | .makeSlice .. => some none
  | .convert .. => if fh.own.contains (o.dst.getD 0) then some none else none
  | .call c => match c.callee with
    | .builtin .append => some none
    | _ => none
  | _ => none
def isEptr : AVal → Bool
  | .eptr .. => true
  | _ => false
/-- does an operation look at the heap? (loads apart) -/
def usesH (o : Oper) (T : List AVal) : Bool :=
  match o.op with
  | .convert _ _ x => isOwn (aeval T x) || isHp (aeval T x)
  | .slice _ x _ _ _ => isOwn (aeval T x)
  | .indexAddr _ x _ => isOwn (aeval T x)
  | .fieldAddr _ x _ => isEptr (aeval T x)
  | .nilCheck x => isEptr (aeval T x)
  | _ => false
def ptvOf (i : Nat) : AVal → List Rec
  | .ptr (.tmp d) _ => [.ptv i d]
  | _ => []
def alOf (i : Nat) (o : Oper) (fh : FH) (T : List AVal) : List Rec :=
  match o.op, writes o fh T with
  | .alloc _, some (some d) => [.al i d]
  | .box _ _, some (some d) => [.al i d]
  | _, _ => []
def recOf (i : Nat) (o : Oper) (fh : FH) (T : List AVal) (B : Boxes) (H : Heap) (r : SR) : List Rec :=
  (match o.op with
   | .load t a => [.rd i t (aeval T a) r.v]
   | _ => []) ++
  (if usesH o T then [.use i] else []) ++
  (match writes o fh T with
   | some b => [.eff i b B H r.B r.H]
   | none => []) ++ alOf i o fh T ++ ptvOf i r.v

abbrev RKont := List Rec → RS → Ans
def quietCall (fh : FH) (g : FuncId) (xs : List AVal) : Bool := (xs.all isPure && !fh.thaw.contains g) || (xs.all (fun x => isPure x || isOwn x) && !fh.keep.contains g && !fh.thaw.contains g)

def callRecs (fh : FH) (g : FuncId) (xs : List AVal) (i : Nat) (B : Boxes) (H H' : Heap) (v : AVal) : List Rec :=
  (if quietCall fh g xs then (if xs.all isPure then [] else [.use i]) else [.eff i none B H B H', .use i]) ++ ptvOf i v
inductive Kind where
  | call (f : Operand) (args : Array Operand)
  | pan (x : Operand)
  | dfr (f : Operand) (args : Array Operand)
  | other
def kindOf (P : Program) (o : Op) : Kind :=
  match o with
  | .call c => match c.callee with
    | .value f => match extOf P f with
      | some _ => .other
      | none => .call f c.args
    | _ => .other
  | .panic x => .pan x
  | .defer c => match c.callee with
    | .value f => .dfr f c.args
    | _ => .other
  | _ => .other
def gvOf (s : RS) (c : Option (Nat × Bool)) : Bool := match c with
  | some (d, w) => gval s.T s.G d w
  | none => true
def funOf (P : Program) (v : AVal) : Option (FuncId × List AVal) := match v with
  | .func g caps => if callable P g then some (g, caps) else none
  | _ => none
def ifaceOf (v : AVal) : Option (TypeId × AVal) := match v with
  | .iface t v => some (t, v)
  | _ => none
def mixed (x y : AVal) : Bool := match x, y with
  | .bool _, .bool _ => false
  | .int k _, .int k' _ => !decide (k = k')
  | .str _, .str _ => false
  | _, _ => true
/-- a choice between two of a kind is one value; else the ways part -/
def isPl : AVal → Bool
  | .list _ _ _ => true
  | _ => false
def plF : AVal → Bool
  | .list f _ _ => f
  | _ => false
def plN : AVal → Nat
  | .list _ n _ => n
  | _ => 0
def plR : AVal → Nat → List AVal
  | .list _ _ r => r
  | _ => fun _ => []
def onV (fh : FH) (T : List AVal) (o : Oper) (r : SR) (F : SR → Ans) : Ans :=
  match o.op with
  | .load _ _ => if fh.plain.contains (o.dst.getD 0) then cond (isPl r.v) (F { r with v := .list (plF r.v) (plN r.v) (plR r.v) }) none else F r
  | .pick c a b => match aeval T c with
    | .bool q => if mixed (aeval T a) (aeval T b) then cond q (F { r with v := aeval T a }) (F { r with v := aeval T b }) else F r
    | _ => F r
  | _ => F r
theorem pickA_true (x y : AVal) : pickA true x y = x := by
  unfold pickA
  split <;> try rfl
  split <;> rfl
theorem pickA_false (x y : AVal) : pickA false x y = y := by
  unfold pickA
  split <;> try rfl
  split
  · rename_i h; subst h; rfl
  · rfl
theorem onV_eq {P : Program} {fh : FH} {T : List AVal} {B : Boxes} {H : Heap} {o : Oper} {r : SR} {F : SR → Ans} (h : stepOp P fh T B H o = some r) {out : Out} (hF : onV fh T o r F = some out) : F r = some out := by
  unfold onV at hF
  split at hF
  · split at hF
    · rw [Bool.cond_eq_ite] at hF
      split at hF
      · rename_i hp
        have e : AVal.list (plF r.v) (plN r.v) (plR r.v) = r.v := by
          unfold isPl at hp
          split at hp
          · rename_i e; rw [e]; rfl
          · simp at hp
        rw [e] at hF
        exact hF
      · simp at hF
    · exact hF
  · rename_i c a b e
    split at hF
    · rename_i q hq
      split at hF
      · unfold stepOp at h
        simp only [e, hq, Option.some.injEq] at h
        subst h
        cases q
        · simpa only [cond_false, pickA_false] using hF
        · simpa only [cond_true, pickA_true] using hF
      · exact hF
    · exact hF
  · exact hF
def isUndef : AVal → Bool
  | .undef => true
  | _ => false
/-- a call of plain data under a guard: it is told whether or not it is made -/
def pureCall (P : Program) (fh : FH) (s : RS) (c : Option (Nat × Bool)) (o : Oper) (f : Operand) (args : Array Operand) : Option (FuncId × List AVal) :=
  match c with
  | none => none
  | some _ => if opTags s.G c o.op then match funOf P (aeval s.T f) with
    | some (g, caps) => if (args.toList.map (aeval s.T) ++ caps).all (fun x => isPure x && !isUndef x) && !fh.thaw.contains g then some (g, args.toList.map (aeval s.T) ++ caps) else none
    | none => none
    else none
theorem pureCall_some {P : Program} {fh : FH} {s : RS} {c : Option (Nat × Bool)} {o : Oper} {f : Operand} {args : Array Operand} {g : FuncId} {xs : List AVal} (h : pureCall P fh s c o f args = some (g, xs)) :
    ∃ d caps, c = some d ∧ opTags s.G c o.op = true ∧ funOf P (aeval s.T f) = some (g, caps) ∧ xs = args.toList.map (aeval s.T) ++ caps ∧ xs.all isPure = true ∧ fh.thaw.contains g = false := by
  unfold pureCall at h
  split at h
  · simp at h
  · rename_i d
    split at h
    · rename_i ht
      split at h
      · rename_i g' caps hf
        split at h
        · rename_i hc
          simp only [Option.some.injEq, Prod.mk.injEq] at h
          obtain ⟨rfl, rfl⟩ := h
          simp only [Bool.and_eq_true, Bool.not_eq_true'] at hc
          refine ⟨d, caps, rfl, ht, hf, rfl, ?_, hc.2⟩
          rw [List.all_eq_true] at hc ⊢
          intro x hx
          have := hc.1 x hx
          rw [Bool.and_eq_true] at this
          exact this.1
        · simp at h
      · simp at h
    · simp at h
/-- a region's operations in the order of the text; kp: a panic at operation i -/
def iOpsL (P : Program) (h : Hd) (fh : FH) (ops : List Oper) : List Oper → Nat → List Rec → RS → (Nat → List Rec → AVal → RS → Ans) → RKont → Ans
  | [], _, rs, s, _, k => k rs s
  | o :: rest, i, rs, s, kp, k =>
    let c := guardDst ops o
    if (o.guard.isSome && c.isNone) || !freeDst s.G o.dst then none else cond (!guardOk s.T s.G o.dst c) none <|
    let skip (_ : Unit) : Ans := iOpsL P h fh ops rest (i + 1) rs { s with T := setDst s.T o.dst .undef, G := addTag s.G o.dst c false } kp k
    match kindOf P o.op with
    | .call f args => match pureCall P fh s c o f args with
     | some (g, xs) => callA h fh g xs s.H fun
        | .ret v _ => iOpsL P h fh ops rest (i + 1) (callRecs fh g xs i s.B s.H s.H v ++ rs) { s with T := setDst s.T o.dst v, G := addTag s.G o.dst c (gvOf s c) } kp k
        | .panic p H' => cond (gvOf s c) (kp i rs p { s with H := H' }) (skip ())
     | none =>
      cond (gvOf s c) (if opTags s.G c o.op then match funOf P (aeval s.T f) with
        | some (g, caps) => callA h fh g (args.toList.map (aeval s.T) ++ caps) s.H fun
            | .ret v H' => iOpsL P h fh ops rest (i + 1) (callRecs fh g (args.toList.map (aeval s.T) ++ caps) i s.B s.H H' v ++ rs)
                { s with T := setDst s.T o.dst v, H := H', G := addTag s.G o.dst c true } kp k
            | .panic p H' => kp i rs p { s with H := H' }
        | none => none
        else none) (skip ())
    | .pan x => match c with
      | some _ => none
      | none => if opTags s.G c o.op then match ifaceOf (aeval s.T x) with
        | some (t, v) => kp i rs (.iface t v) s
        | none => none
        else none
    | .dfr f args => match c with
      | none => match funOf P (aeval s.T f) with
        | some (g, caps) => if opTags s.G c o.op && args.size == 0 && caps.all noTmp then
            iOpsL P h fh ops rest (i + 1) (.bad :: rs) { s with T := setDst s.T o.dst .undef, D := (g, caps) :: s.D } kp k else none
        | none => none
      | some _ => none
    | .other =>
      match (if opTags s.G c o.op then stepOp P fh s.T s.B s.H o else none) with
      | some r => match c with
        | none => cond r.ok (onV fh s.T o r fun r => iOpsL P h fh ops rest (i + 1) (recOf i o fh s.T s.B s.H r ++ rs) { s with T := setDst s.T o.dst r.v, B := r.B, H := r.H } kp k) none
        | some _ => match writes o fh s.T with
          | some _ => none
          | none => cond (r.ok || !gvOf s c) (onV fh s.T o r fun r => iOpsL P h fh ops rest (i + 1) (recOf i o fh s.T s.B s.H r ++ rs) { s with T := setDst s.T o.dst r.v, G := addTag s.G o.dst c (gvOf s c) } kp k) none
      | none => match c with
        | some _ => cond (gvOf s c) none (skip ())
        | none => none
/- evaluated at once -/
def setK {α R : Type} : List α → Nat → α → (List α → R) → R
  | [], _, _, F => F []
  | _ :: xs, 0, v, F => F (v :: xs)
  | x :: xs, n + 1, v, F => setK xs n v fun ys => F (x :: ys)
theorem setK_eq {α R : Type} : ∀ (xs : List α) (n : Nat) (v : α) (F : List α → R), setK xs n v F = F (xs.set n v)
  | [], _, _, _ => rfl
  | _ :: _, 0, _, _ => rfl
  | x :: xs, n + 1, v, F => by rw [setK, setK_eq xs n v]; rfl
def spine {α R : Type} : List α → (List α → R) → R
  | [], F => F []
  | x :: xs, F => spine xs fun ys => F (x :: ys)
theorem spine_eq {α R : Type} : ∀ (xs : List α) (F : List α → R), spine xs F = F xs
  | [], _ => rfl
  | x :: xs, F => by rw [spine, spine_eq xs]
def spines {α R : Type} : List (List α) → (List (List α) → R) → R
  | [], F => F []
  | x :: xs, F => spine x fun x => spines xs fun ys => F (x :: ys)
theorem spines_eq {α R : Type} : ∀ (xs : List (List α)) (F : List (List α) → R), spines xs F = F xs
  | [], _ => rfl
  | x :: xs, F => by rw [spines, spine_eq, spines_eq xs]
def forceV (v : AVal) (F : AVal → Ans) : Ans := match v with
  | .undef => F .undef
  | .bool b => F (.bool b)
  | .int k n => F (.int k n)
  | .str s => F (.str s)
  | .list f n r => F (.list f n r)
  | .own k o l u c => F (.own k o l u c)
  | .ptr (.tmp t) o => F (.ptr (.tmp t) o)
  | .ptr (.hp k) o => F (.ptr (.hp k) o)
  | .eptr k u i o => F (.eptr k u i o)
  | .rptr cs => F (.rptr cs)
  | .nilptr => F .nilptr
  | .nilS => F .nilS
  | .nonS => F .nonS
  | .nilX => F .nilX
  | .func f cs => F (.func f cs)
  | .nilfunc => F .nilfunc
  | .iface t x => F (.iface t x)
  | .nilIface => F .nilIface
  | .agg cs => spine cs fun cs => F (.agg cs)
  | .tuple vs => spine vs fun vs => F (.tuple vs)
theorem forceV_eq (v : AVal) (F : AVal → Ans) : forceV v F = F v := by
  cases v <;> try rfl
  · rename_i o _; cases o <;> rfl
  · simp only [forceV, spine_eq]
  · simp only [forceV, spine_eq]
def forceH : Heap → (Heap → Ans) → Ans
  | [], F => F []
  | .var cs :: H, F => spine cs fun cs => forceH H fun H => F (.var cs :: H)
  | .arr sz rows u :: H, F => forceH H fun H => F (.arr sz rows u :: H)
  | .note t n :: H, F => forceH H fun H => F (.note t n :: H)
theorem forceH_eq : ∀ (H : Heap) (F : Heap → Ans), forceH H F = F H
  | [], _ => rfl
  | .var cs :: H, F => by rw [forceH, spine_eq, forceH_eq H]
  | .arr sz rows u :: H, F => by rw [forceH, forceH_eq H]
  | .note t n :: H, F => by rw [forceH, forceH_eq H]
def strict (w : Option (Option Nat)) (r : SR) (F : SR → Ans) : Ans := forceV r.v fun v => match w with
  | some (some _) => spines r.B fun B => F ⟨r.ok, v, B, r.H⟩
  | some none => spine r.H fun H => F ⟨r.ok, v, r.B, H⟩
  | none => F ⟨r.ok, v, r.B, r.H⟩
theorem strict_eq (w : Option (Option Nat)) (r : SR) (F : SR → Ans) : strict w r F = F r := by
  unfold strict
  rw [forceV_eq]
  split <;> simp only [spine_eq, spines_eq]
def setD (T : List AVal) (d : Option Nat) (v : AVal) (F : List AVal → Ans) : Ans := match d with
  | some d => setK T d v F
  | none => F T
theorem setD_eq (T : List AVal) (d : Option Nat) (v : AVal) (F : List AVal → Ans) : setD T d v F = F (setDst T d v) := by
  cases d with
  | none => rfl
  | some d => exact setK_eq T d v F
def addG (G : Tags) (dst : Option Nat) (c : Option (Nat × Bool)) (g : Bool) (F : Tags → Ans) : Ans := match dst, c with
  | some d, some (e, w) => setK G d (some (e, w, g)) F
  | _, _ => F G
theorem addG_eq (G : Tags) (dst : Option Nat) (c : Option (Nat × Bool)) (g : Bool) (F : Tags → Ans) : addG G dst c g F = F (addTag G dst c g) := by
  unfold addG addTag
  split
  · exact setK_eq _ _ _ _
  · rfl
def zipT : List AVal → Tags → (List AVal → Ans) → Ans
  | t :: ts, none :: gs, F => zipT ts gs fun r => F (t :: r)
  | _ :: ts, some _ :: gs, F => zipT ts gs fun r => F (.undef :: r)
  | [], _, F => F []
  | _ :: _, [], F => F []
theorem zipT_eq : ∀ (T : List AVal) (G : Tags) (F : List AVal → Ans), zipT T G F = F ((T.zip G).map (fun x => match x.2 with | none => x.1 | some _ => .undef))
  | t :: ts, none :: gs, F => by rw [zipT, zipT_eq ts gs]; rfl
  | _ :: ts, some _ :: gs, F => by rw [zipT, zipT_eq ts gs]; rfl
  | [], _, F => by simp [zipT]
  | _ :: _, [], F => by simp [zipT]
/-- the same, but that each operation's outcome is evaluated at once -/
def iOps (P : Program) (h : Hd) (fh : FH) (ops : List Oper) : List Oper → Nat → List Rec → RS → (Nat → List Rec → AVal → RS → Ans) → RKont → Ans
  | [], _, rs, s, _, k => k rs s
  | o :: rest, i, rs, s, kp, k =>
    let c := guardDst ops o
    if (o.guard.isSome && c.isNone) || !freeDst s.G o.dst then none else cond (!guardOk s.T s.G o.dst c) none <|
    let skip (_ : Unit) : Ans := setD s.T o.dst .undef fun T => addG s.G o.dst c false fun G => iOps P h fh ops rest (i + 1) rs { s with T := T, G := G } kp k
    match kindOf P o.op with
    | .call f args => match pureCall P fh s c o f args with
     | some (g, xs) => callA h fh g xs s.H fun
        | .ret v _ => setD s.T o.dst v fun T => addG s.G o.dst c (gvOf s c) fun G => iOps P h fh ops rest (i + 1) (callRecs fh g xs i s.B s.H s.H v ++ rs) { s with T := T, G := G } kp k
        | .panic p H' => cond (gvOf s c) (kp i rs p { s with H := H' }) (skip ())
     | none =>
      cond (gvOf s c) (if opTags s.G c o.op then match funOf P (aeval s.T f) with
        | some (g, caps) => callA h fh g (args.toList.map (aeval s.T) ++ caps) s.H fun
            | .ret v H' => setD s.T o.dst v fun T => addG s.G o.dst c true fun G => iOps P h fh ops rest (i + 1) (callRecs fh g (args.toList.map (aeval s.T) ++ caps) i s.B s.H H' v ++ rs)
                { s with T := T, H := H', G := G } kp k
            | .panic p H' => kp i rs p { s with H := H' }
        | none => none
        else none) (skip ())
    | .pan x => match c with
      | some _ => none
      | none => if opTags s.G c o.op then match ifaceOf (aeval s.T x) with
        | some (t, v) => kp i rs (.iface t v) s
        | none => none
        else none
    | .dfr f args => match c with
      | none => match funOf P (aeval s.T f) with
        | some (g, caps) => if opTags s.G c o.op && args.size == 0 && caps.all noTmp then
            iOps P h fh ops rest (i + 1) (.bad :: rs) { s with T := setDst s.T o.dst .undef, D := (g, caps) :: s.D } kp k else none
        | none => none
      | some _ => none
    | .other =>
      match (if opTags s.G c o.op then stepOp P fh s.T s.B s.H o else none) with
      | some r => match c with
        | none => cond r.ok (onV fh s.T o r fun r => strict (writes o fh s.T) r fun r => setD s.T o.dst r.v fun T => iOps P h fh ops rest (i + 1) (recOf i o fh s.T s.B s.H r ++ rs) { s with T := T, B := r.B, H := r.H } kp k) none
        | some _ => match writes o fh s.T with
          | some _ => none
          | none => cond (r.ok || !gvOf s c) (onV fh s.T o r fun r => strict (writes o fh s.T) r fun r => setD s.T o.dst r.v fun T => addG s.G o.dst c (gvOf s c) fun G => iOps P h fh ops rest (i + 1) (recOf i o fh s.T s.B s.H r ++ rs) { s with T := T, G := G } kp k) none
      | none => match c with
        | some _ => cond (gvOf s c) none (skip ())
        | none => none
theorem iOps_eq (P : Program) (h : Hd) (fh : FH) (ops : List Oper) : ∀ (l : List Oper) (i : Nat) (rs : List Rec) (s : RS) (kp : Nat → List Rec → AVal → RS → Ans) (k : RKont), iOps P h fh ops l i rs s kp k = iOpsL P h fh ops l i rs s kp k
  | [], _, _, _, _, _ => rfl
  | o :: rest, i, rs, s, kp, k => by
    have ih := iOps_eq P h fh ops rest
    unfold iOps iOpsL
    simp only [setD_eq, addG_eq, strict_eq, ih]
def cmpB (b : Array Nat) (i j : Nat) : Bool := if i < j then (b.getD j 0).testBit i else (b.getD i 0).testBit j
open Classical in
noncomputable def sameV (a b : AVal) : Bool :=
  (match a, b with
  | .int k x, .int k' y => decide (k = k') && x == y
  | .str x, .str y => x == y
  | .bool x, .bool y => x == y
  | .own k o l v c, .own k' o' l' v' c' => k == k' && o == o' && l == l' && v == v' && c == c'
  | .ptr (.hp k) o, .ptr (.hp k') o' => k == k' && o == o'
  | .nilIface, .nilIface => true
  | .nilptr, .nilptr => true
  | _, _ => false) || (if a = b then true else false)
def resOf (p : AVal) : Option Nat :=
  match p with
  | .ptr (.tmp t) _ => some t
  | _ => none
noncomputable def reread (P : Program) (B : Boxes) (H : Heap) (t : TypeId) (p v : AVal) : Bool :=
  match p with
  | .rptr _ => true
  | _ => match loadA P B H t p with
    | some (ok, u) => ok && sameV u v
    | none => false
/-- two records, the first one's operation ahead in the text: may they change places? -/
noncomputable def pairOk (P : Program) (b : Array Nat) : Rec → Rec → Bool
  | .eff i x B0 H0 _ _, .rd j t p v => cmpB b i j || x != resOf p || reread P B0 H0 t p v
  | .rd i t p v, .eff j x _ _ B1 H1 => cmpB b i j || x != resOf p || reread P B1 H1 t p v
  | .eff i x _ _ _ _, .eff j y _ _ _ _ => cmpB b i j || x != y
  | .eff i x _ _ _ _, .use j => i == j || cmpB b i j || x.isSome
  | .use i, .eff j x _ _ _ _ => i == j || cmpB b i j || x.isSome
  | .al i d, .ptv j d' => i == j || cmpB b i j || d != d'
  | .ptv i d, .al j d' => i == j || d != d'
  | .eff i x _ _ _ _, .pan j => cmpB b i j || x.isSome
  | .bad, _ => false
  | _, .bad => false
  | _, _ => true
/-- the newest record stands ahead -/
noncomputable def drawOk (P : Program) (b : Array Nat) : List Rec → Bool
  | [] => true
  | y :: rs => rs.all (fun x => pairOk P b x y) && (match y with | .bad => false | _ => true) && drawOk P b rs
def namesOf (ops : List Oper) (o : Oper) : List Nat := o.dst.toList ++ tmpsOf o.op.operands.toList ++ (match guardDst ops o with | some (d, _) => [d] | none => [])
def namesOk (ops : List Oper) (b : Array Nat) : Bool :=
  ops.zipIdx.all fun x => ops.zipIdx.all fun y => x.2 == y.2 || cmpB b x.2 y.2 || (match x.1.dst with | some d => !(namesOf ops y.1).contains d | none => true)
def edgesDown (ops : List Oper) : Bool := ops.zipIdx.all fun x => x.1.after.toList.all fun e => !Region.binds .any e || decide (e.on < x.2)
def guardsOk (ops : List Oper) : Bool :=
  ops.zipIdx.all fun x => ops.zipIdx.all fun y =>
    (match guardDst ops y.1, x.1.dst with
     | some (d, _), some e => e != d || decide (x.2 < y.2)
     | _, _ => true) &&
    (x.2 == y.2 || (match x.1.dst, y.1.dst with
     | some d, some e => d != e || (x.1.guard.isNone && y.1.guard.isNone)
     | _, _ => true))
def staticOk (ops : List Oper) (b : Array Nat) : Bool := namesOk ops b && edgesDown ops && guardsOk ops
def behind (n : Nat) (b : Array Nat) (i : Nat) : Bool := (List.range n).all fun j => decide (j ≤ i) || (b.getD j 0).testBit i
/-- forget what is of use under a guard alone -/
def untag (s : RS) : St := { T := (s.T.zip s.G).map (fun x => match x.2 with | none => x.1 | some _ => .undef), B := s.B, H := s.H, D := s.D }
def withUntag (s : RS) (F : St → Ans) : Ans := zipT s.T s.G fun T => F { T := T, B := s.B, H := s.H, D := s.D }
theorem withUntag_eq (s : RS) (F : St → Ans) : withUntag s F = F (untag s) := zipT_eq _ _ _
def dropDsts (ops : List Oper) (T : List AVal) : List AVal := ops.foldl (fun T o => setDst T o.dst .undef) T
def allocsFree (fh : FH) (ops : List Oper) (T : List AVal) : Bool := ops.all fun o => match o.op with
  | .alloc _ => !T.any (pointsTo (o.dst.getD 0))
  | .box _ _ => !T.any (pointsTo (o.dst.getD 0))
  | _ => true
noncomputable def iRegion (P : Program) (h : Hd) (fh : FH) (ops : Array Oper) (draw : Bool) (st : St) (k : Kont) : Ans :=
  let l := ops.toList
  let s0 : RS := { T := st.T, B := st.B, H := st.H, D := st.D, G := st.T.map fun _ => none }
  let pan (p : AVal) (s : RS) : Ans := k (.panic p) { T := dropDsts l st.T, B := st.B.map fun _ => [], H := s.H, D := s.D }
  match draw with
  | false => iOps P h fh l l 0 [] s0 (fun _ _ p s => pan p s) (fun _ s => withUntag s (k .normal))
  | true =>
    let b := Region.before ops
    if P.follows .mixedOrders && staticOk l b && allocsFree fh l st.T then
      iOps P h fh l l 0 [] s0 (fun i rs p s => cond (behind l.length b i && drawOk P b (.pan i :: rs)) (pan p s) none) (fun rs s => cond (drawOk P b rs) (withUntag s (k .normal)) none)
    else none

/- code -/
def firstRegion : Code → Nat
  | .region id _ _ => id
  | .seq a _ => firstRegion a
  | .block _ c => firstRegion c
  | _ => 0
def forget (live : Option (List Nat)) (st : St) : St :=
  match live with
  | none => st
  | some l => { st with T := st.T.zipIdx.map (fun x => if l.contains x.2 then x.1 else .undef), B := st.B.zipIdx.map (fun x => if l.contains x.2 then x.1 else []) }
def iLoop (body : St → Kont → Ans) (fg : St → St) : Nat → St → Kont → Ans
  | 0, _, _ => none
  | n + 1, st, k => body (fg st) fun e st' => match e with
    | .normal => iLoop body fg n st' k
    | e => k e st'
noncomputable def iCode (P : Program) (h : Hd) (fh : FH) (F : Nat) : Code → St → Kont → Ans
  | .skip, st, k => k .normal st
  | .region _ ops draw, st, k => iRegion P h fh ops draw st k
  | .seq a b, st, k => iCode P h fh F a st fun e st' => match e with
    | .normal => iCode P h fh F b st' k
    | e => k e st'
  | .cond c x y, st, k => match aeval st.T c with
    | .bool q => cond q (iCode P h fh F x st k) (iCode P h fh F y st k)
    | _ => none
  | .block id c, st, k => iCode P h fh F c st fun e st' => match e with
    | .exit id' => if id' = id then k .normal st' else k (.exit id') st'
    | e => k e st'
  | .loop c, st, k => match fh.loops (firstRegion c) with
    | some sp => sp st k
    | none => iLoop (iCode P h fh F c) (forget (fh.live.lookup (firstRegion c))) F st k
  | .exit id, st, k => k (.exit id) st
  | .ret, st, k => k .ret st
  | _, _, _ => none

/- functions -/
def resA (P : Program) (T : List AVal) (B : Boxes) (H : Heap) : ResultVar → Option (Bool × AVal)
  | .tmp t => some (true, T.getD t .undef)
  | .cell a t => loadA P B H t (T.getD a .undef)
def resAll (P : Program) (T : List AVal) (B : Boxes) (H : Heap) : List ResultVar → Option (Bool × List AVal)
  | [] => some (true, [])
  | r :: rs => match resA P T B H r, resAll P T B H rs with
    | some (ok, v), some (ok', vs) => some (ok && ok', v :: vs)
    | _, _ => none
def oneOf (vs : List AVal) : AVal := match vs with
  | [v] => v
  | vs => .tuple vs
def finish (P : Program) (fn : Func) (st : St) (k : Out → Ans) : Ans :=
  match resAll P st.T st.B st.H fn.results.toList with
  | some (ok, vs) => cond (ok && vs.all noTmp) (k (.ret (oneOf vs) st.H)) none
  | none => none
def start (fn : Func) (xs : List AVal) (H : Heap) : St :=
  { T := xs ++ List.replicate (fn.ntmps - xs.length) .undef, B := List.replicate (xs.length + (fn.ntmps - xs.length)) [], H, D := [] }
def recV : Option AVal → AVal
  | some p => p
  | none => .nilIface
/-- a deferred function literal: its first operation may be 'recover' -/
noncomputable def iDeferred (P : Program) (h : Hd) (fh : FH) (F : Nat) (g : FuncId) (caps : List AVal) (pan : Option AVal) (H : Heap) (k : Bool → Heap → Ans) : Ans :=
  match P.funcs[g]? with
  | some fn => match fn.body, fn.results.toList with
    | some (.seq (.region _ ops false) rest), [] => match ops.toList with
      | o :: os => match o.op, o.guard, o.dst with
        | .call { callee := .builtin .recover, args := _, argTypes := _ }, none, some d =>
          let st := start fn caps H
          let v : AVal := recV pan
          iOps P h fh (o :: os) os 1 [] { T := st.T.set d v, B := st.B, H := st.H, D := [], G := st.T.map fun _ => none } (fun _ _ _ _ => none)
            (fun _ s => withUntag s fun st0 => iCode P h fh F rest st0 fun e st' => match e with
              | .normal => if st'.D.isEmpty then k pan.isSome st'.H else none
              | .ret => if st'.D.isEmpty then k pan.isSome st'.H else none
              | _ => none)
        | _, _, _ => none
      | [] => none
    | _, _ => none
  | none => none
noncomputable def iDefers (P : Program) (h : Hd) (fhs : FuncId → FH) (F : Nat) : List (FuncId × List AVal) → Option AVal → Heap → (Option AVal → Heap → Ans) → Ans
  | [], m, H, k => k m H
  | (g, caps) :: ds, m, H, k => if callable P g then iDeferred P h (fhs g) F g caps m H fun took H' => iDefers P h fhs F ds (if took then none else m) H' k else none
noncomputable def iFun (P : Program) (h : Hd) (fhs : FuncId → FH) (F : Nat) (f : FuncId) (xs : List AVal) (H : Heap) (k : Out → Ans) : Ans :=
  match P.funcs[f]? with
  | some fn => match fn.body with
    | some c => iCode P h (fhs f) F c (start fn xs H) fun e st =>
      match e with
      | .normal => if st.D.isEmpty then finish P fn st k else iDefers P h fhs F st.D none st.H fun m H' => match m with
        | none => finish P fn { st with H := H', B := st.B.map fun _ => [] } k
        | some _ => none
      | .ret => if st.D.isEmpty then finish P fn st k else iDefers P h fhs F st.D none st.H fun m H' => match m with
        | none => finish P fn { st with H := H', B := st.B.map fun _ => [] } k
        | some _ => none
      | .panic p => if st.D.isEmpty then k (.panic p st.H) else iDefers P h fhs F st.D (some p) st.H fun m H' => match m with
        | none => finish P fn { st with H := H' } k
        | some p => k (.panic p H')
      | _ => none
    | none => none
  | none => none
/- what is handed on as plain data -/
def freezeV (H : Heap) : Nat → AVal → Option AVal
  | 0, _ => none
  | d + 1, v => match v with
    | .own k off len ver _ => match H[k]? with
      | some (.arr _ rows u) => if u == ver && decide (off + len ≤ rows.length) then
          match ((rows.drop off).take len).mapM (fun r => r.mapM (freezeV H d)) with
          | some rows' => some (.list false len (fun i => rows'.getD i []))
          | none => none
        else none
      | _ => none
    | .agg cs => (cs.mapM (freezeV H d)).map .agg
    | .tuple cs => (cs.mapM (freezeV H d)).map .tuple
    | .iface t x => (freezeV H d x).map (.iface t)
    | v => if isPure v then some v else none
noncomputable def iPure (P : Program) (h : Hd) (fhs : FuncId → FH) (F : Nat) (f : FuncId) (xs : List AVal) (k : Out → Ans) : Ans :=
  iFun P h fhs F f xs [] fun
    | .ret v H => match freezeV H 40 v with
      | some v' => k (.ret v' [])
      | none => none
    | .panic p H => match freezeV H 8 p with
      | some p' => k (.panic p' [])
      | none => none
/-- all of the program, by fuel -/
noncomputable def iAll (P : Program) (spec : Hd) (known : FuncId → Bool) (fhs : FuncId → FH) (F : Nat) : Nat → Hd
  | 0 => fun _ _ _ _ => none
  | n + 1 => fun f xs H k =>
    if known f then spec f xs H k
    else match H with
      | [] => if xs.all isPure && !(fhs f).raw then iPure P (iAll P spec known fhs F n) fhs F f xs k else iFun P (iAll P spec known fhs F n) fhs F f xs H k
      | _ => iFun P (iAll P spec known fhs F n) fhs F f xs H k
end Go.Mu
