/-
  Mu's values; the package-level variables of this seat that Mu knows: of which an int is held, of which what is held.
-/
import Derived.Calls
namespace Go.Mu
open Go

inductive Oid where
  | tmp (t : Nat)
  | hp (k : Nat)
  deriving DecidableEq

inductive AVal where
  | undef
  | bool (b : Bool)
  | int (k : IntKind) (n : Int)
  | str (s : List UInt8)
  | list (full : Bool) (n : Nat) (row : Nat → List AVal)
  | own (k off len ver : Nat) (clip : Bool)
  | ptr (o : Oid) (off : Nat)
  | eptr (k ver i off : Nat)
  | rptr (cells : List AVal)
  | nilptr
  | nilS
  | nonS
  | nilX
  | func (f : FuncId) (caps : List AVal)
  | nilfunc
  | iface (t : TypeId) (v : AVal)
  | nilIface
  | agg (cells : List AVal)
  | tuple (vs : List AVal)


/-- variables that hold some int -/
def gints (g : Nat) : Option IntKind :=
  if g == 0 then some .i64 else
  none
/-- variables that hold these cells -/
def gvals (g : Nat) : Option (List AVal) :=
  none
end Go.Mu
