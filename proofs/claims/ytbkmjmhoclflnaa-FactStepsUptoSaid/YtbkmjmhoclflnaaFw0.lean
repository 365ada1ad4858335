/- Abstract values. -/
import Derived.Orders
import Derived.LoopN
import Derived.Below
import Derived.KernelRfl
import Derived.Laws.Strings
namespace Go.Proofs.Ytbkmjmhoclflnaa.Fw
open Go Go.RowKit
set_option linter.unusedVariables false
set_option linter.unusedSimpArgs false

/-- What is known of a slice's capacity: just c; any, with cells of so many a place behind it in its own block; nothing (a slice of memory that came in). -/
inductive Cap where
  | exact (c : Nat) | spare (es : Nat) | ro | tok (t : Nat)
  deriving DecidableEq

inductive AV where
  | bool (b : Bool)
  | int (k : IntKind) (n : Int)
  | str (s : List UInt8)
  | ptrNil
  | ptr (i off : Nat)
  | slNil
  | sl (i off len : Nat) (cap : Cap)
  | mapNil
  | map (i : Nat)
  | fnNil
  | fn (f : Fn) (first captured : List AV)
  | ifaceNil
  | iface (t : TypeId) (v : AV)
  | agg (cs : List AV)
  | tup (vs : List AV)
  | im (k : Nat) (rows : List (List AV)) (cap : Cap)
  | imp (row : List AV) (o : Nat)
  | sle
  | bad

instance : Inhabited AV := ⟨.bad⟩

/-- What the package's tables hold (the seat's own; none here). -/
def globs : Nat → Option (List AV) := fun _ => none

end Go.Proofs.Ytbkmjmhoclflnaa.Fw
