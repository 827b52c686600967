/- slices.SortFunc of what unknowns are, by their names: what it comes to where the names differ. -/
import Derived.Test.YtlmodlihiglnhaaAL4
import Derived.Lib.Bytealg
set_option linter.unusedVariables false
namespace Go.AL.S4
open Go Go.AL

def bname (p : PV) : List UInt8 := (p.c 0).toStr
def isBind (p : PV) : Bool := match p with | .agg [.str _, .int .i64 _, .str _, .lst _] => true | _ => false
def leB (a b : PV) : Bool := !decide (Lib.compareBytes (bname b) (bname a) < 0)
def insB (x : PV) : List PV → List PV
  | [] => [x]
  | y :: l => bif leB x y then x :: y :: l else y :: insB x l
def sortB : List PV → List PV
  | [] => []
  | x :: l => insB x (sortB l)
def distinctB : List PV → Bool
  | [] => true
  | x :: l => (l.all fun y => !(bname x == bname y)) && distinctB l
def sortP (args : List Arg) : Option Out :=
  match args with
  | [.vec sz xs, .pv (.fn g cap)] => bif Nat.beq sz 4 && (Nat.beq g 53 && (cap.isEmpty && (xs.all isBind && (distinctB xs && decide (xs.length < 4611686018427387904))))) then some (.pv (.tup []), [.vec (sortB xs)]) else none
  | [.pv (.lst xs), .pv (.fn g cap)] => bif xs.isEmpty && (Nat.beq g 53 && cap.isEmpty) then some (.pv (.tup []), []) else none
  | _ => none
end Go.AL.S4
