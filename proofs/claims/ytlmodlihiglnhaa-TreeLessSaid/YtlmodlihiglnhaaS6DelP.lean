/- slices.Delete as a primitive of the abstract machine: what it answers. -/
import Derived.Test.YtlmodlihiglnhaaAL4
set_option linter.unusedVariables false
namespace Go.AL.S6
open Go Go.AL
/-- `slices.Delete(s, i, j)` at i < j: the part 0 .. n - (j - i) of the vector, the rest cleared. -/
def delP (z : PV) (args : List Arg) : Option Out :=
  match args with
  | [.vec sz xs, .pv (.int .i64 i), .pv (.int .i64 j)] => bif Nat.beq sz z.cells.length && (decide (0 ≤ i) && (decide (i < j) && decide (j ≤ (xs.length : Int)))) then
      some (.box [.int .i64 0, .int .i64 ((xs.length : Int) - (j - i))], [.vec (xs.take i.toNat ++ xs.drop j.toNat ++ List.replicate (j - i).toNat z)]) else none
  | _ => none
end Go.AL.S6
