/- strconv.AppendInt of a byte, to the base sixteen: what it comes to. -/
import Derived.Test.YtlmodlihiglnhaaDoorAL4
set_option linter.unusedVariables false
namespace Go.AL.S7
open Go Go.AL
/-- A digit. -/
def hx (n : Nat) : Int := if n < 10 then ((48 + n : Nat) : Int) else ((87 + n : Nat) : Int)
def hexL (n : Nat) : List PV := bif Nat.blt n 16 then [.int .u8 (hx n)] else [.int .u8 (hx (n / 16)), .int .u8 (hx (n % 16))]
def hexP : List Arg → Option Out
  | [.bld sz xs, .pv (.int .i64 n), .pv (.int .i64 b)] => bif Nat.beq sz 1 && (decide (0 ≤ n) && (decide (n < 256) && (b == 16 && Nat.ble (xs.length + 2) 1000000))) then some (.bld 1 (xs ++ hexL n.toNat), []) else none
  | _ => none
end Go.AL.S7
