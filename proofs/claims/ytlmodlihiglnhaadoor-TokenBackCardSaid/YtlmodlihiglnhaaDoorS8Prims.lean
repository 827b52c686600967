/- What strconv.AppendInt of a byte, to the base sixteen, and strings.Join come to. -/
import Derived.Test.YtlmodlihiglnhaaDoorAL4
set_option linter.unusedVariables false
namespace Go.AL.S8
open Go Go.AL
/-- A digit. -/
def hx (n : Nat) : Int := if n < 10 then ((48 + n : Nat) : Int) else ((87 + n : Nat) : Int)
def hexL (n : Nat) : List PV := bif Nat.blt n 16 then [.int .u8 (hx n)] else [.int .u8 (hx (n / 16)), .int .u8 (hx (n % 16))]
def hexP : List Arg → Option Out
  | [.bld sz xs, .pv (.int .i64 n), .pv (.int .i64 b)] => bif Nat.beq sz 1 && (decide (0 ≤ n) && (decide (n < 256) && (b == 16 && Nat.ble (xs.length + 2) 1000000))) then some (.bld 1 (xs ++ hexL n.toNat), []) else none
  | _ => none
def isStrPV : PV → Bool
  | .str _ => true
  | _ => false
def joinS (sep : List UInt8) (xs : List (List UInt8)) : List UInt8 := sep.intercalate xs
def joinP : List Arg → Option Out
  | [.pv (.lst xs), .pv (.str sep)] => bif xs.all isStrPV && (Nat.ble xs.length 1000000 && Nat.ble (joinS sep (xs.map PV.toStr)).length 100000000) then some (.pv (.str (joinS sep (xs.map PV.toStr))), []) else none
  | _ => none
end Go.AL.S8
