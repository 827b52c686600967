/- What strings.IndexByte, strings.Trim (of letters), strings.Fields (of letters), strconv.Itoa come to. -/
import Derived.Test.YtlmodlihiglnhaaDoorAL4
import Derived.Lib.Bytealg
import Derived.Lib.SlTrimSet
import Derived.Lib.Fields
import Derived.Lib.ItoaLen
set_option linter.unusedVariables false
namespace Go.AL.S10
open Go Go.AL
def ascii (s : List UInt8) : Bool := s.all fun b => decide (b.toNat < 128)
def idxP : List Arg → Option Out
  | [.pv (.str s), .pv (.int .u8 c)] => some (.pv (.int .i64 (Lib.indexByte s c.toNat.toUInt8)), [])
  | _ => none
def trimP : List Arg → Option Out
  | [.pv (.str s), .pv (.str cs)] => bif ascii cs && (Nat.ble s.length 1000000 && Nat.ble cs.length 1000000) then some (.pv (.str (Lib.trimS s cs)), []) else none
  | _ => none
def fieldsP : List Arg → Option Out
  | [.pv (.str s)] => bif ascii s && Nat.ble s.length 1000000 then some (.pv (.lst ((Lib.fields s).map .str)), []) else none
  | _ => none
def itoaP : List Arg → Option Out
  | [.pv (.int .i64 n)] => bif decide (-9223372036854775808 ≤ n) && decide (n ≤ 9223372036854775807) then some (.pv (.str (Lib.itoa n)), []) else none
  | _ => none
end Go.AL.S10
