/- What strconv.Atoi (of numerals), parse.Read (of one text) come to. -/
import Derived.Test.YtjfibflkfdpllaaGreatDoorAL5
import Derived.Shelf.Strconv.Atoi
set_option linter.unusedVariables false
namespace Go.AL.S11
open Go Go.AL
def atoiP : List Arg → Option Out
  | [.pv (.str s)] => bif Nat.ble s.length 18 then (match Lib.atoi s with | some n => some (.pv (.tup [.int .i64 n, .nilI]), []) | none => none) else none
  | _ => none
def shapes : List UInt8 := [109, 111, 100, 117, 108, 101, 32, 109, 32, 49, 59, 32, 100, 97, 116, 97, 32, 78, 97, 116, 32, 61, 32, 90, 101, 114, 111, 32, 124, 32, 78, 101, 120, 116, 40, 78, 97, 116, 41, 59, 32, 100, 97, 116, 97, 32, 80, 97, 105, 114, 32, 61, 32, 80, 97, 105, 114, 40, 78, 97, 116, 44, 32, 98, 111, 111, 108, 41, 32, 124, 32, 79, 110, 101, 40, 105, 110, 116, 41, 59, 32, 97, 99, 116, 111, 114, 32, 65, 40, 41, 58, 32, 105, 110, 116, 32, 61, 32, 40, 41, 59]
def shapesP : PV := .agg [.str [109], .int .i64 1, .lst [], .lst [.agg [.str [78, 97, 116], .lst [], .lst [.agg [.str [90, 101, 114, 111], .lst []], .agg [.str [78, 101, 120, 116], .lst [.agg [.int .i64 6, .str [78, 97, 116], .lst []]]]]], .agg [.str [80, 97, 105, 114], .lst [], .lst [.agg [.str [80, 97, 105, 114], .lst [.agg [.int .i64 6, .str [78, 97, 116], .lst []], .agg [.int .i64 2, .str [], .lst []]]], .agg [.str [79, 110, 101], .lst [.agg [.int .i64 1, .str [], .lst []]]]]]], .lst [], .lst [], .lst [], .lst [.agg [.str [65], .lst [], .lst [], .int .i64 1, .str [], .lst [], .int .i64 1, .int .i64 0, .str [], .lst [], .lst [], .lst [], .lst [], .int .i64 98]]]
def readP : List Arg → Option Out
  | [.pv (.str s)] => bif s == shapes then some (.pv (.tup [shapesP, .int .i64 0, .int .i64 0]), []) else none
  | _ => none
end Go.AL.S11
