/- Equations of functions in the abstract machine: printed by gen.py. -/
import Derived.Test.YtlmodlihiglnhaaDoorS9T
set_option linter.unusedVariables false
set_option maxRecDepth 100000
namespace Go.AL.S9
open Go Go.AL
/-! 56 roadstead/roadref2.dataName -/
theorem f56 (s : List UInt8) (cl_ : FuncId → List Arg → Option Out) (lp_ : List Nat → AS → Option Out) : runW Pr T cl_ lp_ 56 [.pv (.str s)] =
  ((cl_ 58 [.pv (.str s)]).bind retPV).bind fun r =>
    (bif (Sh.bool).fits r then
      bif r.toBool then
        bif (!(s == ([82, 101, 102] : List UInt8))) then
          some (.pv (.bool (!(s == ([67, 101, 108, 108] : List UInt8)))), [])
        else some (.pv (.bool false), [])
      else some (.pv (.bool false), [])
    else none) := by kernel_rfl
theorem e56 (s : List UInt8) : V 56 [.pv (.str s)] =
  ((V 58 [.pv (.str s)]).bind retPV).bind fun r =>
    (bif (Sh.bool).fits r then
      bif r.toBool then
        bif (!(s == ([82, 101, 102] : List UInt8))) then
          some (.pv (.bool (!(s == ([67, 101, 108, 108] : List UInt8)))), [])
        else some (.pv (.bool false), [])
      else some (.pv (.bool false), [])
    else none) :=
  (V_eq pa rfl _).trans (f56 s V (LV Pr T 56))
end Go.AL.S9
