/- Equations of functions in the abstract machine: printed by gen.py. -/
import Derived.Test.YtlmodlihiglnhaaS6T
set_option linter.unusedVariables false
set_option maxRecDepth 100000
namespace Go.AL.S6
open Go Go.AL
/-! 8 roadstead/roadkeep2.TreeLess -/
theorem f8 (p_Name : List UInt8) (p_Version : Int) (p_Uses : List PV) (p_Datas : List PV) (p_Traits : List PV) (p_Impls : List PV) (p_Funcs : List PV) (p_Actors : List PV) (k : Int) (cl_ : FuncId → List Arg → Option Out) (lp_ : List Nat → AS → Option Out) : runW Pr T cl_ lp_ 8 [.pv (.agg [.str p_Name, .int .i64 p_Version, .lst p_Uses, .lst p_Datas, .lst p_Traits, .lst p_Impls, .lst p_Funcs, .lst p_Actors]), .pv (.int .i64 k)] =
  ((cl_ 14 []).bind retPV).bind fun r =>
    (bif (Sh.bool).fits r then
      bif (!r.toBool) then
        some (.pv (.bool false), [])
      else ((cl_ 25 [.pv (.agg [.str p_Name, .int .i64 p_Version, .lst p_Uses, .lst p_Datas, .lst p_Traits, .lst p_Impls, .lst p_Funcs, .lst p_Actors]), .pv (.int .i64 k)]).bind retPV).bind fun r1 =>
        (bif (Sh.tup [Sh.agg [Sh.str, Sh.int .i64, Sh.lst, Sh.lst, Sh.lst, Sh.lst, Sh.lst, Sh.lst], Sh.int .i64]).fits r1 then
          bif (((r1.r 1).toInt) != (0 : Int)) then
            some (.pv (.bool true), [])
          else ((cl_ 26 [.pv (.agg [.str p_Name, .int .i64 p_Version, .lst p_Uses, .lst p_Datas, .lst p_Traits, .lst p_Impls, .lst p_Funcs, .lst p_Actors])]).bind retPV).bind fun r2 =>
            (bif (Sh.int .i64).fits r2 then
              bif ((r2.toInt) != (0 : Int)) then
                some (.pv (.bool true), [])
              else ((cl_ 26 [.pv (.agg [.str (((r1.r 0).c 0).toStr), .int .i64 (((r1.r 0).c 1).toInt), .lst (((r1.r 0).c 2).toLst), .lst (((r1.r 0).c 3).toLst), .lst (((r1.r 0).c 4).toLst), .lst (((r1.r 0).c 5).toLst), .lst (((r1.r 0).c 6).toLst), .lst (((r1.r 0).c 7).toLst)])]).bind retPV).bind fun r3 =>
                (bif (Sh.int .i64).fits r3 then
                  some (.pv (.bool ((r3.toInt) == (0 : Int))), [])
                else none)
            else none)
        else none)
    else none) := by kernel_rfl
theorem e8 (p_Name : List UInt8) (p_Version : Int) (p_Uses : List PV) (p_Datas : List PV) (p_Traits : List PV) (p_Impls : List PV) (p_Funcs : List PV) (p_Actors : List PV) (k : Int) : V 8 [.pv (.agg [.str p_Name, .int .i64 p_Version, .lst p_Uses, .lst p_Datas, .lst p_Traits, .lst p_Impls, .lst p_Funcs, .lst p_Actors]), .pv (.int .i64 k)] =
  ((V 14 []).bind retPV).bind fun r =>
    (bif (Sh.bool).fits r then
      bif (!r.toBool) then
        some (.pv (.bool false), [])
      else ((V 25 [.pv (.agg [.str p_Name, .int .i64 p_Version, .lst p_Uses, .lst p_Datas, .lst p_Traits, .lst p_Impls, .lst p_Funcs, .lst p_Actors]), .pv (.int .i64 k)]).bind retPV).bind fun r1 =>
        (bif (Sh.tup [Sh.agg [Sh.str, Sh.int .i64, Sh.lst, Sh.lst, Sh.lst, Sh.lst, Sh.lst, Sh.lst], Sh.int .i64]).fits r1 then
          bif (((r1.r 1).toInt) != (0 : Int)) then
            some (.pv (.bool true), [])
          else ((V 26 [.pv (.agg [.str p_Name, .int .i64 p_Version, .lst p_Uses, .lst p_Datas, .lst p_Traits, .lst p_Impls, .lst p_Funcs, .lst p_Actors])]).bind retPV).bind fun r2 =>
            (bif (Sh.int .i64).fits r2 then
              bif ((r2.toInt) != (0 : Int)) then
                some (.pv (.bool true), [])
              else ((V 26 [.pv (.agg [.str (((r1.r 0).c 0).toStr), .int .i64 (((r1.r 0).c 1).toInt), .lst (((r1.r 0).c 2).toLst), .lst (((r1.r 0).c 3).toLst), .lst (((r1.r 0).c 4).toLst), .lst (((r1.r 0).c 5).toLst), .lst (((r1.r 0).c 6).toLst), .lst (((r1.r 0).c 7).toLst)])]).bind retPV).bind fun r3 =>
                (bif (Sh.int .i64).fits r3 then
                  some (.pv (.bool ((r3.toInt) == (0 : Int))), [])
                else none)
            else none)
        else none)
    else none) :=
  (V_eq pa rfl _).trans (f8 p_Name p_Version p_Uses p_Datas p_Traits p_Impls p_Funcs p_Actors k V (LV Pr T 8))
/-! 14 roadstead/roadkeep2.walks -/
theorem f14  (cl_ : FuncId → List Arg → Option Out) (lp_ : List Nat → AS → Option Out) : runW Pr T cl_ lp_ 14 [] =
  ((cl_ 38 [.pv (.agg [.int .i64 6, .int .i64 0, .str [120], .lst [], .lst [], .lst [.agg [.int .i64 2, .int .i64 0, .str [], .lst [], .lst [], .lst [], .lst [], .int .i64 0], .agg [.int .i64 5, .int .i64 0, .str [121], .lst [], .lst [], .lst [], .lst [], .int .i64 0]], .lst [], .int .i64 0])]).bind retPV).bind fun r =>
    (bif (Sh.int .i64).fits r then
      bif ((r.toInt) == (3 : Int)) then
        ((cl_ 39 [.pv (.agg [.int .i64 6, .int .i64 0, .str [120], .lst [], .lst [], .lst [.agg [.int .i64 2, .int .i64 0, .str [], .lst [], .lst [], .lst [], .lst [], .int .i64 0], .agg [.int .i64 5, .int .i64 0, .str [121], .lst [], .lst [], .lst [], .lst [], .int .i64 0]], .lst [], .int .i64 0])]).bind retPV).bind fun r1 =>
          (bif (Sh.lst).fits r1 then
            bif ((r1.toLst.length : Int) == (3 : Int)) then
              ((cl_ 41 [.pv (.agg [.int .i64 6, .int .i64 0, .str [120], .lst [], .lst [], .lst [.agg [.int .i64 2, .int .i64 0, .str [], .lst [], .lst [], .lst [], .lst [], .int .i64 0], .agg [.int .i64 5, .int .i64 0, .str [121], .lst [], .lst [], .lst [], .lst [], .int .i64 0]], .lst [], .int .i64 0])]).bind retPV).bind fun r2 =>
                (bif (Sh.lst).fits r2 then
                  ((cl_ 40 [.pv (.lst r2.toLst), .pv (.lst [.str [121]])]).bind retPV).bind fun r3 =>
                    (bif (Sh.bool).fits r3 then
                      some (.pv (.bool r3.toBool), [])
                    else none)
                else none)
            else some (.pv (.bool false), [])
          else none)
      else some (.pv (.bool false), [])
    else none) := by kernel_rfl
theorem e14  : V 14 [] =
  ((V 38 [.pv (.agg [.int .i64 6, .int .i64 0, .str [120], .lst [], .lst [], .lst [.agg [.int .i64 2, .int .i64 0, .str [], .lst [], .lst [], .lst [], .lst [], .int .i64 0], .agg [.int .i64 5, .int .i64 0, .str [121], .lst [], .lst [], .lst [], .lst [], .int .i64 0]], .lst [], .int .i64 0])]).bind retPV).bind fun r =>
    (bif (Sh.int .i64).fits r then
      bif ((r.toInt) == (3 : Int)) then
        ((V 39 [.pv (.agg [.int .i64 6, .int .i64 0, .str [120], .lst [], .lst [], .lst [.agg [.int .i64 2, .int .i64 0, .str [], .lst [], .lst [], .lst [], .lst [], .int .i64 0], .agg [.int .i64 5, .int .i64 0, .str [121], .lst [], .lst [], .lst [], .lst [], .int .i64 0]], .lst [], .int .i64 0])]).bind retPV).bind fun r1 =>
          (bif (Sh.lst).fits r1 then
            bif ((r1.toLst.length : Int) == (3 : Int)) then
              ((V 41 [.pv (.agg [.int .i64 6, .int .i64 0, .str [120], .lst [], .lst [], .lst [.agg [.int .i64 2, .int .i64 0, .str [], .lst [], .lst [], .lst [], .lst [], .int .i64 0], .agg [.int .i64 5, .int .i64 0, .str [121], .lst [], .lst [], .lst [], .lst [], .int .i64 0]], .lst [], .int .i64 0])]).bind retPV).bind fun r2 =>
                (bif (Sh.lst).fits r2 then
                  ((V 40 [.pv (.lst r2.toLst), .pv (.lst [.str [121]])]).bind retPV).bind fun r3 =>
                    (bif (Sh.bool).fits r3 then
                      some (.pv (.bool r3.toBool), [])
                    else none)
                else none)
            else some (.pv (.bool false), [])
          else none)
      else some (.pv (.bool false), [])
    else none) :=
  (V_eq pa rfl _).trans (f14  V (LV Pr T 14))
/-! 25 roadstead/excerpt.Without -/
theorem f25 (p_Name : List UInt8) (p_Version : Int) (p_Uses : List PV) (p_Datas : List PV) (p_Traits : List PV) (p_Impls : List PV) (p_Funcs : List PV) (p_Actors : List PV) (k : Int) (cl_ : FuncId → List Arg → Option Out) (lp_ : List Nat → AS → Option Out) : runW Pr T cl_ lp_ 25 [.pv (.agg [.str p_Name, .int .i64 p_Version, .lst p_Uses, .lst p_Datas, .lst p_Traits, .lst p_Impls, .lst p_Funcs, .lst p_Actors]), .pv (.int .i64 k)] =
  bif decide (k < (0 : Int)) then
    some (.pv (.tup [.agg [.str [], .int .i64 0, .lst [], .lst [], .lst [], .lst [], .lst [], .lst []], .int .i64 4]), [])
  else ((cl_ 58 [.pv (.agg [.str p_Name, .int .i64 p_Version, .lst p_Uses, .lst p_Datas, .lst p_Traits, .lst p_Impls, .lst p_Funcs, .lst p_Actors])]).bind retPV).bind fun r =>
    (bif (Sh.int .i64).fits r then
      bif decide (k ≥ (r.toInt)) then
        some (.pv (.tup [.agg [.str [], .int .i64 0, .lst [], .lst [], .lst [], .lst [], .lst [], .lst []], .int .i64 4]), [])
      else ((cl_ 59 [.pv (.lst p_Uses), .pv (.int .i64 k)]).bind retPV).bind fun r1 =>
        (bif (Sh.tup [Sh.lst, Sh.int .i64]).fits r1 then
          ((cl_ 60 [.pv (.lst p_Datas), .pv (.int .i64 ((r1.r 1).toInt))]).bind retPV).bind fun r2 =>
            (bif (Sh.tup [Sh.lst, Sh.int .i64]).fits r2 then
              ((cl_ 61 [.pv (.lst p_Traits), .pv (.int .i64 ((r2.r 1).toInt))]).bind retPV).bind fun r3 =>
                (bif (Sh.tup [Sh.lst, Sh.int .i64]).fits r3 then
                  ((cl_ 62 [.pv (.lst p_Impls), .pv (.int .i64 ((r3.r 1).toInt))]).bind retPV).bind fun r4 =>
                    (bif (Sh.tup [Sh.lst, Sh.int .i64]).fits r4 then
                      ((cl_ 63 [.pv (.lst p_Funcs), .pv (.int .i64 ((r4.r 1).toInt))]).bind retPV).bind fun r5 =>
                        (bif (Sh.tup [Sh.lst, Sh.int .i64]).fits r5 then
                          ((cl_ 64 [.pv (.lst p_Actors), .pv (.int .i64 ((r5.r 1).toInt))]).bind retPV).bind fun r6 =>
                            (bif (Sh.tup [Sh.lst, Sh.int .i64]).fits r6 then
                              some (.pv (.tup [.agg [.str p_Name, .int .i64 p_Version, .lst ((r1.r 0).toLst), .lst ((r2.r 0).toLst), .lst ((r3.r 0).toLst), .lst ((r4.r 0).toLst), .lst ((r5.r 0).toLst), .lst ((r6.r 0).toLst)], .int .i64 0]), [])
                            else none)
                        else none)
                    else none)
                else none)
            else none)
        else none)
    else none) := by kernel_rfl
theorem e25 (p_Name : List UInt8) (p_Version : Int) (p_Uses : List PV) (p_Datas : List PV) (p_Traits : List PV) (p_Impls : List PV) (p_Funcs : List PV) (p_Actors : List PV) (k : Int) : V 25 [.pv (.agg [.str p_Name, .int .i64 p_Version, .lst p_Uses, .lst p_Datas, .lst p_Traits, .lst p_Impls, .lst p_Funcs, .lst p_Actors]), .pv (.int .i64 k)] =
  bif decide (k < (0 : Int)) then
    some (.pv (.tup [.agg [.str [], .int .i64 0, .lst [], .lst [], .lst [], .lst [], .lst [], .lst []], .int .i64 4]), [])
  else ((V 58 [.pv (.agg [.str p_Name, .int .i64 p_Version, .lst p_Uses, .lst p_Datas, .lst p_Traits, .lst p_Impls, .lst p_Funcs, .lst p_Actors])]).bind retPV).bind fun r =>
    (bif (Sh.int .i64).fits r then
      bif decide (k ≥ (r.toInt)) then
        some (.pv (.tup [.agg [.str [], .int .i64 0, .lst [], .lst [], .lst [], .lst [], .lst [], .lst []], .int .i64 4]), [])
      else ((V 59 [.pv (.lst p_Uses), .pv (.int .i64 k)]).bind retPV).bind fun r1 =>
        (bif (Sh.tup [Sh.lst, Sh.int .i64]).fits r1 then
          ((V 60 [.pv (.lst p_Datas), .pv (.int .i64 ((r1.r 1).toInt))]).bind retPV).bind fun r2 =>
            (bif (Sh.tup [Sh.lst, Sh.int .i64]).fits r2 then
              ((V 61 [.pv (.lst p_Traits), .pv (.int .i64 ((r2.r 1).toInt))]).bind retPV).bind fun r3 =>
                (bif (Sh.tup [Sh.lst, Sh.int .i64]).fits r3 then
                  ((V 62 [.pv (.lst p_Impls), .pv (.int .i64 ((r3.r 1).toInt))]).bind retPV).bind fun r4 =>
                    (bif (Sh.tup [Sh.lst, Sh.int .i64]).fits r4 then
                      ((V 63 [.pv (.lst p_Funcs), .pv (.int .i64 ((r4.r 1).toInt))]).bind retPV).bind fun r5 =>
                        (bif (Sh.tup [Sh.lst, Sh.int .i64]).fits r5 then
                          ((V 64 [.pv (.lst p_Actors), .pv (.int .i64 ((r5.r 1).toInt))]).bind retPV).bind fun r6 =>
                            (bif (Sh.tup [Sh.lst, Sh.int .i64]).fits r6 then
                              some (.pv (.tup [.agg [.str p_Name, .int .i64 p_Version, .lst ((r1.r 0).toLst), .lst ((r2.r 0).toLst), .lst ((r3.r 0).toLst), .lst ((r4.r 0).toLst), .lst ((r5.r 0).toLst), .lst ((r6.r 0).toLst)], .int .i64 0]), [])
                            else none)
                        else none)
                    else none)
                else none)
            else none)
        else none)
    else none) :=
  (V_eq pa rfl _).trans (f25 p_Name p_Version p_Uses p_Datas p_Traits p_Impls p_Funcs p_Actors k V (LV Pr T 25))
/-! 26 roadstead/tree.Right -/
def st26_1014 (p_Uses : List PV) (p_Datas : List PV) (p_Traits : List PV) (p_Impls : List PV) (p_Funcs : List PV) (p_Actors : List PV) (i : Int) (p_Name : List UInt8) (p_Version : Int) : AS :=
  ⟨[.any, .box 0 0, .any, .any, .any, .any, .any, .any, .any, .any, .any, .any, .any, .any, .any, .any, .any, .any, .any, .any, .any, .any, .any, .any, .any, .any, .any, .any, .any, .any, .any, .any, .any, .any, .any, .pv (.lst [.int .i64 (p_Uses.length : Int), .int .i64 (p_Datas.length : Int), .int .i64 (p_Traits.length : Int), .int .i64 (p_Impls.length : Int), .int .i64 (p_Funcs.length : Int), .int .i64 (p_Actors.length : Int)]), .pv (.int .i64 6), .pv (.int .i64 i), .any, .any, .any, .any, .any, .any, .any, .any, .any, .any, .any, .any, .any, .any, .any, .any, .any, .any, .any, .any, .any, .any, .any, .any, .any, .any, .any, .any, .any, .any, .any, .any, .any, .any, .any, .any, .any, .any, .any, .any, .any, .any, .any, .any, .any, .any, .any, .any, .any, .any, .any, .any, .any, .any, .any, .any, .any, .any, .any, .any, .any, .any, .any, .any, .any, .any, .any, .any, .any, .any, .any, .any, .any, .any, .any, .any, .any, .any, .any, .any, .any, .any, .any, .any, .any, .any, .any, .any, .any, .any, .any, .any, .any], ⟨[(false, [.pv (.str p_Name), .pv (.int .i64 p_Version), .pv (.lst p_Uses), .pv (.lst p_Datas), .pv (.lst p_Traits), .pv (.lst p_Impls), .pv (.lst p_Funcs), .pv (.lst p_Actors)])], [], [], 0, 0⟩⟩
noncomputable def L26_1014 (p_Uses : List PV) (p_Datas : List PV) (p_Traits : List PV) (p_Impls : List PV) (p_Funcs : List PV) (p_Actors : List PV) (i : Int) (p_Name : List UInt8) (p_Version : Int) : Option Out := LV Pr T 26 [1, 0, 1, 4] (st26_1014 p_Uses p_Datas p_Traits p_Impls p_Funcs p_Actors i p_Name p_Version)
def st26_111014 (p_Uses : List PV) (i : Int) (p_Name : List UInt8) (p_Version : Int) (p_Datas : List PV) (p_Traits : List PV) (p_Impls : List PV) (p_Funcs : List PV) (p_Actors : List PV) : AS :=
  ⟨[.any, .box 0 0, .any, .any, .any, .any, .any, .any, .any, .any, .any, .any, .any, .any, .any, .any, .any, .any, .any, .any, .any, .any, .any, .any, .any, .any, .any, .any, .any, .any, .any, .any, .any, .any, .any, .any, .any, .any, .any, .any, .any, .any, .any, .any, .any, .any, .any, .any, .any, .any, .any, .any, .any, .any, .any, .any, .any, .any, .any, .pv (.lst p_Uses), .pv (.int .i64 (p_Uses.length : Int)), .pv (.int .i64 i), .any, .any, .any, .any, .any, .any, .any, .any, .any, .any, .any, .any, .any, .any, .any, .any, .any, .any, .any, .any, .any, .any, .any, .any, .any, .any, .any, .any, .any, .any, .any, .any, .any, .any, .any, .any, .any, .any, .any, .any, .any, .any, .any, .any, .any, .any, .any, .any, .any, .any, .any, .any, .any, .any, .any, .any, .any, .any, .any, .any, .any, .any, .any, .any, .any, .any, .any, .any, .any], ⟨[(false, [.pv (.str p_Name), .pv (.int .i64 p_Version), .pv (.lst p_Uses), .pv (.lst p_Datas), .pv (.lst p_Traits), .pv (.lst p_Impls), .pv (.lst p_Funcs), .pv (.lst p_Actors)])], [], [], 0, 0⟩⟩
noncomputable def L26_111014 (p_Uses : List PV) (i : Int) (p_Name : List UInt8) (p_Version : Int) (p_Datas : List PV) (p_Traits : List PV) (p_Impls : List PV) (p_Funcs : List PV) (p_Actors : List PV) : Option Out := LV Pr T 26 [1, 1, 1, 0, 1, 4] (st26_111014 p_Uses i p_Name p_Version p_Datas p_Traits p_Impls p_Funcs p_Actors)
def st26_1111014 (p_Datas : List PV) (i : Int) (p_Name : List UInt8) (p_Version : Int) (p_Uses : List PV) (p_Traits : List PV) (p_Impls : List PV) (p_Funcs : List PV) (p_Actors : List PV) : AS :=
  ⟨[.any, .box 0 0, .any, .any, .any, .any, .any, .any, .any, .any, .any, .any, .any, .any, .any, .any, .any, .any, .any, .any, .any, .any, .any, .any, .any, .any, .any, .any, .any, .any, .any, .any, .any, .any, .any, .any, .any, .any, .any, .any, .any, .any, .any, .any, .any, .any, .any, .any, .any, .any, .any, .any, .any, .any, .any, .any, .any, .any, .any, .any, .any, .any, .any, .any, .any, .any, .any, .any, .any, .any, .any, .any, .any, .any, .any, .any, .any, .any, .any, .any, .any, .any, .any, .any, .any, .any, .any, .any, .pv (.lst p_Datas), .pv (.int .i64 (p_Datas.length : Int)), .pv (.int .i64 i), .any, .any, .any, .any, .any, .any, .any, .any, .any, .any, .any, .any, .any, .any, .any, .any, .any, .any, .any, .any, .any, .any, .any, .any, .any, .any, .any, .any, .any, .any, .any, .any, .any, .any, .any, .any, .any, .any, .any, .any], ⟨[(false, [.pv (.str p_Name), .pv (.int .i64 p_Version), .pv (.lst p_Uses), .pv (.lst p_Datas), .pv (.lst p_Traits), .pv (.lst p_Impls), .pv (.lst p_Funcs), .pv (.lst p_Actors)])], [], [], 0, 0⟩⟩
noncomputable def L26_1111014 (p_Datas : List PV) (i : Int) (p_Name : List UInt8) (p_Version : Int) (p_Uses : List PV) (p_Traits : List PV) (p_Impls : List PV) (p_Funcs : List PV) (p_Actors : List PV) : Option Out := LV Pr T 26 [1, 1, 1, 1, 0, 1, 4] (st26_1111014 p_Datas i p_Name p_Version p_Uses p_Traits p_Impls p_Funcs p_Actors)
def st26_111111014 (p_Funcs : List PV) (i : Int) (p_Name : List UInt8) (p_Version : Int) (p_Uses : List PV) (p_Datas : List PV) (p_Traits : List PV) (p_Impls : List PV) (p_Actors : List PV) : AS :=
  ⟨[.any, .box 0 0, .any, .any, .any, .any, .any, .any, .any, .any, .any, .any, .any, .any, .any, .any, .any, .any, .any, .any, .any, .any, .any, .any, .any, .any, .any, .any, .any, .any, .any, .any, .any, .any, .any, .any, .any, .any, .any, .any, .any, .any, .any, .any, .any, .any, .any, .any, .any, .any, .any, .any, .any, .any, .any, .any, .any, .any, .any, .any, .any, .any, .any, .any, .any, .any, .any, .any, .any, .any, .any, .any, .any, .any, .any, .any, .any, .any, .any, .any, .any, .any, .any, .any, .any, .any, .any, .any, .any, .any, .any, .any, .any, .any, .any, .any, .any, .any, .any, .any, .any, .any, .any, .any, .any, .any, .pv (.lst p_Funcs), .pv (.int .i64 (p_Funcs.length : Int)), .pv (.int .i64 i), .any, .any, .any, .any, .any, .any, .any, .any, .any, .any, .any, .any, .any, .any, .any, .any, .any, .any, .any, .any, .any, .any], ⟨[(false, [.pv (.str p_Name), .pv (.int .i64 p_Version), .pv (.lst p_Uses), .pv (.lst p_Datas), .pv (.lst p_Traits), .pv (.lst p_Impls), .pv (.lst p_Funcs), .pv (.lst p_Actors)])], [], [], 0, 0⟩⟩
noncomputable def L26_111111014 (p_Funcs : List PV) (i : Int) (p_Name : List UInt8) (p_Version : Int) (p_Uses : List PV) (p_Datas : List PV) (p_Traits : List PV) (p_Impls : List PV) (p_Actors : List PV) : Option Out := LV Pr T 26 [1, 1, 1, 1, 1, 1, 0, 1, 4] (st26_111111014 p_Funcs i p_Name p_Version p_Uses p_Datas p_Traits p_Impls p_Actors)
def st26_1111111014 (p_Actors : List PV) (i : Int) : AS :=
  ⟨[.any, .any, .any, .any, .any, .any, .any, .any, .any, .any, .any, .any, .any, .any, .any, .any, .any, .any, .any, .any, .any, .any, .any, .any, .any, .any, .any, .any, .any, .any, .any, .any, .any, .any, .any, .any, .any, .any, .any, .any, .any, .any, .any, .any, .any, .any, .any, .any, .any, .any, .any, .any, .any, .any, .any, .any, .any, .any, .any, .any, .any, .any, .any, .any, .any, .any, .any, .any, .any, .any, .any, .any, .any, .any, .any, .any, .any, .any, .any, .any, .any, .any, .any, .any, .any, .any, .any, .any, .any, .any, .any, .any, .any, .any, .any, .any, .any, .any, .any, .any, .any, .any, .any, .any, .any, .any, .any, .any, .any, .any, .any, .any, .any, .any, .any, .any, .any, .any, .any, .pv (.lst p_Actors), .pv (.int .i64 (p_Actors.length : Int)), .pv (.int .i64 i), .any, .any, .any, .any, .any, .any, .any, .any, .any], ⟨[], [], [], 0, 0⟩⟩
noncomputable def L26_1111111014 (p_Actors : List PV) (i : Int) : Option Out := LV Pr T 26 [1, 1, 1, 1, 1, 1, 1, 0, 1, 4] (st26_1111111014 p_Actors i)
theorem f26 (p_Name : List UInt8) (p_Version : Int) (p_Uses : List PV) (p_Datas : List PV) (p_Traits : List PV) (p_Impls : List PV) (p_Funcs : List PV) (p_Actors : List PV) (cl_ : FuncId → List Arg → Option Out) (lp_ : List Nat → AS → Option Out) : runW Pr T cl_ lp_ 26 [.pv (.agg [.str p_Name, .int .i64 p_Version, .lst p_Uses, .lst p_Datas, .lst p_Traits, .lst p_Impls, .lst p_Funcs, .lst p_Actors])] =
  lp_ [1, 0, 1, 4] (st26_1014 p_Uses p_Datas p_Traits p_Impls p_Funcs p_Actors 0 p_Name p_Version) := by kernel_rfl
theorem e26 (p_Name : List UInt8) (p_Version : Int) (p_Uses : List PV) (p_Datas : List PV) (p_Traits : List PV) (p_Impls : List PV) (p_Funcs : List PV) (p_Actors : List PV) : V 26 [.pv (.agg [.str p_Name, .int .i64 p_Version, .lst p_Uses, .lst p_Datas, .lst p_Traits, .lst p_Impls, .lst p_Funcs, .lst p_Actors])] =
  L26_1014 p_Uses p_Datas p_Traits p_Impls p_Funcs p_Actors 0 p_Name p_Version :=
  (V_eq pa rfl _).trans (f26 p_Name p_Version p_Uses p_Datas p_Traits p_Impls p_Funcs p_Actors V (LV Pr T 26))
theorem f26_1014 (p_Uses : List PV) (p_Datas : List PV) (p_Traits : List PV) (p_Impls : List PV) (p_Funcs : List PV) (p_Actors : List PV) (i : Int) (p_Name : List UInt8) (p_Version : Int) (cl_ : FuncId → List Arg → Option Out) (lp_ : List Nat → AS → Option Out) : stepW Pr T cl_ lp_ 26 [1, 0, 1, 4] (st26_1014 p_Uses p_Datas p_Traits p_Impls p_Funcs p_Actors i p_Name p_Version) =
  bif decide (i < (6 : Int)) then
    bif decide (0 ≤ i) then
      (([.int .i64 (p_Uses.length : Int), .int .i64 (p_Datas.length : Int), .int .i64 (p_Traits.length : Int), .int .i64 (p_Impls.length : Int), .int .i64 (p_Funcs.length : Int), .int .i64 (p_Actors.length : Int)] : List PV)[i.toNat]?).bind fun x =>
        (bif (Sh.int .i64).fits x then
          bif decide ((x.toInt) > (40 : Int)) then
            some (.pv (.int .i64 2), [])
          else lp_ [1, 0, 1, 4] (st26_1014 p_Uses p_Datas p_Traits p_Impls p_Funcs p_Actors (IntKind.i64.wrap (i + (1 : Int))) p_Name p_Version)
        else none)
    else none
  else ((cl_ 65 [.pv (.str p_Name)]).bind retPV).bind fun r =>
    (bif (Sh.bool).fits r then
      bif (!r.toBool) then
        some (.pv (.int .i64 3), [])
      else bif decide (p_Version < (0 : Int)) then
        some (.pv (.int .i64 3), [])
      else bif decide (p_Version > (1000000 : Int)) then
        some (.pv (.int .i64 3), [])
      else lp_ [1, 1, 1, 0, 1, 4] (st26_111014 p_Uses 0 p_Name p_Version p_Datas p_Traits p_Impls p_Funcs p_Actors)
    else none) := by kernel_rfl
theorem e26_1014 (p_Uses : List PV) (p_Datas : List PV) (p_Traits : List PV) (p_Impls : List PV) (p_Funcs : List PV) (p_Actors : List PV) (i : Int) (p_Name : List UInt8) (p_Version : Int) : L26_1014 p_Uses p_Datas p_Traits p_Impls p_Funcs p_Actors i p_Name p_Version =
  bif decide (i < (6 : Int)) then
    bif decide (0 ≤ i) then
      (([.int .i64 (p_Uses.length : Int), .int .i64 (p_Datas.length : Int), .int .i64 (p_Traits.length : Int), .int .i64 (p_Impls.length : Int), .int .i64 (p_Funcs.length : Int), .int .i64 (p_Actors.length : Int)] : List PV)[i.toNat]?).bind fun x =>
        (bif (Sh.int .i64).fits x then
          bif decide ((x.toInt) > (40 : Int)) then
            some (.pv (.int .i64 2), [])
          else L26_1014 p_Uses p_Datas p_Traits p_Impls p_Funcs p_Actors (IntKind.i64.wrap (i + (1 : Int))) p_Name p_Version
        else none)
    else none
  else ((V 65 [.pv (.str p_Name)]).bind retPV).bind fun r =>
    (bif (Sh.bool).fits r then
      bif (!r.toBool) then
        some (.pv (.int .i64 3), [])
      else bif decide (p_Version < (0 : Int)) then
        some (.pv (.int .i64 3), [])
      else bif decide (p_Version > (1000000 : Int)) then
        some (.pv (.int .i64 3), [])
      else L26_111014 p_Uses 0 p_Name p_Version p_Datas p_Traits p_Impls p_Funcs p_Actors
    else none) :=
  (LV_eq pa 26 _ _).trans (f26_1014 p_Uses p_Datas p_Traits p_Impls p_Funcs p_Actors i p_Name p_Version V (LV Pr T 26))
theorem f26_111014 (p_Uses : List PV) (i : Int) (p_Name : List UInt8) (p_Version : Int) (p_Datas : List PV) (p_Traits : List PV) (p_Impls : List PV) (p_Funcs : List PV) (p_Actors : List PV) (cl_ : FuncId → List Arg → Option Out) (lp_ : List Nat → AS → Option Out) : stepW Pr T cl_ lp_ 26 [1, 1, 1, 0, 1, 4] (st26_111014 p_Uses i p_Name p_Version p_Datas p_Traits p_Impls p_Funcs p_Actors) =
  bif decide (i < (p_Uses.length : Int)) then
    bif decide (0 ≤ i) then
      (p_Uses[i.toNat]?).bind fun x =>
        (bif (Sh.agg [Sh.str, Sh.int .i64, Sh.int .i64]).fits x then
          ((cl_ 65 [.pv (.str ((x.c 0).toStr))]).bind retPV).bind fun r =>
            (bif (Sh.bool).fits r then
              bif (!r.toBool) then
                some (.pv (.int .i64 3), [])
              else bif decide (((x.c 1).toInt) < (0 : Int)) then
                some (.pv (.int .i64 3), [])
              else bif decide (((x.c 1).toInt) > ((x.c 2).toInt)) then
                some (.pv (.int .i64 3), [])
              else bif decide (((x.c 2).toInt) > (1000000 : Int)) then
                some (.pv (.int .i64 3), [])
              else lp_ [1, 1, 1, 0, 1, 4] (st26_111014 p_Uses (IntKind.i64.wrap (i + (1 : Int))) p_Name p_Version p_Datas p_Traits p_Impls p_Funcs p_Actors)
            else none)
        else none)
    else none
  else lp_ [1, 1, 1, 1, 0, 1, 4] (st26_1111014 p_Datas 0 p_Name p_Version p_Uses p_Traits p_Impls p_Funcs p_Actors) := by kernel_rfl
theorem e26_111014 (p_Uses : List PV) (i : Int) (p_Name : List UInt8) (p_Version : Int) (p_Datas : List PV) (p_Traits : List PV) (p_Impls : List PV) (p_Funcs : List PV) (p_Actors : List PV) : L26_111014 p_Uses i p_Name p_Version p_Datas p_Traits p_Impls p_Funcs p_Actors =
  bif decide (i < (p_Uses.length : Int)) then
    bif decide (0 ≤ i) then
      (p_Uses[i.toNat]?).bind fun x =>
        (bif (Sh.agg [Sh.str, Sh.int .i64, Sh.int .i64]).fits x then
          ((V 65 [.pv (.str ((x.c 0).toStr))]).bind retPV).bind fun r =>
            (bif (Sh.bool).fits r then
              bif (!r.toBool) then
                some (.pv (.int .i64 3), [])
              else bif decide (((x.c 1).toInt) < (0 : Int)) then
                some (.pv (.int .i64 3), [])
              else bif decide (((x.c 1).toInt) > ((x.c 2).toInt)) then
                some (.pv (.int .i64 3), [])
              else bif decide (((x.c 2).toInt) > (1000000 : Int)) then
                some (.pv (.int .i64 3), [])
              else L26_111014 p_Uses (IntKind.i64.wrap (i + (1 : Int))) p_Name p_Version p_Datas p_Traits p_Impls p_Funcs p_Actors
            else none)
        else none)
    else none
  else L26_1111014 p_Datas 0 p_Name p_Version p_Uses p_Traits p_Impls p_Funcs p_Actors :=
  (LV_eq pa 26 _ _).trans (f26_111014 p_Uses i p_Name p_Version p_Datas p_Traits p_Impls p_Funcs p_Actors V (LV Pr T 26))
theorem f26_1111014 (p_Datas : List PV) (i : Int) (p_Name : List UInt8) (p_Version : Int) (p_Uses : List PV) (p_Traits : List PV) (p_Impls : List PV) (p_Funcs : List PV) (p_Actors : List PV) (cl_ : FuncId → List Arg → Option Out) (lp_ : List Nat → AS → Option Out) : stepW Pr T cl_ lp_ 26 [1, 1, 1, 1, 0, 1, 4] (st26_1111014 p_Datas i p_Name p_Version p_Uses p_Traits p_Impls p_Funcs p_Actors) =
  bif decide (i < (p_Datas.length : Int)) then
    bif decide (0 ≤ i) then
      (p_Datas[i.toNat]?).bind fun x =>
        (bif (Sh.agg [Sh.str, Sh.lst, Sh.lst]).fits x then
          ((cl_ 66 [.pv (.agg [.str ((x.c 0).toStr), .lst ((x.c 1).toLst), .lst ((x.c 2).toLst)])]).bind retPV).bind fun r =>
            (bif (Sh.int .i64).fits r then
              bif ((r.toInt) != (0 : Int)) then
                some (.pv (.int .i64 r.toInt), [])
              else lp_ [1, 1, 1, 1, 0, 1, 4] (st26_1111014 p_Datas (IntKind.i64.wrap (i + (1 : Int))) p_Name p_Version p_Uses p_Traits p_Impls p_Funcs p_Actors)
            else none)
        else none)
    else none
  else ((cl_ 67 [.pv (.agg [.str p_Name, .int .i64 p_Version, .lst p_Uses, .lst p_Datas, .lst p_Traits, .lst p_Impls, .lst p_Funcs, .lst p_Actors])]).bind retPV).bind fun r1 =>
    (bif (Sh.int .i64).fits r1 then
      bif ((r1.toInt) != (0 : Int)) then
        some (.pv (.int .i64 r1.toInt), [])
      else lp_ [1, 1, 1, 1, 1, 1, 0, 1, 4] (st26_111111014 p_Funcs 0 p_Name p_Version p_Uses p_Datas p_Traits p_Impls p_Actors)
    else none) := by kernel_rfl
theorem e26_1111014 (p_Datas : List PV) (i : Int) (p_Name : List UInt8) (p_Version : Int) (p_Uses : List PV) (p_Traits : List PV) (p_Impls : List PV) (p_Funcs : List PV) (p_Actors : List PV) : L26_1111014 p_Datas i p_Name p_Version p_Uses p_Traits p_Impls p_Funcs p_Actors =
  bif decide (i < (p_Datas.length : Int)) then
    bif decide (0 ≤ i) then
      (p_Datas[i.toNat]?).bind fun x =>
        (bif (Sh.agg [Sh.str, Sh.lst, Sh.lst]).fits x then
          ((V 66 [.pv (.agg [.str ((x.c 0).toStr), .lst ((x.c 1).toLst), .lst ((x.c 2).toLst)])]).bind retPV).bind fun r =>
            (bif (Sh.int .i64).fits r then
              bif ((r.toInt) != (0 : Int)) then
                some (.pv (.int .i64 r.toInt), [])
              else L26_1111014 p_Datas (IntKind.i64.wrap (i + (1 : Int))) p_Name p_Version p_Uses p_Traits p_Impls p_Funcs p_Actors
            else none)
        else none)
    else none
  else ((V 67 [.pv (.agg [.str p_Name, .int .i64 p_Version, .lst p_Uses, .lst p_Datas, .lst p_Traits, .lst p_Impls, .lst p_Funcs, .lst p_Actors])]).bind retPV).bind fun r1 =>
    (bif (Sh.int .i64).fits r1 then
      bif ((r1.toInt) != (0 : Int)) then
        some (.pv (.int .i64 r1.toInt), [])
      else L26_111111014 p_Funcs 0 p_Name p_Version p_Uses p_Datas p_Traits p_Impls p_Actors
    else none) :=
  (LV_eq pa 26 _ _).trans (f26_1111014 p_Datas i p_Name p_Version p_Uses p_Traits p_Impls p_Funcs p_Actors V (LV Pr T 26))
theorem f26_111111014 (p_Funcs : List PV) (i : Int) (p_Name : List UInt8) (p_Version : Int) (p_Uses : List PV) (p_Datas : List PV) (p_Traits : List PV) (p_Impls : List PV) (p_Actors : List PV) (cl_ : FuncId → List Arg → Option Out) (lp_ : List Nat → AS → Option Out) : stepW Pr T cl_ lp_ 26 [1, 1, 1, 1, 1, 1, 0, 1, 4] (st26_111111014 p_Funcs i p_Name p_Version p_Uses p_Datas p_Traits p_Impls p_Actors) =
  bif decide (i < (p_Funcs.length : Int)) then
    bif decide (0 ≤ i) then
      (p_Funcs[i.toNat]?).bind fun x =>
        (bif (Sh.agg [Sh.str, Sh.lst, Sh.lst, Sh.lst, Sh.int .i64, Sh.str, Sh.lst, Sh.int .i64, Sh.int .i64, Sh.str, Sh.lst, Sh.lst, Sh.lst, Sh.lst, Sh.int .i64]).fits x then
          ((cl_ 68 [.pv (.agg [.str ((x.c 0).toStr), .lst ((x.c 1).toLst), .lst ((x.c 2).toLst), .lst ((x.c 3).toLst), .int .i64 ((x.c 4).toInt), .str ((x.c 5).toStr), .lst ((x.c 6).toLst), .int .i64 ((x.c 7).toInt), .int .i64 ((x.c 8).toInt), .str ((x.c 9).toStr), .lst ((x.c 10).toLst), .lst ((x.c 11).toLst), .lst ((x.c 12).toLst), .lst ((x.c 13).toLst), .int .i64 ((x.c 14).toInt)]), .pv (.bool true)]).bind retPV).bind fun r =>
            (bif (Sh.int .i64).fits r then
              bif ((r.toInt) != (0 : Int)) then
                some (.pv (.int .i64 r.toInt), [])
              else lp_ [1, 1, 1, 1, 1, 1, 0, 1, 4] (st26_111111014 p_Funcs (IntKind.i64.wrap (i + (1 : Int))) p_Name p_Version p_Uses p_Datas p_Traits p_Impls p_Actors)
            else none)
        else none)
    else none
  else lp_ [1, 1, 1, 1, 1, 1, 1, 0, 1, 4] (st26_1111111014 p_Actors 0) := by kernel_rfl
theorem e26_111111014 (p_Funcs : List PV) (i : Int) (p_Name : List UInt8) (p_Version : Int) (p_Uses : List PV) (p_Datas : List PV) (p_Traits : List PV) (p_Impls : List PV) (p_Actors : List PV) : L26_111111014 p_Funcs i p_Name p_Version p_Uses p_Datas p_Traits p_Impls p_Actors =
  bif decide (i < (p_Funcs.length : Int)) then
    bif decide (0 ≤ i) then
      (p_Funcs[i.toNat]?).bind fun x =>
        (bif (Sh.agg [Sh.str, Sh.lst, Sh.lst, Sh.lst, Sh.int .i64, Sh.str, Sh.lst, Sh.int .i64, Sh.int .i64, Sh.str, Sh.lst, Sh.lst, Sh.lst, Sh.lst, Sh.int .i64]).fits x then
          ((V 68 [.pv (.agg [.str ((x.c 0).toStr), .lst ((x.c 1).toLst), .lst ((x.c 2).toLst), .lst ((x.c 3).toLst), .int .i64 ((x.c 4).toInt), .str ((x.c 5).toStr), .lst ((x.c 6).toLst), .int .i64 ((x.c 7).toInt), .int .i64 ((x.c 8).toInt), .str ((x.c 9).toStr), .lst ((x.c 10).toLst), .lst ((x.c 11).toLst), .lst ((x.c 12).toLst), .lst ((x.c 13).toLst), .int .i64 ((x.c 14).toInt)]), .pv (.bool true)]).bind retPV).bind fun r =>
            (bif (Sh.int .i64).fits r then
              bif ((r.toInt) != (0 : Int)) then
                some (.pv (.int .i64 r.toInt), [])
              else L26_111111014 p_Funcs (IntKind.i64.wrap (i + (1 : Int))) p_Name p_Version p_Uses p_Datas p_Traits p_Impls p_Actors
            else none)
        else none)
    else none
  else L26_1111111014 p_Actors 0 :=
  (LV_eq pa 26 _ _).trans (f26_111111014 p_Funcs i p_Name p_Version p_Uses p_Datas p_Traits p_Impls p_Actors V (LV Pr T 26))
theorem f26_1111111014 (p_Actors : List PV) (i : Int) (cl_ : FuncId → List Arg → Option Out) (lp_ : List Nat → AS → Option Out) : stepW Pr T cl_ lp_ 26 [1, 1, 1, 1, 1, 1, 1, 0, 1, 4] (st26_1111111014 p_Actors i) =
  bif decide (i < (p_Actors.length : Int)) then
    bif decide (0 ≤ i) then
      (p_Actors[i.toNat]?).bind fun x =>
        (bif (Sh.agg [Sh.str, Sh.lst, Sh.lst, Sh.int .i64, Sh.str, Sh.lst, Sh.int .i64, Sh.int .i64, Sh.str, Sh.lst, Sh.lst, Sh.lst, Sh.lst, Sh.int .i64]).fits x then
          ((cl_ 69 [.pv (.agg [.str ((x.c 0).toStr), .lst ((x.c 1).toLst), .lst ((x.c 2).toLst), .int .i64 ((x.c 3).toInt), .str ((x.c 4).toStr), .lst ((x.c 5).toLst), .int .i64 ((x.c 6).toInt), .int .i64 ((x.c 7).toInt), .str ((x.c 8).toStr), .lst ((x.c 9).toLst), .lst ((x.c 10).toLst), .lst ((x.c 11).toLst), .lst ((x.c 12).toLst), .int .i64 ((x.c 13).toInt)])]).bind retPV).bind fun r =>
            (bif (Sh.int .i64).fits r then
              bif ((r.toInt) != (0 : Int)) then
                some (.pv (.int .i64 r.toInt), [])
              else lp_ [1, 1, 1, 1, 1, 1, 1, 0, 1, 4] (st26_1111111014 p_Actors (IntKind.i64.wrap (i + (1 : Int))))
            else none)
        else none)
    else none
  else some (.pv (.int .i64 0), []) := by kernel_rfl
theorem e26_1111111014 (p_Actors : List PV) (i : Int) : L26_1111111014 p_Actors i =
  bif decide (i < (p_Actors.length : Int)) then
    bif decide (0 ≤ i) then
      (p_Actors[i.toNat]?).bind fun x =>
        (bif (Sh.agg [Sh.str, Sh.lst, Sh.lst, Sh.int .i64, Sh.str, Sh.lst, Sh.int .i64, Sh.int .i64, Sh.str, Sh.lst, Sh.lst, Sh.lst, Sh.lst, Sh.int .i64]).fits x then
          ((V 69 [.pv (.agg [.str ((x.c 0).toStr), .lst ((x.c 1).toLst), .lst ((x.c 2).toLst), .int .i64 ((x.c 3).toInt), .str ((x.c 4).toStr), .lst ((x.c 5).toLst), .int .i64 ((x.c 6).toInt), .int .i64 ((x.c 7).toInt), .str ((x.c 8).toStr), .lst ((x.c 9).toLst), .lst ((x.c 10).toLst), .lst ((x.c 11).toLst), .lst ((x.c 12).toLst), .int .i64 ((x.c 13).toInt)])]).bind retPV).bind fun r =>
            (bif (Sh.int .i64).fits r then
              bif ((r.toInt) != (0 : Int)) then
                some (.pv (.int .i64 r.toInt), [])
              else L26_1111111014 p_Actors (IntKind.i64.wrap (i + (1 : Int)))
            else none)
        else none)
    else none
  else some (.pv (.int .i64 0), []) :=
  (LV_eq pa 26 _ _).trans (f26_1111111014 p_Actors i V (LV Pr T 26))
/-! 38 roadstead/tree.Size -/
def st38_11014 (i : Int) (e_Args : List PV) (i1 : Int) (e_Kind : Int) (e_Num : Int) (e_Text : List UInt8) (e_Names : List PV) (e_Types : List PV) (e_Arms : List PV) (e_At : Int) : AS :=
  ⟨[.any, .box 0 0, .any, .pv (.int .i64 i), .any, .any, .any, .any, .any, .pv (.lst e_Args), .pv (.int .i64 (e_Args.length : Int)), .pv (.int .i64 i1), .any, .any, .any, .any, .any, .any, .any, .any, .any, .any, .any, .any, .any, .any, .any, .any, .any, .any, .any, .any, .any, .any, .any, .any, .any, .any], ⟨[(false, [.pv (.int .i64 e_Kind), .pv (.int .i64 e_Num), .pv (.str e_Text), .pv (.lst e_Names), .pv (.lst e_Types), .pv (.lst e_Args), .pv (.lst e_Arms), .pv (.int .i64 e_At)])], [], [], 0, 0⟩⟩
noncomputable def L38_11014 (i : Int) (e_Args : List PV) (i1 : Int) (e_Kind : Int) (e_Num : Int) (e_Text : List UInt8) (e_Names : List PV) (e_Types : List PV) (e_Arms : List PV) (e_At : Int) : Option Out := LV Pr T 38 [1, 1, 0, 1, 4] (st38_11014 i e_Args i1 e_Kind e_Num e_Text e_Names e_Types e_Arms e_At)
def st38_111014 (i1 : Int) (e_Arms : List PV) (i : Int) : AS :=
  ⟨[.any, .any, .any, .pv (.int .i64 i1), .any, .any, .any, .any, .any, .any, .any, .any, .any, .any, .any, .any, .any, .any, .any, .any, .any, .pv (.lst e_Arms), .pv (.int .i64 (e_Arms.length : Int)), .pv (.int .i64 i), .any, .any, .any, .any, .any, .any, .any, .any, .any, .any, .any, .any, .any, .any], ⟨[], [], [], 0, 0⟩⟩
noncomputable def L38_111014 (i1 : Int) (e_Arms : List PV) (i : Int) : Option Out := LV Pr T 38 [1, 1, 1, 0, 1, 4] (st38_111014 i1 e_Arms i)
theorem f38 (e_Kind : Int) (e_Num : Int) (e_Text : List UInt8) (e_Names : List PV) (e_Types : List PV) (e_Args : List PV) (e_Arms : List PV) (e_At : Int) (cl_ : FuncId → List Arg → Option Out) (lp_ : List Nat → AS → Option Out) : runW Pr T cl_ lp_ 38 [.pv (.agg [.int .i64 e_Kind, .int .i64 e_Num, .str e_Text, .lst e_Names, .lst e_Types, .lst e_Args, .lst e_Arms, .int .i64 e_At])] =
  lp_ [1, 1, 0, 1, 4] (st38_11014 1 e_Args 0 e_Kind e_Num e_Text e_Names e_Types e_Arms e_At) := by kernel_rfl
theorem e38 (e_Kind : Int) (e_Num : Int) (e_Text : List UInt8) (e_Names : List PV) (e_Types : List PV) (e_Args : List PV) (e_Arms : List PV) (e_At : Int) : V 38 [.pv (.agg [.int .i64 e_Kind, .int .i64 e_Num, .str e_Text, .lst e_Names, .lst e_Types, .lst e_Args, .lst e_Arms, .int .i64 e_At])] =
  L38_11014 1 e_Args 0 e_Kind e_Num e_Text e_Names e_Types e_Arms e_At :=
  (V_eq pa rfl _).trans (f38 e_Kind e_Num e_Text e_Names e_Types e_Args e_Arms e_At V (LV Pr T 38))
theorem f38_11014 (i : Int) (e_Args : List PV) (i1 : Int) (e_Kind : Int) (e_Num : Int) (e_Text : List UInt8) (e_Names : List PV) (e_Types : List PV) (e_Arms : List PV) (e_At : Int) (cl_ : FuncId → List Arg → Option Out) (lp_ : List Nat → AS → Option Out) : stepW Pr T cl_ lp_ 38 [1, 1, 0, 1, 4] (st38_11014 i e_Args i1 e_Kind e_Num e_Text e_Names e_Types e_Arms e_At) =
  bif decide (i1 < (e_Args.length : Int)) then
    bif decide (0 ≤ i1) then
      (e_Args[i1.toNat]?).bind fun x =>
        (bif (Sh.agg [Sh.int .i64, Sh.int .i64, Sh.str, Sh.lst, Sh.lst, Sh.lst, Sh.lst, Sh.int .i64]).fits x then
          ((cl_ 38 [.pv (.agg [.int .i64 ((x.c 0).toInt), .int .i64 ((x.c 1).toInt), .str ((x.c 2).toStr), .lst ((x.c 3).toLst), .lst ((x.c 4).toLst), .lst ((x.c 5).toLst), .lst ((x.c 6).toLst), .int .i64 ((x.c 7).toInt)])]).bind retPV).bind fun r =>
            (bif (Sh.int .i64).fits r then
              lp_ [1, 1, 0, 1, 4] (st38_11014 (IntKind.i64.wrap (i + (r.toInt))) e_Args (IntKind.i64.wrap (i1 + (1 : Int))) e_Kind e_Num e_Text e_Names e_Types e_Arms e_At)
            else none)
        else none)
    else none
  else lp_ [1, 1, 1, 0, 1, 4] (st38_111014 i e_Arms 0) := by kernel_rfl
theorem e38_11014 (i : Int) (e_Args : List PV) (i1 : Int) (e_Kind : Int) (e_Num : Int) (e_Text : List UInt8) (e_Names : List PV) (e_Types : List PV) (e_Arms : List PV) (e_At : Int) : L38_11014 i e_Args i1 e_Kind e_Num e_Text e_Names e_Types e_Arms e_At =
  bif decide (i1 < (e_Args.length : Int)) then
    bif decide (0 ≤ i1) then
      (e_Args[i1.toNat]?).bind fun x =>
        (bif (Sh.agg [Sh.int .i64, Sh.int .i64, Sh.str, Sh.lst, Sh.lst, Sh.lst, Sh.lst, Sh.int .i64]).fits x then
          ((V 38 [.pv (.agg [.int .i64 ((x.c 0).toInt), .int .i64 ((x.c 1).toInt), .str ((x.c 2).toStr), .lst ((x.c 3).toLst), .lst ((x.c 4).toLst), .lst ((x.c 5).toLst), .lst ((x.c 6).toLst), .int .i64 ((x.c 7).toInt)])]).bind retPV).bind fun r =>
            (bif (Sh.int .i64).fits r then
              L38_11014 (IntKind.i64.wrap (i + (r.toInt))) e_Args (IntKind.i64.wrap (i1 + (1 : Int))) e_Kind e_Num e_Text e_Names e_Types e_Arms e_At
            else none)
        else none)
    else none
  else L38_111014 i e_Arms 0 :=
  (LV_eq pa 38 _ _).trans (f38_11014 i e_Args i1 e_Kind e_Num e_Text e_Names e_Types e_Arms e_At V (LV Pr T 38))
theorem f38_111014 (i1 : Int) (e_Arms : List PV) (i : Int) (cl_ : FuncId → List Arg → Option Out) (lp_ : List Nat → AS → Option Out) : stepW Pr T cl_ lp_ 38 [1, 1, 1, 0, 1, 4] (st38_111014 i1 e_Arms i) =
  bif decide (i < (e_Arms.length : Int)) then
    bif decide (0 ≤ i) then
      (e_Arms[i.toNat]?).bind fun x =>
        (bif (Sh.agg [Sh.int .i64, Sh.int .i64, Sh.str, Sh.lst, Sh.int .i64, Sh.int .i64, Sh.str, Sh.lst, Sh.lst, Sh.lst, Sh.lst, Sh.int .i64]).fits x then
          ((cl_ 38 [.pv (.agg [.int .i64 ((x.c 4).toInt), .int .i64 ((x.c 5).toInt), .str ((x.c 6).toStr), .lst ((x.c 7).toLst), .lst ((x.c 8).toLst), .lst ((x.c 9).toLst), .lst ((x.c 10).toLst), .int .i64 ((x.c 11).toInt)])]).bind retPV).bind fun r =>
            (bif (Sh.int .i64).fits r then
              ((cl_ 75 [.pv (.agg [.int .i64 ((x.c 0).toInt), .int .i64 ((x.c 1).toInt), .str ((x.c 2).toStr), .lst ((x.c 3).toLst)])]).bind retPV).bind fun r1 =>
                (bif (Sh.int .i64).fits r1 then
                  lp_ [1, 1, 1, 0, 1, 4] (st38_111014 (IntKind.i64.wrap (i1 + (IntKind.i64.wrap ((r.toInt) + (r1.toInt))))) e_Arms (IntKind.i64.wrap (i + (1 : Int))))
                else none)
            else none)
        else none)
    else none
  else some (.pv (.int .i64 i1), []) := by kernel_rfl
theorem e38_111014 (i1 : Int) (e_Arms : List PV) (i : Int) : L38_111014 i1 e_Arms i =
  bif decide (i < (e_Arms.length : Int)) then
    bif decide (0 ≤ i) then
      (e_Arms[i.toNat]?).bind fun x =>
        (bif (Sh.agg [Sh.int .i64, Sh.int .i64, Sh.str, Sh.lst, Sh.int .i64, Sh.int .i64, Sh.str, Sh.lst, Sh.lst, Sh.lst, Sh.lst, Sh.int .i64]).fits x then
          ((V 38 [.pv (.agg [.int .i64 ((x.c 4).toInt), .int .i64 ((x.c 5).toInt), .str ((x.c 6).toStr), .lst ((x.c 7).toLst), .lst ((x.c 8).toLst), .lst ((x.c 9).toLst), .lst ((x.c 10).toLst), .int .i64 ((x.c 11).toInt)])]).bind retPV).bind fun r =>
            (bif (Sh.int .i64).fits r then
              ((V 75 [.pv (.agg [.int .i64 ((x.c 0).toInt), .int .i64 ((x.c 1).toInt), .str ((x.c 2).toStr), .lst ((x.c 3).toLst)])]).bind retPV).bind fun r1 =>
                (bif (Sh.int .i64).fits r1 then
                  L38_111014 (IntKind.i64.wrap (i1 + (IntKind.i64.wrap ((r.toInt) + (r1.toInt))))) e_Arms (IntKind.i64.wrap (i + (1 : Int)))
                else none)
            else none)
        else none)
    else none
  else some (.pv (.int .i64 i1), []) :=
  (LV_eq pa 38 _ _).trans (f38_111014 i1 e_Arms i V (LV Pr T 38))
/-! 39 roadstead/tree.Walk -/
def st39_11014 (l : List PV) (v : List PV) (i : Int) : AS :=
  ⟨[.any, .any, .any, .bld 0 0 l, .any, .any, .any, .any, .any, .pv (.lst v), .pv (.int .i64 (v.length : Int)), .pv (.int .i64 i), .any, .any, .any, .any, .any, .any, .any, .any, .any], ⟨[], [], [(0, 8)], 0, 0⟩⟩
noncomputable def L39_11014 (l : List PV) (v : List PV) (i : Int) : Option Out := LV Pr T 39 [1, 1, 0, 1, 4] (st39_11014 l v i)
theorem f39 (e_Kind : Int) (e_Num : Int) (e_Text : List UInt8) (e_Names : List PV) (e_Types : List PV) (e_Args : List PV) (e_Arms : List PV) (e_At : Int) (cl_ : FuncId → List Arg → Option Out) (lp_ : List Nat → AS → Option Out) : runW Pr T cl_ lp_ 39 [.pv (.agg [.int .i64 e_Kind, .int .i64 e_Num, .str e_Text, .lst e_Names, .lst e_Types, .lst e_Args, .lst e_Arms, .int .i64 e_At])] =
  ((cl_ 76 [.pv (.agg [.int .i64 e_Kind, .int .i64 e_Num, .str e_Text, .lst e_Names, .lst e_Types, .lst e_Args, .lst e_Arms, .int .i64 e_At])]).bind retPV).bind fun r =>
    (bif (Sh.lst).fits r then
      lp_ [1, 1, 0, 1, 4] (st39_11014 [.agg [.int .i64 e_Kind, .int .i64 e_Num, .str e_Text, .lst e_Names, .lst e_Types, .lst e_Args, .lst e_Arms, .int .i64 e_At]] r.toLst 0)
    else none) := by kernel_rfl
theorem e39 (e_Kind : Int) (e_Num : Int) (e_Text : List UInt8) (e_Names : List PV) (e_Types : List PV) (e_Args : List PV) (e_Arms : List PV) (e_At : Int) : V 39 [.pv (.agg [.int .i64 e_Kind, .int .i64 e_Num, .str e_Text, .lst e_Names, .lst e_Types, .lst e_Args, .lst e_Arms, .int .i64 e_At])] =
  ((V 76 [.pv (.agg [.int .i64 e_Kind, .int .i64 e_Num, .str e_Text, .lst e_Names, .lst e_Types, .lst e_Args, .lst e_Arms, .int .i64 e_At])]).bind retPV).bind fun r =>
    (bif (Sh.lst).fits r then
      L39_11014 [.agg [.int .i64 e_Kind, .int .i64 e_Num, .str e_Text, .lst e_Names, .lst e_Types, .lst e_Args, .lst e_Arms, .int .i64 e_At]] r.toLst 0
    else none) :=
  (V_eq pa rfl _).trans (f39 e_Kind e_Num e_Text e_Names e_Types e_Args e_Arms e_At V (LV Pr T 39))
theorem f39_11014 (l : List PV) (v : List PV) (i : Int) (cl_ : FuncId → List Arg → Option Out) (lp_ : List Nat → AS → Option Out) : stepW Pr T cl_ lp_ 39 [1, 1, 0, 1, 4] (st39_11014 l v i) =
  bif decide (i < (v.length : Int)) then
    bif decide (0 ≤ i) then
      (v[i.toNat]?).bind fun x =>
        (bif (Sh.agg [Sh.int .i64, Sh.int .i64, Sh.str, Sh.lst, Sh.lst, Sh.lst, Sh.lst, Sh.int .i64]).fits x then
          ((cl_ 39 [.pv (.agg [.int .i64 ((x.c 0).toInt), .int .i64 ((x.c 1).toInt), .str ((x.c 2).toStr), .lst ((x.c 3).toLst), .lst ((x.c 4).toLst), .lst ((x.c 5).toLst), .lst ((x.c 6).toLst), .int .i64 ((x.c 7).toInt)])]).bind retPV).bind fun r =>
            (bif (Sh.lst).fits r then
              bif headOk 8 r.toLst then
                bif small (l.length) (r.toLst.length) 136 then
                  lp_ [1, 1, 0, 1, 4] (st39_11014 (l ++ r.toLst) v (IntKind.i64.wrap (i + (1 : Int))))
                else none
              else none
            else none)
        else none)
    else none
  else some (.bld 8 l, []) := by kernel_rfl
theorem e39_11014 (l : List PV) (v : List PV) (i : Int) : L39_11014 l v i =
  bif decide (i < (v.length : Int)) then
    bif decide (0 ≤ i) then
      (v[i.toNat]?).bind fun x =>
        (bif (Sh.agg [Sh.int .i64, Sh.int .i64, Sh.str, Sh.lst, Sh.lst, Sh.lst, Sh.lst, Sh.int .i64]).fits x then
          ((V 39 [.pv (.agg [.int .i64 ((x.c 0).toInt), .int .i64 ((x.c 1).toInt), .str ((x.c 2).toStr), .lst ((x.c 3).toLst), .lst ((x.c 4).toLst), .lst ((x.c 5).toLst), .lst ((x.c 6).toLst), .int .i64 ((x.c 7).toInt)])]).bind retPV).bind fun r =>
            (bif (Sh.lst).fits r then
              bif headOk 8 r.toLst then
                bif small (l.length) (r.toLst.length) 136 then
                  L39_11014 (l ++ r.toLst) v (IntKind.i64.wrap (i + (1 : Int)))
                else none
              else none
            else none)
        else none)
    else none
  else some (.bld 8 l, []) :=
  (LV_eq pa 39 _ _).trans (f39_11014 l v i V (LV Pr T 39))
/-! 40 slices.Equal[[]string,string] -/
def st40_11014 (s1 : List PV) (s2 : List PV) (i : Int) : AS :=
  ⟨[.pv (.lst s1), .pv (.lst s2), .any, .any, .any, .any, .any, .any, .any, .any, .any, .any, .pv (.int .i64 (s1.length : Int)), .pv (.int .i64 i), .any, .any, .any, .any, .any, .any, .any, .any, .any, .any, .any, .any], ⟨[], [], [], 0, 0⟩⟩
noncomputable def L40_11014 (s1 : List PV) (s2 : List PV) (i : Int) : Option Out := LV Pr T 40 [1, 1, 0, 1, 4] (st40_11014 s1 s2 i)
theorem f40 (s1 : List PV) (s2 : List PV) (cl_ : FuncId → List Arg → Option Out) (lp_ : List Nat → AS → Option Out) : runW Pr T cl_ lp_ 40 [.pv (.lst s1), .pv (.lst s2)] =
  bif ((s1.length : Int) != (s2.length : Int)) then
    some (.pv (.bool false), [])
  else lp_ [1, 1, 0, 1, 4] (st40_11014 s1 s2 0) := by kernel_rfl
theorem e40 (s1 : List PV) (s2 : List PV) : V 40 [.pv (.lst s1), .pv (.lst s2)] =
  bif ((s1.length : Int) != (s2.length : Int)) then
    some (.pv (.bool false), [])
  else L40_11014 s1 s2 0 :=
  (V_eq pa rfl _).trans (f40 s1 s2 V (LV Pr T 40))
theorem f40_11014 (s1 : List PV) (s2 : List PV) (i : Int) (cl_ : FuncId → List Arg → Option Out) (lp_ : List Nat → AS → Option Out) : stepW Pr T cl_ lp_ 40 [1, 1, 0, 1, 4] (st40_11014 s1 s2 i) =
  bif decide (i < (s1.length : Int)) then
    bif decide (0 ≤ i) then
      (s1[i.toNat]?).bind fun x =>
        (bif (Sh.str).fits x then
          bif decide (0 ≤ i) then
            (s2[i.toNat]?).bind fun x1 =>
              (bif (Sh.str).fits x1 then
                bif (!(x.toStr == x1.toStr)) then
                  some (.pv (.bool false), [])
                else lp_ [1, 1, 0, 1, 4] (st40_11014 s1 s2 (IntKind.i64.wrap (i + (1 : Int))))
              else none)
          else none
        else none)
    else none
  else some (.pv (.bool true), []) := by kernel_rfl
theorem e40_11014 (s1 : List PV) (s2 : List PV) (i : Int) : L40_11014 s1 s2 i =
  bif decide (i < (s1.length : Int)) then
    bif decide (0 ≤ i) then
      (s1[i.toNat]?).bind fun x =>
        (bif (Sh.str).fits x then
          bif decide (0 ≤ i) then
            (s2[i.toNat]?).bind fun x1 =>
              (bif (Sh.str).fits x1 then
                bif (!(x.toStr == x1.toStr)) then
                  some (.pv (.bool false), [])
                else L40_11014 s1 s2 (IntKind.i64.wrap (i + (1 : Int)))
              else none)
          else none
        else none)
    else none
  else some (.pv (.bool true), []) :=
  (LV_eq pa 40 _ _).trans (f40_11014 s1 s2 i V (LV Pr T 40))
/-! 41 roadstead/tree.Free -/
theorem f41 (e_Kind : Int) (e_Num : Int) (e_Text : List UInt8) (e_Names : List PV) (e_Types : List PV) (e_Args : List PV) (e_Arms : List PV) (e_At : Int) (cl_ : FuncId → List Arg → Option Out) (lp_ : List Nat → AS → Option Out) : runW Pr T cl_ lp_ 41 [.pv (.agg [.int .i64 e_Kind, .int .i64 e_Num, .str e_Text, .lst e_Names, .lst e_Types, .lst e_Args, .lst e_Arms, .int .i64 e_At])] =
  (cl_ 77 [.pv (.agg [.int .i64 e_Kind, .int .i64 e_Num, .str e_Text, .lst e_Names, .lst e_Types, .lst e_Args, .lst e_Arms, .int .i64 e_At]), .pv (.lst []), .bld 1 []]).bind fun r =>
    ((retB 1 r).bind fun l =>
      (some (.bld 1 l, []))) := by kernel_rfl
theorem e41 (e_Kind : Int) (e_Num : Int) (e_Text : List UInt8) (e_Names : List PV) (e_Types : List PV) (e_Args : List PV) (e_Arms : List PV) (e_At : Int) : V 41 [.pv (.agg [.int .i64 e_Kind, .int .i64 e_Num, .str e_Text, .lst e_Names, .lst e_Types, .lst e_Args, .lst e_Arms, .int .i64 e_At])] =
  (V 77 [.pv (.agg [.int .i64 e_Kind, .int .i64 e_Num, .str e_Text, .lst e_Names, .lst e_Types, .lst e_Args, .lst e_Arms, .int .i64 e_At]), .pv (.lst []), .bld 1 []]).bind fun r =>
    ((retB 1 r).bind fun l =>
      (some (.bld 1 l, []))) :=
  (V_eq pa rfl _).trans (f41 e_Kind e_Num e_Text e_Names e_Types e_Args e_Arms e_At V (LV Pr T 41))
/-! 58 roadstead/excerpt.Parts -/
theorem f58 (p_Name : List UInt8) (p_Version : Int) (p_Uses : List PV) (p_Datas : List PV) (p_Traits : List PV) (p_Impls : List PV) (p_Funcs : List PV) (p_Actors : List PV) (cl_ : FuncId → List Arg → Option Out) (lp_ : List Nat → AS → Option Out) : runW Pr T cl_ lp_ 58 [.pv (.agg [.str p_Name, .int .i64 p_Version, .lst p_Uses, .lst p_Datas, .lst p_Traits, .lst p_Impls, .lst p_Funcs, .lst p_Actors])] =
  some (.pv (.int .i64 (IntKind.i64.wrap ((IntKind.i64.wrap ((IntKind.i64.wrap ((IntKind.i64.wrap ((IntKind.i64.wrap ((p_Uses.length : Int) + (p_Datas.length : Int))) + (p_Traits.length : Int))) + (p_Impls.length : Int))) + (p_Funcs.length : Int))) + (p_Actors.length : Int)))), []) := by kernel_rfl
theorem e58 (p_Name : List UInt8) (p_Version : Int) (p_Uses : List PV) (p_Datas : List PV) (p_Traits : List PV) (p_Impls : List PV) (p_Funcs : List PV) (p_Actors : List PV) : V 58 [.pv (.agg [.str p_Name, .int .i64 p_Version, .lst p_Uses, .lst p_Datas, .lst p_Traits, .lst p_Impls, .lst p_Funcs, .lst p_Actors])] =
  some (.pv (.int .i64 (IntKind.i64.wrap ((IntKind.i64.wrap ((IntKind.i64.wrap ((IntKind.i64.wrap ((IntKind.i64.wrap ((p_Uses.length : Int) + (p_Datas.length : Int))) + (p_Traits.length : Int))) + (p_Impls.length : Int))) + (p_Funcs.length : Int))) + (p_Actors.length : Int)))), []) :=
  (V_eq pa rfl _).trans (f58 p_Name p_Version p_Uses p_Datas p_Traits p_Impls p_Funcs p_Actors V (LV Pr T 58))
/-! 59 roadstead/excerpt.out[roadstead/api.Use] -/
def st59_1016 (l : List PV) (k : Int) (b : Bool) : AS :=
  ⟨[.pv (.lst l), .pv (.int .i64 k), .any, .any, .any, .any, .any, .any, .any, .any, .any, .any, .any, .pv (.bool b), .any, .any, .any, .any, .any, .any, .any, .any, .any, .any, .any, .any, .any, .any, .any], ⟨[], [], [], 0, 0⟩⟩
noncomputable def L59_1016 (l : List PV) (k : Int) (b : Bool) : Option Out := LV Pr T 59 [1, 0, 1, 6] (st59_1016 l k b)
theorem f59 (l : List PV) (k : Int) (cl_ : FuncId → List Arg → Option Out) (lp_ : List Nat → AS → Option Out) : runW Pr T cl_ lp_ 59 [.pv (.lst l), .pv (.int .i64 k)] =
  bif decide (k ≥ (0 : Int)) then
    lp_ [1, 0, 1, 6] (st59_1016 l k (decide (k < (l.length : Int))))
  else lp_ [1, 0, 1, 6] (st59_1016 l k false) := by kernel_rfl
theorem e59 (l : List PV) (k : Int) : V 59 [.pv (.lst l), .pv (.int .i64 k)] =
  bif decide (k ≥ (0 : Int)) then
    L59_1016 l k (decide (k < (l.length : Int)))
  else L59_1016 l k false :=
  (V_eq pa rfl _).trans (f59 l k V (LV Pr T 59))
theorem f59_1016 (l : List PV) (k : Int) (b : Bool) (cl_ : FuncId → List Arg → Option Out) (lp_ : List Nat → AS → Option Out) : stepW Pr T cl_ lp_ 59 [1, 0, 1, 6] (st59_1016 l k b) =
  bif b then
    (cl_ 91 [.pv (.lst l)]).bind fun r =>
      ((retV 3 r).bind fun l1 =>
        ((cl_ 90 [.vec 3 l1, .pv (.int .i64 k), .pv (.int .i64 (IntKind.i64.wrap (k + (1 : Int))))]).bind fun r1 =>
          (bif refFits [] [0] r1.2 then
            (retW r1).bind fun q =>
              (bif (Nat.ble q.1 q.2 && Nat.ble q.2 (Out.v r1 0).length) then
                some (.pv (.tup [.lst (((Out.v r1 0).take q.2).drop q.1), .int .i64 (-1)]), [])
              else none)
          else none)))
  else bif decide (k < (0 : Int)) then
    some (.pv (.tup [.lst l, .int .i64 k]), [])
  else some (.pv (.tup [.lst l, .int .i64 (IntKind.i64.wrap (k - (l.length : Int)))]), []) := by kernel_rfl
theorem e59_1016 (l : List PV) (k : Int) (b : Bool) : L59_1016 l k b =
  bif b then
    (V 91 [.pv (.lst l)]).bind fun r =>
      ((retV 3 r).bind fun l1 =>
        ((V 90 [.vec 3 l1, .pv (.int .i64 k), .pv (.int .i64 (IntKind.i64.wrap (k + (1 : Int))))]).bind fun r1 =>
          (bif refFits [] [0] r1.2 then
            (retW r1).bind fun q =>
              (bif (Nat.ble q.1 q.2 && Nat.ble q.2 (Out.v r1 0).length) then
                some (.pv (.tup [.lst (((Out.v r1 0).take q.2).drop q.1), .int .i64 (-1)]), [])
              else none)
          else none)))
  else bif decide (k < (0 : Int)) then
    some (.pv (.tup [.lst l, .int .i64 k]), [])
  else some (.pv (.tup [.lst l, .int .i64 (IntKind.i64.wrap (k - (l.length : Int)))]), []) :=
  (LV_eq pa 59 _ _).trans (f59_1016 l k b V (LV Pr T 59))
/-! 60 roadstead/excerpt.out[roadstead/api.Data] -/
def st60_1016 (l : List PV) (k : Int) (b : Bool) : AS :=
  ⟨[.pv (.lst l), .pv (.int .i64 k), .any, .any, .any, .any, .any, .any, .any, .any, .any, .any, .any, .pv (.bool b), .any, .any, .any, .any, .any, .any, .any, .any, .any, .any, .any, .any, .any, .any, .any], ⟨[], [], [], 0, 0⟩⟩
noncomputable def L60_1016 (l : List PV) (k : Int) (b : Bool) : Option Out := LV Pr T 60 [1, 0, 1, 6] (st60_1016 l k b)
theorem f60 (l : List PV) (k : Int) (cl_ : FuncId → List Arg → Option Out) (lp_ : List Nat → AS → Option Out) : runW Pr T cl_ lp_ 60 [.pv (.lst l), .pv (.int .i64 k)] =
  bif decide (k ≥ (0 : Int)) then
    lp_ [1, 0, 1, 6] (st60_1016 l k (decide (k < (l.length : Int))))
  else lp_ [1, 0, 1, 6] (st60_1016 l k false) := by kernel_rfl
theorem e60 (l : List PV) (k : Int) : V 60 [.pv (.lst l), .pv (.int .i64 k)] =
  bif decide (k ≥ (0 : Int)) then
    L60_1016 l k (decide (k < (l.length : Int)))
  else L60_1016 l k false :=
  (V_eq pa rfl _).trans (f60 l k V (LV Pr T 60))
theorem f60_1016 (l : List PV) (k : Int) (b : Bool) (cl_ : FuncId → List Arg → Option Out) (lp_ : List Nat → AS → Option Out) : stepW Pr T cl_ lp_ 60 [1, 0, 1, 6] (st60_1016 l k b) =
  bif b then
    (cl_ 93 [.pv (.lst l)]).bind fun r =>
      ((retV 3 r).bind fun l1 =>
        ((cl_ 92 [.vec 3 l1, .pv (.int .i64 k), .pv (.int .i64 (IntKind.i64.wrap (k + (1 : Int))))]).bind fun r1 =>
          (bif refFits [] [0] r1.2 then
            (retW r1).bind fun q =>
              (bif (Nat.ble q.1 q.2 && Nat.ble q.2 (Out.v r1 0).length) then
                some (.pv (.tup [.lst (((Out.v r1 0).take q.2).drop q.1), .int .i64 (-1)]), [])
              else none)
          else none)))
  else bif decide (k < (0 : Int)) then
    some (.pv (.tup [.lst l, .int .i64 k]), [])
  else some (.pv (.tup [.lst l, .int .i64 (IntKind.i64.wrap (k - (l.length : Int)))]), []) := by kernel_rfl
theorem e60_1016 (l : List PV) (k : Int) (b : Bool) : L60_1016 l k b =
  bif b then
    (V 93 [.pv (.lst l)]).bind fun r =>
      ((retV 3 r).bind fun l1 =>
        ((V 92 [.vec 3 l1, .pv (.int .i64 k), .pv (.int .i64 (IntKind.i64.wrap (k + (1 : Int))))]).bind fun r1 =>
          (bif refFits [] [0] r1.2 then
            (retW r1).bind fun q =>
              (bif (Nat.ble q.1 q.2 && Nat.ble q.2 (Out.v r1 0).length) then
                some (.pv (.tup [.lst (((Out.v r1 0).take q.2).drop q.1), .int .i64 (-1)]), [])
              else none)
          else none)))
  else bif decide (k < (0 : Int)) then
    some (.pv (.tup [.lst l, .int .i64 k]), [])
  else some (.pv (.tup [.lst l, .int .i64 (IntKind.i64.wrap (k - (l.length : Int)))]), []) :=
  (LV_eq pa 60 _ _).trans (f60_1016 l k b V (LV Pr T 60))
/-! 61 roadstead/excerpt.out[roadstead/api.Trait] -/
def st61_1016 (l : List PV) (k : Int) (b : Bool) : AS :=
  ⟨[.pv (.lst l), .pv (.int .i64 k), .any, .any, .any, .any, .any, .any, .any, .any, .any, .any, .any, .pv (.bool b), .any, .any, .any, .any, .any, .any, .any, .any, .any, .any, .any, .any, .any, .any, .any], ⟨[], [], [], 0, 0⟩⟩
noncomputable def L61_1016 (l : List PV) (k : Int) (b : Bool) : Option Out := LV Pr T 61 [1, 0, 1, 6] (st61_1016 l k b)
theorem f61 (l : List PV) (k : Int) (cl_ : FuncId → List Arg → Option Out) (lp_ : List Nat → AS → Option Out) : runW Pr T cl_ lp_ 61 [.pv (.lst l), .pv (.int .i64 k)] =
  bif decide (k ≥ (0 : Int)) then
    lp_ [1, 0, 1, 6] (st61_1016 l k (decide (k < (l.length : Int))))
  else lp_ [1, 0, 1, 6] (st61_1016 l k false) := by kernel_rfl
theorem e61 (l : List PV) (k : Int) : V 61 [.pv (.lst l), .pv (.int .i64 k)] =
  bif decide (k ≥ (0 : Int)) then
    L61_1016 l k (decide (k < (l.length : Int)))
  else L61_1016 l k false :=
  (V_eq pa rfl _).trans (f61 l k V (LV Pr T 61))
theorem f61_1016 (l : List PV) (k : Int) (b : Bool) (cl_ : FuncId → List Arg → Option Out) (lp_ : List Nat → AS → Option Out) : stepW Pr T cl_ lp_ 61 [1, 0, 1, 6] (st61_1016 l k b) =
  bif b then
    (cl_ 95 [.pv (.lst l)]).bind fun r =>
      ((retV 2 r).bind fun l1 =>
        ((cl_ 94 [.vec 2 l1, .pv (.int .i64 k), .pv (.int .i64 (IntKind.i64.wrap (k + (1 : Int))))]).bind fun r1 =>
          (bif refFits [] [0] r1.2 then
            (retW r1).bind fun q =>
              (bif (Nat.ble q.1 q.2 && Nat.ble q.2 (Out.v r1 0).length) then
                some (.pv (.tup [.lst (((Out.v r1 0).take q.2).drop q.1), .int .i64 (-1)]), [])
              else none)
          else none)))
  else bif decide (k < (0 : Int)) then
    some (.pv (.tup [.lst l, .int .i64 k]), [])
  else some (.pv (.tup [.lst l, .int .i64 (IntKind.i64.wrap (k - (l.length : Int)))]), []) := by kernel_rfl
theorem e61_1016 (l : List PV) (k : Int) (b : Bool) : L61_1016 l k b =
  bif b then
    (V 95 [.pv (.lst l)]).bind fun r =>
      ((retV 2 r).bind fun l1 =>
        ((V 94 [.vec 2 l1, .pv (.int .i64 k), .pv (.int .i64 (IntKind.i64.wrap (k + (1 : Int))))]).bind fun r1 =>
          (bif refFits [] [0] r1.2 then
            (retW r1).bind fun q =>
              (bif (Nat.ble q.1 q.2 && Nat.ble q.2 (Out.v r1 0).length) then
                some (.pv (.tup [.lst (((Out.v r1 0).take q.2).drop q.1), .int .i64 (-1)]), [])
              else none)
          else none)))
  else bif decide (k < (0 : Int)) then
    some (.pv (.tup [.lst l, .int .i64 k]), [])
  else some (.pv (.tup [.lst l, .int .i64 (IntKind.i64.wrap (k - (l.length : Int)))]), []) :=
  (LV_eq pa 61 _ _).trans (f61_1016 l k b V (LV Pr T 61))
/-! 62 roadstead/excerpt.out[roadstead/api.Impl] -/
def st62_1016 (l : List PV) (k : Int) (b : Bool) : AS :=
  ⟨[.pv (.lst l), .pv (.int .i64 k), .any, .any, .any, .any, .any, .any, .any, .any, .any, .any, .any, .pv (.bool b), .any, .any, .any, .any, .any, .any, .any, .any, .any, .any, .any, .any, .any, .any, .any], ⟨[], [], [], 0, 0⟩⟩
noncomputable def L62_1016 (l : List PV) (k : Int) (b : Bool) : Option Out := LV Pr T 62 [1, 0, 1, 6] (st62_1016 l k b)
theorem f62 (l : List PV) (k : Int) (cl_ : FuncId → List Arg → Option Out) (lp_ : List Nat → AS → Option Out) : runW Pr T cl_ lp_ 62 [.pv (.lst l), .pv (.int .i64 k)] =
  bif decide (k ≥ (0 : Int)) then
    lp_ [1, 0, 1, 6] (st62_1016 l k (decide (k < (l.length : Int))))
  else lp_ [1, 0, 1, 6] (st62_1016 l k false) := by kernel_rfl
theorem e62 (l : List PV) (k : Int) : V 62 [.pv (.lst l), .pv (.int .i64 k)] =
  bif decide (k ≥ (0 : Int)) then
    L62_1016 l k (decide (k < (l.length : Int)))
  else L62_1016 l k false :=
  (V_eq pa rfl _).trans (f62 l k V (LV Pr T 62))
theorem f62_1016 (l : List PV) (k : Int) (b : Bool) (cl_ : FuncId → List Arg → Option Out) (lp_ : List Nat → AS → Option Out) : stepW Pr T cl_ lp_ 62 [1, 0, 1, 6] (st62_1016 l k b) =
  bif b then
    (cl_ 97 [.pv (.lst l)]).bind fun r =>
      ((retV 3 r).bind fun l1 =>
        ((cl_ 96 [.vec 3 l1, .pv (.int .i64 k), .pv (.int .i64 (IntKind.i64.wrap (k + (1 : Int))))]).bind fun r1 =>
          (bif refFits [] [0] r1.2 then
            (retW r1).bind fun q =>
              (bif (Nat.ble q.1 q.2 && Nat.ble q.2 (Out.v r1 0).length) then
                some (.pv (.tup [.lst (((Out.v r1 0).take q.2).drop q.1), .int .i64 (-1)]), [])
              else none)
          else none)))
  else bif decide (k < (0 : Int)) then
    some (.pv (.tup [.lst l, .int .i64 k]), [])
  else some (.pv (.tup [.lst l, .int .i64 (IntKind.i64.wrap (k - (l.length : Int)))]), []) := by kernel_rfl
theorem e62_1016 (l : List PV) (k : Int) (b : Bool) : L62_1016 l k b =
  bif b then
    (V 97 [.pv (.lst l)]).bind fun r =>
      ((retV 3 r).bind fun l1 =>
        ((V 96 [.vec 3 l1, .pv (.int .i64 k), .pv (.int .i64 (IntKind.i64.wrap (k + (1 : Int))))]).bind fun r1 =>
          (bif refFits [] [0] r1.2 then
            (retW r1).bind fun q =>
              (bif (Nat.ble q.1 q.2 && Nat.ble q.2 (Out.v r1 0).length) then
                some (.pv (.tup [.lst (((Out.v r1 0).take q.2).drop q.1), .int .i64 (-1)]), [])
              else none)
          else none)))
  else bif decide (k < (0 : Int)) then
    some (.pv (.tup [.lst l, .int .i64 k]), [])
  else some (.pv (.tup [.lst l, .int .i64 (IntKind.i64.wrap (k - (l.length : Int)))]), []) :=
  (LV_eq pa 62 _ _).trans (f62_1016 l k b V (LV Pr T 62))
/-! 63 roadstead/excerpt.out[roadstead/api.Func] -/
def st63_1016 (l : List PV) (k : Int) (b : Bool) : AS :=
  ⟨[.pv (.lst l), .pv (.int .i64 k), .any, .any, .any, .any, .any, .any, .any, .any, .any, .any, .any, .pv (.bool b), .any, .any, .any, .any, .any, .any, .any, .any, .any, .any, .any, .any, .any, .any, .any], ⟨[], [], [], 0, 0⟩⟩
noncomputable def L63_1016 (l : List PV) (k : Int) (b : Bool) : Option Out := LV Pr T 63 [1, 0, 1, 6] (st63_1016 l k b)
theorem f63 (l : List PV) (k : Int) (cl_ : FuncId → List Arg → Option Out) (lp_ : List Nat → AS → Option Out) : runW Pr T cl_ lp_ 63 [.pv (.lst l), .pv (.int .i64 k)] =
  bif decide (k ≥ (0 : Int)) then
    lp_ [1, 0, 1, 6] (st63_1016 l k (decide (k < (l.length : Int))))
  else lp_ [1, 0, 1, 6] (st63_1016 l k false) := by kernel_rfl
theorem e63 (l : List PV) (k : Int) : V 63 [.pv (.lst l), .pv (.int .i64 k)] =
  bif decide (k ≥ (0 : Int)) then
    L63_1016 l k (decide (k < (l.length : Int)))
  else L63_1016 l k false :=
  (V_eq pa rfl _).trans (f63 l k V (LV Pr T 63))
theorem f63_1016 (l : List PV) (k : Int) (b : Bool) (cl_ : FuncId → List Arg → Option Out) (lp_ : List Nat → AS → Option Out) : stepW Pr T cl_ lp_ 63 [1, 0, 1, 6] (st63_1016 l k b) =
  bif b then
    (cl_ 99 [.pv (.lst l)]).bind fun r =>
      ((retV 15 r).bind fun l1 =>
        ((cl_ 98 [.vec 15 l1, .pv (.int .i64 k), .pv (.int .i64 (IntKind.i64.wrap (k + (1 : Int))))]).bind fun r1 =>
          (bif refFits [] [0] r1.2 then
            (retW r1).bind fun q =>
              (bif (Nat.ble q.1 q.2 && Nat.ble q.2 (Out.v r1 0).length) then
                some (.pv (.tup [.lst (((Out.v r1 0).take q.2).drop q.1), .int .i64 (-1)]), [])
              else none)
          else none)))
  else bif decide (k < (0 : Int)) then
    some (.pv (.tup [.lst l, .int .i64 k]), [])
  else some (.pv (.tup [.lst l, .int .i64 (IntKind.i64.wrap (k - (l.length : Int)))]), []) := by kernel_rfl
theorem e63_1016 (l : List PV) (k : Int) (b : Bool) : L63_1016 l k b =
  bif b then
    (V 99 [.pv (.lst l)]).bind fun r =>
      ((retV 15 r).bind fun l1 =>
        ((V 98 [.vec 15 l1, .pv (.int .i64 k), .pv (.int .i64 (IntKind.i64.wrap (k + (1 : Int))))]).bind fun r1 =>
          (bif refFits [] [0] r1.2 then
            (retW r1).bind fun q =>
              (bif (Nat.ble q.1 q.2 && Nat.ble q.2 (Out.v r1 0).length) then
                some (.pv (.tup [.lst (((Out.v r1 0).take q.2).drop q.1), .int .i64 (-1)]), [])
              else none)
          else none)))
  else bif decide (k < (0 : Int)) then
    some (.pv (.tup [.lst l, .int .i64 k]), [])
  else some (.pv (.tup [.lst l, .int .i64 (IntKind.i64.wrap (k - (l.length : Int)))]), []) :=
  (LV_eq pa 63 _ _).trans (f63_1016 l k b V (LV Pr T 63))
/-! 64 roadstead/excerpt.out[roadstead/api.Actor] -/
def st64_1016 (l : List PV) (k : Int) (b : Bool) : AS :=
  ⟨[.pv (.lst l), .pv (.int .i64 k), .any, .any, .any, .any, .any, .any, .any, .any, .any, .any, .any, .pv (.bool b), .any, .any, .any, .any, .any, .any, .any, .any, .any, .any, .any, .any, .any, .any, .any], ⟨[], [], [], 0, 0⟩⟩
noncomputable def L64_1016 (l : List PV) (k : Int) (b : Bool) : Option Out := LV Pr T 64 [1, 0, 1, 6] (st64_1016 l k b)
theorem f64 (l : List PV) (k : Int) (cl_ : FuncId → List Arg → Option Out) (lp_ : List Nat → AS → Option Out) : runW Pr T cl_ lp_ 64 [.pv (.lst l), .pv (.int .i64 k)] =
  bif decide (k ≥ (0 : Int)) then
    lp_ [1, 0, 1, 6] (st64_1016 l k (decide (k < (l.length : Int))))
  else lp_ [1, 0, 1, 6] (st64_1016 l k false) := by kernel_rfl
theorem e64 (l : List PV) (k : Int) : V 64 [.pv (.lst l), .pv (.int .i64 k)] =
  bif decide (k ≥ (0 : Int)) then
    L64_1016 l k (decide (k < (l.length : Int)))
  else L64_1016 l k false :=
  (V_eq pa rfl _).trans (f64 l k V (LV Pr T 64))
theorem f64_1016 (l : List PV) (k : Int) (b : Bool) (cl_ : FuncId → List Arg → Option Out) (lp_ : List Nat → AS → Option Out) : stepW Pr T cl_ lp_ 64 [1, 0, 1, 6] (st64_1016 l k b) =
  bif b then
    (cl_ 101 [.pv (.lst l)]).bind fun r =>
      ((retV 14 r).bind fun l1 =>
        ((cl_ 100 [.vec 14 l1, .pv (.int .i64 k), .pv (.int .i64 (IntKind.i64.wrap (k + (1 : Int))))]).bind fun r1 =>
          (bif refFits [] [0] r1.2 then
            (retW r1).bind fun q =>
              (bif (Nat.ble q.1 q.2 && Nat.ble q.2 (Out.v r1 0).length) then
                some (.pv (.tup [.lst (((Out.v r1 0).take q.2).drop q.1), .int .i64 (-1)]), [])
              else none)
          else none)))
  else bif decide (k < (0 : Int)) then
    some (.pv (.tup [.lst l, .int .i64 k]), [])
  else some (.pv (.tup [.lst l, .int .i64 (IntKind.i64.wrap (k - (l.length : Int)))]), []) := by kernel_rfl
theorem e64_1016 (l : List PV) (k : Int) (b : Bool) : L64_1016 l k b =
  bif b then
    (V 101 [.pv (.lst l)]).bind fun r =>
      ((retV 14 r).bind fun l1 =>
        ((V 100 [.vec 14 l1, .pv (.int .i64 k), .pv (.int .i64 (IntKind.i64.wrap (k + (1 : Int))))]).bind fun r1 =>
          (bif refFits [] [0] r1.2 then
            (retW r1).bind fun q =>
              (bif (Nat.ble q.1 q.2 && Nat.ble q.2 (Out.v r1 0).length) then
                some (.pv (.tup [.lst (((Out.v r1 0).take q.2).drop q.1), .int .i64 (-1)]), [])
              else none)
          else none)))
  else bif decide (k < (0 : Int)) then
    some (.pv (.tup [.lst l, .int .i64 k]), [])
  else some (.pv (.tup [.lst l, .int .i64 (IntKind.i64.wrap (k - (l.length : Int)))]), []) :=
  (LV_eq pa 64 _ _).trans (f64_1016 l k b V (LV Pr T 64))
end Go.AL.S6
