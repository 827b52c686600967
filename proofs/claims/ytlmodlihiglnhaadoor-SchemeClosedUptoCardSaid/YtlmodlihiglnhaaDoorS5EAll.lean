/- Equations of functions in the abstract machine: printed by gen.py. -/
import Derived.Test.YtlmodlihiglnhaaDoorS5T
set_option linter.unusedVariables false
set_option maxRecDepth 100000
namespace Go.AL.S5
open Go Go.AL
/-! 3 roadstead/roadkeep2.SchemeInstance -/
theorem f3 (s_Params : List PV) (s_Type_Kind : Int) (s_Type_Name : List UInt8) (s_Type_Args : List PV) (l : List PV) (cl_ : FuncId → List Arg → Option Out) (lp_ : List Nat → AS → Option Out) : runW Pr T cl_ lp_ 3 [.pv (.agg [.lst s_Params, .int .i64 s_Type_Kind, .str s_Type_Name, .lst s_Type_Args]), .pv (.lst l)] =
  ((cl_ 9 []).bind retPV).bind fun r =>
    (bif (Sh.bool).fits r then
      bif (!r.toBool) then
        some (.pv (.bool false), [])
      else ((cl_ 10 [.pv (.agg [.lst s_Params, .int .i64 s_Type_Kind, .str s_Type_Name, .lst s_Type_Args]), .pv (.lst l)]).bind retPV).bind fun r1 =>
        (bif (Sh.tup [Sh.agg [Sh.int .i64, Sh.str, Sh.lst], Sh.int .i64]).fits r1 then
          bif (((r1.r 1).toInt) != (0 : Int)) then
            some (.pv (.bool ((l.length : Int) != (s_Params.length : Int))), [])
          else ((cl_ 11 [.pv (.agg [.lst s_Params, .int .i64 s_Type_Kind, .str s_Type_Name, .lst s_Type_Args]), .pv (.agg [.int .i64 (((r1.r 0).c 0).toInt), .str (((r1.r 0).c 1).toStr), .lst (((r1.r 0).c 2).toLst)])]).bind retPV).bind fun r2 =>
            (bif (Sh.bool).fits r2 then
              some (.pv (.bool r2.toBool), [])
            else none)
        else none)
    else none) := by kernel_rfl
theorem e3 (s_Params : List PV) (s_Type_Kind : Int) (s_Type_Name : List UInt8) (s_Type_Args : List PV) (l : List PV) : V 3 [.pv (.agg [.lst s_Params, .int .i64 s_Type_Kind, .str s_Type_Name, .lst s_Type_Args]), .pv (.lst l)] =
  ((V 9 []).bind retPV).bind fun r =>
    (bif (Sh.bool).fits r then
      bif (!r.toBool) then
        some (.pv (.bool false), [])
      else ((V 10 [.pv (.agg [.lst s_Params, .int .i64 s_Type_Kind, .str s_Type_Name, .lst s_Type_Args]), .pv (.lst l)]).bind retPV).bind fun r1 =>
        (bif (Sh.tup [Sh.agg [Sh.int .i64, Sh.str, Sh.lst], Sh.int .i64]).fits r1 then
          bif (((r1.r 1).toInt) != (0 : Int)) then
            some (.pv (.bool ((l.length : Int) != (s_Params.length : Int))), [])
          else ((V 11 [.pv (.agg [.lst s_Params, .int .i64 s_Type_Kind, .str s_Type_Name, .lst s_Type_Args]), .pv (.agg [.int .i64 (((r1.r 0).c 0).toInt), .str (((r1.r 0).c 1).toStr), .lst (((r1.r 0).c 2).toLst)])]).bind retPV).bind fun r2 =>
            (bif (Sh.bool).fits r2 then
              some (.pv (.bool r2.toBool), [])
            else none)
        else none)
    else none) :=
  (V_eq pa rfl _).trans (f3 s_Params s_Type_Kind s_Type_Name s_Type_Args l V (LV Pr T 3))
/-! 4 roadstead/roadkeep2.SchemeClosed -/
def st4_111116 (t_Kind : Int) (t_Name : List UInt8) (t_Args : List PV) (v : List PV) (v1 : Int) (v2 : List UInt8) (v3 : List PV) (v4 : List PV) (v5 : Int) (v6 : List UInt8) (v7 : List PV) : AS :=
  ⟨[.any, .box 0 0, .any, .box 1 0, .box 7 0, .any, .any, .any, .any, .any, .any, .any, .any, .any, .any, .any, .any, .any, .any, .any, .any, .any, .any, .any, .any, .any, .any, .any, .any, .any, .any, .any, .any, .any, .any, .any, .any, .any, .any], ⟨[(false, [.pv (.int .i64 t_Kind), .pv (.str t_Name), .pv (.lst t_Args)]), (false, [.pv (.lst v), .pv (.int .i64 v1), .pv (.str v2), .pv (.lst v3)]), (true, []), (true, []), (true, []), (true, []), (true, []), (false, [.pv (.lst v4), .pv (.int .i64 v5), .pv (.str v6), .pv (.lst v7)])], [], [], 0, 0⟩⟩
noncomputable def L4_111116 (t_Kind : Int) (t_Name : List UInt8) (t_Args : List PV) (v : List PV) (v1 : Int) (v2 : List UInt8) (v3 : List PV) (v4 : List PV) (v5 : Int) (v6 : List UInt8) (v7 : List PV) : Option Out := LV Pr T 4 [1, 1, 1, 1, 1, 6] (st4_111116 t_Kind t_Name t_Args v v1 v2 v3 v4 v5 v6 v7)
theorem f4 (t_Kind : Int) (t_Name : List UInt8) (t_Args : List PV) (cl_ : FuncId → List Arg → Option Out) (lp_ : List Nat → AS → Option Out) : runW Pr T cl_ lp_ 4 [.pv (.agg [.int .i64 t_Kind, .str t_Name, .lst t_Args])] =
  ((cl_ 9 []).bind retPV).bind fun r =>
    (bif (Sh.bool).fits r then
      bif (!r.toBool) then
        some (.pv (.bool false), [])
      else ((cl_ 12 [.pv (.agg [.int .i64 t_Kind, .str t_Name, .lst t_Args])]).bind retPV).bind fun r1 =>
        (bif (Sh.bool).fits r1 then
          bif (!r1.toBool) then
            some (.pv (.bool true), [])
          else ((cl_ 13 [.pv (.lst []), .pv (.agg [.int .i64 t_Kind, .str t_Name, .lst t_Args])]).bind retPV).bind fun r2 =>
            (bif (Sh.agg [Sh.lst, Sh.int .i64, Sh.str, Sh.lst]).fits r2 then
              ((cl_ 14 [.pv (.agg [.int .i64 t_Kind, .str t_Name, .lst t_Args])]).bind retPV).bind fun r3 =>
                (bif (Sh.agg [Sh.lst, Sh.int .i64, Sh.str, Sh.lst]).fitsNil r3 then
                  ((cl_ 13 [.pv (.lst [.agg [.lst [], .int .i64 ((r3.c 1).toInt), .str ((r3.c 2).toStr), .lst ((r3.c 3).toLst)]]), .pv (.agg [.int .i64 t_Kind, .str t_Name, .lst t_Args])]).bind retPV).bind fun r4 =>
                    (bif (Sh.agg [Sh.lst, Sh.int .i64, Sh.str, Sh.lst]).fits r4 then
                      lp_ [1, 1, 1, 1, 1, 6] (st4_111116 t_Kind t_Name t_Args ((r2.c 0).toLst) ((r2.c 1).toInt) ((r2.c 2).toStr) ((r2.c 3).toLst) ((r4.c 0).toLst) ((r4.c 1).toInt) ((r4.c 2).toStr) ((r4.c 3).toLst))
                    else none)
                else bif (Sh.agg [Sh.lst, Sh.int .i64, Sh.str, Sh.lst]).fits r3 then
                  ((cl_ 13 [.pv (.lst [.agg [.lst ((r3.c 0).toLst), .int .i64 ((r3.c 1).toInt), .str ((r3.c 2).toStr), .lst ((r3.c 3).toLst)]]), .pv (.agg [.int .i64 t_Kind, .str t_Name, .lst t_Args])]).bind retPV).bind fun r5 =>
                    (bif (Sh.agg [Sh.lst, Sh.int .i64, Sh.str, Sh.lst]).fits r5 then
                      lp_ [1, 1, 1, 1, 1, 6] (st4_111116 t_Kind t_Name t_Args ((r2.c 0).toLst) ((r2.c 1).toInt) ((r2.c 2).toStr) ((r2.c 3).toLst) ((r5.c 0).toLst) ((r5.c 1).toInt) ((r5.c 2).toStr) ((r5.c 3).toLst))
                    else none)
                else none)
            else none)
        else none)
    else none) := by kernel_rfl
theorem e4 (t_Kind : Int) (t_Name : List UInt8) (t_Args : List PV) : V 4 [.pv (.agg [.int .i64 t_Kind, .str t_Name, .lst t_Args])] =
  ((V 9 []).bind retPV).bind fun r =>
    (bif (Sh.bool).fits r then
      bif (!r.toBool) then
        some (.pv (.bool false), [])
      else ((V 12 [.pv (.agg [.int .i64 t_Kind, .str t_Name, .lst t_Args])]).bind retPV).bind fun r1 =>
        (bif (Sh.bool).fits r1 then
          bif (!r1.toBool) then
            some (.pv (.bool true), [])
          else ((V 13 [.pv (.lst []), .pv (.agg [.int .i64 t_Kind, .str t_Name, .lst t_Args])]).bind retPV).bind fun r2 =>
            (bif (Sh.agg [Sh.lst, Sh.int .i64, Sh.str, Sh.lst]).fits r2 then
              ((V 14 [.pv (.agg [.int .i64 t_Kind, .str t_Name, .lst t_Args])]).bind retPV).bind fun r3 =>
                (bif (Sh.agg [Sh.lst, Sh.int .i64, Sh.str, Sh.lst]).fitsNil r3 then
                  ((V 13 [.pv (.lst [.agg [.lst [], .int .i64 ((r3.c 1).toInt), .str ((r3.c 2).toStr), .lst ((r3.c 3).toLst)]]), .pv (.agg [.int .i64 t_Kind, .str t_Name, .lst t_Args])]).bind retPV).bind fun r4 =>
                    (bif (Sh.agg [Sh.lst, Sh.int .i64, Sh.str, Sh.lst]).fits r4 then
                      L4_111116 t_Kind t_Name t_Args ((r2.c 0).toLst) ((r2.c 1).toInt) ((r2.c 2).toStr) ((r2.c 3).toLst) ((r4.c 0).toLst) ((r4.c 1).toInt) ((r4.c 2).toStr) ((r4.c 3).toLst)
                    else none)
                else bif (Sh.agg [Sh.lst, Sh.int .i64, Sh.str, Sh.lst]).fits r3 then
                  ((V 13 [.pv (.lst [.agg [.lst ((r3.c 0).toLst), .int .i64 ((r3.c 1).toInt), .str ((r3.c 2).toStr), .lst ((r3.c 3).toLst)]]), .pv (.agg [.int .i64 t_Kind, .str t_Name, .lst t_Args])]).bind retPV).bind fun r5 =>
                    (bif (Sh.agg [Sh.lst, Sh.int .i64, Sh.str, Sh.lst]).fits r5 then
                      L4_111116 t_Kind t_Name t_Args ((r2.c 0).toLst) ((r2.c 1).toInt) ((r2.c 2).toStr) ((r2.c 3).toLst) ((r5.c 0).toLst) ((r5.c 1).toInt) ((r5.c 2).toStr) ((r5.c 3).toLst)
                    else none)
                else none)
            else none)
        else none)
    else none) :=
  (V_eq pa rfl _).trans (f4 t_Kind t_Name t_Args V (LV Pr T 4))
theorem f4_111116 (t_Kind : Int) (t_Name : List UInt8) (t_Args : List PV) (v : List PV) (v1 : Int) (v2 : List UInt8) (v3 : List PV) (v4 : List PV) (v5 : Int) (v6 : List UInt8) (v7 : List PV) (cl_ : FuncId → List Arg → Option Out) (lp_ : List Nat → AS → Option Out) : stepW Pr T cl_ lp_ 4 [1, 1, 1, 1, 1, 6] (st4_111116 t_Kind t_Name t_Args v v1 v2 v3 v4 v5 v6 v7) =
  ((cl_ 15 [.pv (.agg [.lst v, .int .i64 v1, .str v2, .lst v3])]).bind retPV).bind fun r =>
    (bif (Sh.lst).fits r then
      bif ((r.toLst.length : Int) == (0 : Int)) then
        bif ((v4.length : Int) == (0 : Int)) then
          ((cl_ 15 [.pv (.agg [.lst v4, .int .i64 v5, .str v6, .lst v7])]).bind retPV).bind fun r1 =>
            (bif (Sh.lst).fits r1 then
              ((cl_ 17 [.pv (.agg [.int .i64 t_Kind, .str t_Name, .lst t_Args])]).bind retPV).bind fun r2 =>
                (bif (Sh.lst).fits r2 then
                  ((cl_ 16 [.pv (.lst r1.toLst), .pv (.lst r2.toLst)]).bind retPV).bind fun r3 =>
                    (bif (Sh.bool).fits r3 then
                      bif r3.toBool then
                        ((cl_ 11 [.pv (.agg [.lst v, .int .i64 v1, .str v2, .lst v3]), .pv (.agg [.int .i64 t_Kind, .str t_Name, .lst t_Args])]).bind retPV).bind fun r4 =>
                          (bif (Sh.bool).fits r4 then
                            some (.pv (.bool r4.toBool), [])
                          else none)
                      else some (.pv (.bool false), [])
                    else none)
                else none)
            else none)
        else some (.pv (.bool false), [])
      else some (.pv (.bool false), [])
    else none) := by kernel_rfl
theorem e4_111116 (t_Kind : Int) (t_Name : List UInt8) (t_Args : List PV) (v : List PV) (v1 : Int) (v2 : List UInt8) (v3 : List PV) (v4 : List PV) (v5 : Int) (v6 : List UInt8) (v7 : List PV) : L4_111116 t_Kind t_Name t_Args v v1 v2 v3 v4 v5 v6 v7 =
  ((V 15 [.pv (.agg [.lst v, .int .i64 v1, .str v2, .lst v3])]).bind retPV).bind fun r =>
    (bif (Sh.lst).fits r then
      bif ((r.toLst.length : Int) == (0 : Int)) then
        bif ((v4.length : Int) == (0 : Int)) then
          ((V 15 [.pv (.agg [.lst v4, .int .i64 v5, .str v6, .lst v7])]).bind retPV).bind fun r1 =>
            (bif (Sh.lst).fits r1 then
              ((V 17 [.pv (.agg [.int .i64 t_Kind, .str t_Name, .lst t_Args])]).bind retPV).bind fun r2 =>
                (bif (Sh.lst).fits r2 then
                  ((V 16 [.pv (.lst r1.toLst), .pv (.lst r2.toLst)]).bind retPV).bind fun r3 =>
                    (bif (Sh.bool).fits r3 then
                      bif r3.toBool then
                        ((V 11 [.pv (.agg [.lst v, .int .i64 v1, .str v2, .lst v3]), .pv (.agg [.int .i64 t_Kind, .str t_Name, .lst t_Args])]).bind retPV).bind fun r4 =>
                          (bif (Sh.bool).fits r4 then
                            some (.pv (.bool r4.toBool), [])
                          else none)
                      else some (.pv (.bool false), [])
                    else none)
                else none)
            else none)
        else some (.pv (.bool false), [])
      else some (.pv (.bool false), [])
    else none) :=
  (LV_eq pa 4 _ _).trans (f4_111116 t_Kind t_Name t_Args v v1 v2 v3 v4 v5 v6 v7 V (LV Pr T 4))
/-! 9 roadstead/roadkeep2.schemes -/
theorem f9  (cl_ : FuncId → List Arg → Option Out) (lp_ : List Nat → AS → Option Out) : runW Pr T cl_ lp_ 9 [] =
  ((cl_ 13 [.pv (.lst []), .pv (.agg [.int .i64 5, .str [63, 49], .lst []])]).bind retPV).bind fun r =>
    (bif (Sh.agg [Sh.lst, Sh.int .i64, Sh.str, Sh.lst]).fits r then
      ((cl_ 34 [.pv (.agg [.lst ((r.c 0).toLst), .int .i64 ((r.c 1).toInt), .str ((r.c 2).toStr), .lst ((r.c 3).toLst)]), .pv (.int .i64 5)]).bind retPV).bind fun r1 =>
        (bif (Sh.tup [Sh.agg [Sh.int .i64, Sh.str, Sh.lst], Sh.int .i64]).fits r1 then
          ((cl_ 16 [.pv (.lst ((r.c 0).toLst)), .pv (.lst [.str [63, 49]])]).bind retPV).bind fun r2 =>
            (bif (Sh.bool).fits r2 then
              bif r2.toBool then
                bif (((r1.r 0).c 1).toStr == ([63, 53] : List UInt8)) then
                  some (.pv (.bool (((r1.r 1).toInt) == (6 : Int))), [])
                else some (.pv (.bool false), [])
              else some (.pv (.bool false), [])
            else none)
        else none)
    else none) := by kernel_rfl
theorem e9  : V 9 [] =
  ((V 13 [.pv (.lst []), .pv (.agg [.int .i64 5, .str [63, 49], .lst []])]).bind retPV).bind fun r =>
    (bif (Sh.agg [Sh.lst, Sh.int .i64, Sh.str, Sh.lst]).fits r then
      ((V 34 [.pv (.agg [.lst ((r.c 0).toLst), .int .i64 ((r.c 1).toInt), .str ((r.c 2).toStr), .lst ((r.c 3).toLst)]), .pv (.int .i64 5)]).bind retPV).bind fun r1 =>
        (bif (Sh.tup [Sh.agg [Sh.int .i64, Sh.str, Sh.lst], Sh.int .i64]).fits r1 then
          ((V 16 [.pv (.lst ((r.c 0).toLst)), .pv (.lst [.str [63, 49]])]).bind retPV).bind fun r2 =>
            (bif (Sh.bool).fits r2 then
              bif r2.toBool then
                bif (((r1.r 0).c 1).toStr == ([63, 53] : List UInt8)) then
                  some (.pv (.bool (((r1.r 1).toInt) == (6 : Int))), [])
                else some (.pv (.bool false), [])
              else some (.pv (.bool false), [])
            else none)
        else none)
    else none) :=
  (V_eq pa rfl _).trans (f9  V (LV Pr T 9))
/-! 10 roadstead/scheme.Instance -/
theorem f10 (s_Params : List PV) (s_Type_Kind : Int) (s_Type_Name : List UInt8) (s_Type_Args : List PV) (l : List PV) (cl_ : FuncId → List Arg → Option Out) (lp_ : List Nat → AS → Option Out) : runW Pr T cl_ lp_ 10 [.pv (.agg [.lst s_Params, .int .i64 s_Type_Kind, .str s_Type_Name, .lst s_Type_Args]), .pv (.lst l)] =
  bif ((l.length : Int) != (s_Params.length : Int)) then
    some (.pv (.tup [.agg [.int .i64 0, .str [], .lst []], .int .i64 1]), [])
  else ((cl_ 35 [.pv (.agg [.int .i64 s_Type_Kind, .str s_Type_Name, .lst s_Type_Args]), .pv (.lst s_Params), .pv (.lst l)]).bind retPV).bind fun r =>
    (bif (Sh.agg [Sh.int .i64, Sh.str, Sh.lst]).fits r then
      some (.pv (.tup [.agg [.int .i64 ((r.c 0).toInt), .str ((r.c 1).toStr), .lst ((r.c 2).toLst)], .int .i64 0]), [])
    else none) := by kernel_rfl
theorem e10 (s_Params : List PV) (s_Type_Kind : Int) (s_Type_Name : List UInt8) (s_Type_Args : List PV) (l : List PV) : V 10 [.pv (.agg [.lst s_Params, .int .i64 s_Type_Kind, .str s_Type_Name, .lst s_Type_Args]), .pv (.lst l)] =
  bif ((l.length : Int) != (s_Params.length : Int)) then
    some (.pv (.tup [.agg [.int .i64 0, .str [], .lst []], .int .i64 1]), [])
  else ((V 35 [.pv (.agg [.int .i64 s_Type_Kind, .str s_Type_Name, .lst s_Type_Args]), .pv (.lst s_Params), .pv (.lst l)]).bind retPV).bind fun r =>
    (bif (Sh.agg [Sh.int .i64, Sh.str, Sh.lst]).fits r then
      some (.pv (.tup [.agg [.int .i64 ((r.c 0).toInt), .str ((r.c 1).toStr), .lst ((r.c 2).toLst)], .int .i64 0]), [])
    else none) :=
  (V_eq pa rfl _).trans (f10 s_Params s_Type_Kind s_Type_Name s_Type_Args l V (LV Pr T 10))
/-! 11 roadstead/scheme.More -/
theorem f11 (s_Params : List PV) (s_Type_Kind : Int) (s_Type_Name : List UInt8) (s_Type_Args : List PV) (t_Kind : Int) (t_Name : List UInt8) (t_Args : List PV) (cl_ : FuncId → List Arg → Option Out) (lp_ : List Nat → AS → Option Out) : runW Pr T cl_ lp_ 11 [.pv (.agg [.lst s_Params, .int .i64 s_Type_Kind, .str s_Type_Name, .lst s_Type_Args]), .pv (.agg [.int .i64 t_Kind, .str t_Name, .lst t_Args])] =
  (cl_ 36 [.pv (.lst s_Params), .pv (.agg [.int .i64 s_Type_Kind, .str s_Type_Name, .lst s_Type_Args]), .pv (.agg [.int .i64 t_Kind, .str t_Name, .lst t_Args]), .map []]).bind fun r =>
    (bif refFits [(2, none)] [] r.2 then
      (retPV (r.1, [])).bind fun r1 =>
        (bif (Sh.bool).fits r1 then
          some (.pv (.bool r1.toBool), [])
        else none)
    else none) := by kernel_rfl
theorem e11 (s_Params : List PV) (s_Type_Kind : Int) (s_Type_Name : List UInt8) (s_Type_Args : List PV) (t_Kind : Int) (t_Name : List UInt8) (t_Args : List PV) : V 11 [.pv (.agg [.lst s_Params, .int .i64 s_Type_Kind, .str s_Type_Name, .lst s_Type_Args]), .pv (.agg [.int .i64 t_Kind, .str t_Name, .lst t_Args])] =
  (V 36 [.pv (.lst s_Params), .pv (.agg [.int .i64 s_Type_Kind, .str s_Type_Name, .lst s_Type_Args]), .pv (.agg [.int .i64 t_Kind, .str t_Name, .lst t_Args]), .map []]).bind fun r =>
    (bif refFits [(2, none)] [] r.2 then
      (retPV (r.1, [])).bind fun r1 =>
        (bif (Sh.bool).fits r1 then
          some (.pv (.bool r1.toBool), [])
        else none)
    else none) :=
  (V_eq pa rfl _).trans (f11 s_Params s_Type_Kind s_Type_Name s_Type_Args t_Kind t_Name t_Args V (LV Pr T 11))
/-! 12 roadstead/roadkeep2.pure -/
theorem f12 (t_Kind : Int) (t_Name : List UInt8) (t_Args : List PV) (cl_ : FuncId → List Arg → Option Out) (lp_ : List Nat → AS → Option Out) : runW Pr T cl_ lp_ 12 [.pv (.agg [.int .i64 t_Kind, .str t_Name, .lst t_Args])] =
  bif (t_Kind != (5 : Int)) then
    ((cl_ 37 [.pv (.lst t_Args), .pv (.fn 38 [])]).bind retPV).bind fun r =>
      (bif (Sh.bool).fits r then
        some (.pv (.bool (!r.toBool)), [])
      else none)
  else bif ((t_Args.length : Int) == (0 : Int)) then
    ((cl_ 37 [.pv (.lst t_Args), .pv (.fn 38 [])]).bind retPV).bind fun r1 =>
      (bif (Sh.bool).fits r1 then
        some (.pv (.bool (!r1.toBool)), [])
      else none)
  else some (.pv (.bool false), []) := by kernel_rfl
theorem e12 (t_Kind : Int) (t_Name : List UInt8) (t_Args : List PV) : V 12 [.pv (.agg [.int .i64 t_Kind, .str t_Name, .lst t_Args])] =
  bif (t_Kind != (5 : Int)) then
    ((V 37 [.pv (.lst t_Args), .pv (.fn 38 [])]).bind retPV).bind fun r =>
      (bif (Sh.bool).fits r then
        some (.pv (.bool (!r.toBool)), [])
      else none)
  else bif ((t_Args.length : Int) == (0 : Int)) then
    ((V 37 [.pv (.lst t_Args), .pv (.fn 38 [])]).bind retPV).bind fun r1 =>
      (bif (Sh.bool).fits r1 then
        some (.pv (.bool (!r1.toBool)), [])
      else none)
  else some (.pv (.bool false), []) :=
  (V_eq pa rfl _).trans (f12 t_Kind t_Name t_Args V (LV Pr T 12))
/-! 13 roadstead/scheme.Close -/
def st13_11014 (l : List PV) (env : List PV) (i : Int) (t_Kind : Int) (t_Name : List UInt8) (t_Args : List PV) : AS :=
  ⟨[.any, .any, .any, .box 0 0, .box 1 0, .bld 0 0 l, .any, .any, .any, .any, .any, .pv (.lst env), .pv (.int .i64 (env.length : Int)), .pv (.int .i64 i), .any, .any, .any, .any, .any, .any, .any, .any, .any, .any, .any, .any, .any, .any, .any, .any, .any, .any, .any, .any, .any, .any, .any, .any, .any, .any, .any, .any, .any], ⟨[(false, [.pv (.int .i64 t_Kind), .pv (.str t_Name), .pv (.lst t_Args)]), (false, [.pv .nils, .pv (.int .i64 0), .pv (.str []), .pv .nils])], [], [(0, 1)], 0, 0⟩⟩
noncomputable def L13_11014 (l : List PV) (env : List PV) (i : Int) (t_Kind : Int) (t_Name : List UInt8) (t_Args : List PV) : Option Out := LV Pr T 13 [1, 1, 0, 1, 4] (st13_11014 l env i t_Kind t_Name t_Args)
def st13_11116 (l1 : List PV) (t_Kind : Int) (t_Name : List UInt8) (t_Args : List PV) (v : Int) (v1 : List UInt8) (v2 : List PV) : AS :=
  ⟨[.any, .any, .any, .box 0 0, .box 1 0, .bld 0 0 l1, .any, .any, .box 2 0, .any, .any, .any, .any, .any, .any, .any, .any, .any, .any, .any, .any, .any, .any, .any, .any, .any, .any, .any, .any, .any, .any, .any, .any, .any, .any, .any, .any, .any, .any, .any, .any, .any, .any], ⟨[(false, [.pv (.int .i64 t_Kind), .pv (.str t_Name), .pv (.lst t_Args)]), (false, [.pv .nils, .pv (.int .i64 0), .pv (.str []), .pv .nils]), (false, [.bld 1 0 [], .pv (.int .i64 v), .pv (.str v1), .pv (.lst v2)])], [], [(0, 1), (0, 1)], 0, 0⟩⟩
noncomputable def L13_11116 (l1 : List PV) (t_Kind : Int) (t_Name : List UInt8) (t_Args : List PV) (v : Int) (v1 : List UInt8) (v2 : List PV) : Option Out := LV Pr T 13 [1, 1, 1, 1, 6] (st13_11116 l1 t_Kind t_Name t_Args v v1 v2)
def st13_11116v1 (l1 : List PV) (t_Kind : Int) (t_Name : List UInt8) (t_Args : List PV) (v : List PV) (v1 : Int) (v2 : List UInt8) (v3 : List PV) : AS :=
  ⟨[.any, .any, .any, .box 0 0, .box 1 0, .bld 0 0 l1, .any, .any, .box 2 0, .any, .any, .any, .any, .any, .any, .any, .any, .any, .any, .any, .any, .any, .any, .any, .any, .any, .any, .any, .any, .any, .any, .any, .any, .any, .any, .any, .any, .any, .any, .any, .any, .any, .any], ⟨[(false, [.pv (.int .i64 t_Kind), .pv (.str t_Name), .pv (.lst t_Args)]), (false, [.pv .nils, .pv (.int .i64 0), .pv (.str []), .pv .nils]), (false, [.pv (.lst v), .pv (.int .i64 v1), .pv (.str v2), .pv (.lst v3)])], [], [(0, 1)], 0, 0⟩⟩
noncomputable def L13_11116v1 (l1 : List PV) (t_Kind : Int) (t_Name : List UInt8) (t_Args : List PV) (v : List PV) (v1 : Int) (v2 : List UInt8) (v3 : List PV) : Option Out := LV Pr T 13 [1, 1, 1, 1, 6] (st13_11116v1 l1 t_Kind t_Name t_Args v v1 v2 v3)
def st13_1111014 (l1 : List PV) (v3 : List PV) (i : Int) (t_Kind : Int) (t_Name : List UInt8) (t_Args : List PV) (l : List PV) (v : Int) (v1 : List UInt8) (v2 : List PV) : AS :=
  ⟨[.any, .any, .any, .any, .box 1 0, .bld 0 0 l1, .any, .any, .box 2 0, .any, .any, .any, .any, .any, .any, .any, .any, .any, .any, .any, .any, .any, .any, .any, .any, .pv (.lst v3), .pv (.int .i64 (v3.length : Int)), .pv (.int .i64 i), .any, .any, .any, .any, .any, .any, .any, .any, .any, .any, .any, .any, .any, .any, .any], ⟨[(false, [.pv (.int .i64 t_Kind), .pv (.str t_Name), .pv (.lst t_Args)]), (false, [.pv .nils, .pv (.int .i64 0), .pv (.str []), .pv .nils]), (false, [.bld 1 0 l, .pv (.int .i64 v), .pv (.str v1), .pv (.lst v2)])], [], [(0, 1), (0, 1)], 0, 0⟩⟩
noncomputable def L13_1111014 (l1 : List PV) (v3 : List PV) (i : Int) (t_Kind : Int) (t_Name : List UInt8) (t_Args : List PV) (l : List PV) (v : Int) (v1 : List UInt8) (v2 : List PV) : Option Out := LV Pr T 13 [1, 1, 1, 1, 0, 1, 4] (st13_1111014 l1 v3 i t_Kind t_Name t_Args l v v1 v2)
def st13_1111014v1 (l1 : List PV) (v4 : List PV) (i : Int) (t_Kind : Int) (t_Name : List UInt8) (t_Args : List PV) (v : List PV) (v1 : Int) (v2 : List UInt8) (v3 : List PV) : AS :=
  ⟨[.any, .any, .any, .any, .box 1 0, .bld 0 0 l1, .any, .any, .box 2 0, .any, .any, .any, .any, .any, .any, .any, .any, .any, .any, .any, .any, .any, .any, .any, .any, .pv (.lst v4), .pv (.int .i64 (v4.length : Int)), .pv (.int .i64 i), .any, .any, .any, .any, .any, .any, .any, .any, .any, .any, .any, .any, .any, .any, .any], ⟨[(false, [.pv (.int .i64 t_Kind), .pv (.str t_Name), .pv (.lst t_Args)]), (false, [.pv .nils, .pv (.int .i64 0), .pv (.str []), .pv .nils]), (false, [.pv (.lst v), .pv (.int .i64 v1), .pv (.str v2), .pv (.lst v3)])], [], [(0, 1)], 0, 0⟩⟩
noncomputable def L13_1111014v1 (l1 : List PV) (v4 : List PV) (i : Int) (t_Kind : Int) (t_Name : List UInt8) (t_Args : List PV) (v : List PV) (v1 : Int) (v2 : List UInt8) (v3 : List PV) : Option Out := LV Pr T 13 [1, 1, 1, 1, 0, 1, 4] (st13_1111014v1 l1 v4 i t_Kind t_Name t_Args v v1 v2 v3)
theorem f13 (env : List PV) (t_Kind : Int) (t_Name : List UInt8) (t_Args : List PV) (cl_ : FuncId → List Arg → Option Out) (lp_ : List Nat → AS → Option Out) : runW Pr T cl_ lp_ 13 [.pv (.lst env), .pv (.agg [.int .i64 t_Kind, .str t_Name, .lst t_Args])] =
  lp_ [1, 1, 0, 1, 4] (st13_11014 [] env 0 t_Kind t_Name t_Args) := by kernel_rfl
theorem e13 (env : List PV) (t_Kind : Int) (t_Name : List UInt8) (t_Args : List PV) : V 13 [.pv (.lst env), .pv (.agg [.int .i64 t_Kind, .str t_Name, .lst t_Args])] =
  L13_11014 [] env 0 t_Kind t_Name t_Args :=
  (V_eq pa rfl _).trans (f13 env t_Kind t_Name t_Args V (LV Pr T 13))
theorem f13_11014 (l : List PV) (env : List PV) (i : Int) (t_Kind : Int) (t_Name : List UInt8) (t_Args : List PV) (cl_ : FuncId → List Arg → Option Out) (lp_ : List Nat → AS → Option Out) : stepW Pr T cl_ lp_ 13 [1, 1, 0, 1, 4] (st13_11014 l env i t_Kind t_Name t_Args) =
  bif decide (i < (env.length : Int)) then
    bif decide (0 ≤ i) then
      (env[i.toNat]?).bind fun x =>
        (bif (Sh.agg [Sh.lst, Sh.int .i64, Sh.str, Sh.lst]).fits x then
          ((cl_ 15 [.pv (.agg [.lst ((x.c 0).toLst), .int .i64 ((x.c 1).toInt), .str ((x.c 2).toStr), .lst ((x.c 3).toLst)])]).bind retPV).bind fun r =>
            (bif (Sh.lst).fits r then
              bif headOk 1 r.toLst then
                bif small (l.length) (r.toLst.length) 16 then
                  lp_ [1, 1, 0, 1, 4] (st13_11014 (l ++ r.toLst) env (IntKind.i64.wrap (i + (1 : Int))) t_Kind t_Name t_Args)
                else none
              else none
            else none)
        else none)
    else none
  else ((cl_ 14 [.pv (.agg [.int .i64 t_Kind, .str t_Name, .lst t_Args])]).bind retPV).bind fun r1 =>
    (bif (Sh.agg [Sh.lst, Sh.int .i64, Sh.str, Sh.lst]).fitsNil r1 then
      lp_ [1, 1, 1, 1, 6] (st13_11116 l t_Kind t_Name t_Args ((r1.c 1).toInt) ((r1.c 2).toStr) ((r1.c 3).toLst))
    else bif (Sh.agg [Sh.lst, Sh.int .i64, Sh.str, Sh.lst]).fits r1 then
      lp_ [1, 1, 1, 1, 6] (st13_11116v1 l t_Kind t_Name t_Args ((r1.c 0).toLst) ((r1.c 1).toInt) ((r1.c 2).toStr) ((r1.c 3).toLst))
    else none) := by kernel_rfl
theorem e13_11014 (l : List PV) (env : List PV) (i : Int) (t_Kind : Int) (t_Name : List UInt8) (t_Args : List PV) : L13_11014 l env i t_Kind t_Name t_Args =
  bif decide (i < (env.length : Int)) then
    bif decide (0 ≤ i) then
      (env[i.toNat]?).bind fun x =>
        (bif (Sh.agg [Sh.lst, Sh.int .i64, Sh.str, Sh.lst]).fits x then
          ((V 15 [.pv (.agg [.lst ((x.c 0).toLst), .int .i64 ((x.c 1).toInt), .str ((x.c 2).toStr), .lst ((x.c 3).toLst)])]).bind retPV).bind fun r =>
            (bif (Sh.lst).fits r then
              bif headOk 1 r.toLst then
                bif small (l.length) (r.toLst.length) 16 then
                  L13_11014 (l ++ r.toLst) env (IntKind.i64.wrap (i + (1 : Int))) t_Kind t_Name t_Args
                else none
              else none
            else none)
        else none)
    else none
  else ((V 14 [.pv (.agg [.int .i64 t_Kind, .str t_Name, .lst t_Args])]).bind retPV).bind fun r1 =>
    (bif (Sh.agg [Sh.lst, Sh.int .i64, Sh.str, Sh.lst]).fitsNil r1 then
      L13_11116 l t_Kind t_Name t_Args ((r1.c 1).toInt) ((r1.c 2).toStr) ((r1.c 3).toLst)
    else bif (Sh.agg [Sh.lst, Sh.int .i64, Sh.str, Sh.lst]).fits r1 then
      L13_11116v1 l t_Kind t_Name t_Args ((r1.c 0).toLst) ((r1.c 1).toInt) ((r1.c 2).toStr) ((r1.c 3).toLst)
    else none) :=
  (LV_eq pa 13 _ _).trans (f13_11014 l env i t_Kind t_Name t_Args V (LV Pr T 13))
theorem f13_11116 (l1 : List PV) (t_Kind : Int) (t_Name : List UInt8) (t_Args : List PV) (v : Int) (v1 : List UInt8) (v2 : List PV) (cl_ : FuncId → List Arg → Option Out) (lp_ : List Nat → AS → Option Out) : stepW Pr T cl_ lp_ 13 [1, 1, 1, 1, 6] (st13_11116 l1 t_Kind t_Name t_Args v v1 v2) =
  ((cl_ 17 [.pv (.agg [.int .i64 t_Kind, .str t_Name, .lst t_Args])]).bind retPV).bind fun r =>
    (bif (Sh.lst).fits r then
      lp_ [1, 1, 1, 1, 0, 1, 4] (st13_1111014 l1 r.toLst 0 t_Kind t_Name t_Args [] v v1 v2)
    else none) := by kernel_rfl
theorem e13_11116 (l1 : List PV) (t_Kind : Int) (t_Name : List UInt8) (t_Args : List PV) (v : Int) (v1 : List UInt8) (v2 : List PV) : L13_11116 l1 t_Kind t_Name t_Args v v1 v2 =
  ((V 17 [.pv (.agg [.int .i64 t_Kind, .str t_Name, .lst t_Args])]).bind retPV).bind fun r =>
    (bif (Sh.lst).fits r then
      L13_1111014 l1 r.toLst 0 t_Kind t_Name t_Args [] v v1 v2
    else none) :=
  (LV_eq pa 13 _ _).trans (f13_11116 l1 t_Kind t_Name t_Args v v1 v2 V (LV Pr T 13))
theorem f13_11116v1 (l1 : List PV) (t_Kind : Int) (t_Name : List UInt8) (t_Args : List PV) (v : List PV) (v1 : Int) (v2 : List UInt8) (v3 : List PV) (cl_ : FuncId → List Arg → Option Out) (lp_ : List Nat → AS → Option Out) : stepW Pr T cl_ lp_ 13 [1, 1, 1, 1, 6] (st13_11116v1 l1 t_Kind t_Name t_Args v v1 v2 v3) =
  ((cl_ 17 [.pv (.agg [.int .i64 t_Kind, .str t_Name, .lst t_Args])]).bind retPV).bind fun r =>
    (bif (Sh.lst).fits r then
      lp_ [1, 1, 1, 1, 0, 1, 4] (st13_1111014v1 l1 r.toLst 0 t_Kind t_Name t_Args v v1 v2 v3)
    else none) := by kernel_rfl
theorem e13_11116v1 (l1 : List PV) (t_Kind : Int) (t_Name : List UInt8) (t_Args : List PV) (v : List PV) (v1 : Int) (v2 : List UInt8) (v3 : List PV) : L13_11116v1 l1 t_Kind t_Name t_Args v v1 v2 v3 =
  ((V 17 [.pv (.agg [.int .i64 t_Kind, .str t_Name, .lst t_Args])]).bind retPV).bind fun r =>
    (bif (Sh.lst).fits r then
      L13_1111014v1 l1 r.toLst 0 t_Kind t_Name t_Args v v1 v2 v3
    else none) :=
  (LV_eq pa 13 _ _).trans (f13_11116v1 l1 t_Kind t_Name t_Args v v1 v2 v3 V (LV Pr T 13))
theorem f13_1111014 (l1 : List PV) (v3 : List PV) (i : Int) (t_Kind : Int) (t_Name : List UInt8) (t_Args : List PV) (l : List PV) (v : Int) (v1 : List UInt8) (v2 : List PV) (cl_ : FuncId → List Arg → Option Out) (lp_ : List Nat → AS → Option Out) : stepW Pr T cl_ lp_ 13 [1, 1, 1, 1, 0, 1, 4] (st13_1111014 l1 v3 i t_Kind t_Name t_Args l v v1 v2) =
  bif decide (i < (v3.length : Int)) then
    bif decide (0 ≤ i) then
      (v3[i.toNat]?).bind fun x =>
        (bif (Sh.str).fits x then
          ((cl_ 25 [.pv (.lst l1), .pv (.str x.toStr)]).bind retPV).bind fun r =>
            (bif (Sh.bool).fits r then
              bif (!r.toBool) then
                bif small (l.length) 1 16 then
                  lp_ [1, 1, 1, 1, 0, 1, 4] (st13_1111014 l1 v3 (IntKind.i64.wrap (i + (1 : Int))) t_Kind t_Name t_Args (l ++ ([.str x.toStr] : List PV)) v v1 v2)
                else none
              else lp_ [1, 1, 1, 1, 0, 1, 4] (st13_1111014 l1 v3 (IntKind.i64.wrap (i + (1 : Int))) t_Kind t_Name t_Args l v v1 v2)
            else none)
        else none)
    else none
  else some (.pv (.agg [.lst l, .int .i64 v, .str v1, .lst v2]), []) := by kernel_rfl
theorem e13_1111014 (l1 : List PV) (v3 : List PV) (i : Int) (t_Kind : Int) (t_Name : List UInt8) (t_Args : List PV) (l : List PV) (v : Int) (v1 : List UInt8) (v2 : List PV) : L13_1111014 l1 v3 i t_Kind t_Name t_Args l v v1 v2 =
  bif decide (i < (v3.length : Int)) then
    bif decide (0 ≤ i) then
      (v3[i.toNat]?).bind fun x =>
        (bif (Sh.str).fits x then
          ((V 25 [.pv (.lst l1), .pv (.str x.toStr)]).bind retPV).bind fun r =>
            (bif (Sh.bool).fits r then
              bif (!r.toBool) then
                bif small (l.length) 1 16 then
                  L13_1111014 l1 v3 (IntKind.i64.wrap (i + (1 : Int))) t_Kind t_Name t_Args (l ++ ([.str x.toStr] : List PV)) v v1 v2
                else none
              else L13_1111014 l1 v3 (IntKind.i64.wrap (i + (1 : Int))) t_Kind t_Name t_Args l v v1 v2
            else none)
        else none)
    else none
  else some (.pv (.agg [.lst l, .int .i64 v, .str v1, .lst v2]), []) :=
  (LV_eq pa 13 _ _).trans (f13_1111014 l1 v3 i t_Kind t_Name t_Args l v v1 v2 V (LV Pr T 13))
theorem f13_1111014v1 (l1 : List PV) (v4 : List PV) (i : Int) (t_Kind : Int) (t_Name : List UInt8) (t_Args : List PV) (v : List PV) (v1 : Int) (v2 : List UInt8) (v3 : List PV) (cl_ : FuncId → List Arg → Option Out) (lp_ : List Nat → AS → Option Out) : stepW Pr T cl_ lp_ 13 [1, 1, 1, 1, 0, 1, 4] (st13_1111014v1 l1 v4 i t_Kind t_Name t_Args v v1 v2 v3) =
  bif decide (i < (v4.length : Int)) then
    bif decide (0 ≤ i) then
      (v4[i.toNat]?).bind fun x =>
        (bif (Sh.str).fits x then
          ((cl_ 25 [.pv (.lst l1), .pv (.str x.toStr)]).bind retPV).bind fun r =>
            (bif (Sh.bool).fits r then
              bif (!r.toBool) then
                none
              else lp_ [1, 1, 1, 1, 0, 1, 4] (st13_1111014v1 l1 v4 (IntKind.i64.wrap (i + (1 : Int))) t_Kind t_Name t_Args v v1 v2 v3)
            else none)
        else none)
    else none
  else some (.pv (.agg [.lst v, .int .i64 v1, .str v2, .lst v3]), []) := by kernel_rfl
theorem e13_1111014v1 (l1 : List PV) (v4 : List PV) (i : Int) (t_Kind : Int) (t_Name : List UInt8) (t_Args : List PV) (v : List PV) (v1 : Int) (v2 : List UInt8) (v3 : List PV) : L13_1111014v1 l1 v4 i t_Kind t_Name t_Args v v1 v2 v3 =
  bif decide (i < (v4.length : Int)) then
    bif decide (0 ≤ i) then
      (v4[i.toNat]?).bind fun x =>
        (bif (Sh.str).fits x then
          ((V 25 [.pv (.lst l1), .pv (.str x.toStr)]).bind retPV).bind fun r =>
            (bif (Sh.bool).fits r then
              bif (!r.toBool) then
                none
              else L13_1111014v1 l1 v4 (IntKind.i64.wrap (i + (1 : Int))) t_Kind t_Name t_Args v v1 v2 v3
            else none)
        else none)
    else none
  else some (.pv (.agg [.lst v, .int .i64 v1, .str v2, .lst v3]), []) :=
  (LV_eq pa 13 _ _).trans (f13_1111014v1 l1 v4 i t_Kind t_Name t_Args v v1 v2 v3 V (LV Pr T 13))
/-! 14 roadstead/scheme.Plain -/
theorem f14 (t_Kind : Int) (t_Name : List UInt8) (t_Args : List PV) (cl_ : FuncId → List Arg → Option Out) (lp_ : List Nat → AS → Option Out) : runW Pr T cl_ lp_ 14 [.pv (.agg [.int .i64 t_Kind, .str t_Name, .lst t_Args])] =
  ((cl_ 39 [.pv (.agg [.int .i64 t_Kind, .str t_Name, .lst t_Args])]).bind retPV).bind fun r =>
    (bif (Sh.agg [Sh.int .i64, Sh.str, Sh.lst]).fits r then
      some (.pv (.agg [.nils, .int .i64 ((r.c 0).toInt), .str ((r.c 1).toStr), .lst ((r.c 2).toLst)]), [])
    else none) := by kernel_rfl
theorem e14 (t_Kind : Int) (t_Name : List UInt8) (t_Args : List PV) : V 14 [.pv (.agg [.int .i64 t_Kind, .str t_Name, .lst t_Args])] =
  ((V 39 [.pv (.agg [.int .i64 t_Kind, .str t_Name, .lst t_Args])]).bind retPV).bind fun r =>
    (bif (Sh.agg [Sh.int .i64, Sh.str, Sh.lst]).fits r then
      some (.pv (.agg [.nils, .int .i64 ((r.c 0).toInt), .str ((r.c 1).toStr), .lst ((r.c 2).toLst)]), [])
    else none) :=
  (V_eq pa rfl _).trans (f14 t_Kind t_Name t_Args V (LV Pr T 14))
/-! 15 roadstead/scheme.Free -/
def st15_11014 (l : List PV) (v : List PV) (i : Int) (s_Params : List PV) (s_Type_Kind : Int) (s_Type_Name : List UInt8) (s_Type_Args : List PV) : AS :=
  ⟨[.any, .box 0 0, .any, .bld 0 0 l, .any, .any, .any, .any, .pv (.lst v), .pv (.int .i64 (v.length : Int)), .pv (.int .i64 i), .any, .any, .any, .any, .any, .any, .any, .any, .any, .any, .any, .any, .any, .any], ⟨[(false, [.pv (.lst s_Params), .pv (.int .i64 s_Type_Kind), .pv (.str s_Type_Name), .pv (.lst s_Type_Args)])], [], [(0, 1)], 0, 0⟩⟩
noncomputable def L15_11014 (l : List PV) (v : List PV) (i : Int) (s_Params : List PV) (s_Type_Kind : Int) (s_Type_Name : List UInt8) (s_Type_Args : List PV) : Option Out := LV Pr T 15 [1, 1, 0, 1, 4] (st15_11014 l v i s_Params s_Type_Kind s_Type_Name s_Type_Args)
theorem f15 (s_Params : List PV) (s_Type_Kind : Int) (s_Type_Name : List UInt8) (s_Type_Args : List PV) (cl_ : FuncId → List Arg → Option Out) (lp_ : List Nat → AS → Option Out) : runW Pr T cl_ lp_ 15 [.pv (.agg [.lst s_Params, .int .i64 s_Type_Kind, .str s_Type_Name, .lst s_Type_Args])] =
  ((cl_ 17 [.pv (.agg [.int .i64 s_Type_Kind, .str s_Type_Name, .lst s_Type_Args])]).bind retPV).bind fun r =>
    (bif (Sh.lst).fits r then
      lp_ [1, 1, 0, 1, 4] (st15_11014 [] r.toLst 0 s_Params s_Type_Kind s_Type_Name s_Type_Args)
    else none) := by kernel_rfl
theorem e15 (s_Params : List PV) (s_Type_Kind : Int) (s_Type_Name : List UInt8) (s_Type_Args : List PV) : V 15 [.pv (.agg [.lst s_Params, .int .i64 s_Type_Kind, .str s_Type_Name, .lst s_Type_Args])] =
  ((V 17 [.pv (.agg [.int .i64 s_Type_Kind, .str s_Type_Name, .lst s_Type_Args])]).bind retPV).bind fun r =>
    (bif (Sh.lst).fits r then
      L15_11014 [] r.toLst 0 s_Params s_Type_Kind s_Type_Name s_Type_Args
    else none) :=
  (V_eq pa rfl _).trans (f15 s_Params s_Type_Kind s_Type_Name s_Type_Args V (LV Pr T 15))
theorem f15_11014 (l : List PV) (v : List PV) (i : Int) (s_Params : List PV) (s_Type_Kind : Int) (s_Type_Name : List UInt8) (s_Type_Args : List PV) (cl_ : FuncId → List Arg → Option Out) (lp_ : List Nat → AS → Option Out) : stepW Pr T cl_ lp_ 15 [1, 1, 0, 1, 4] (st15_11014 l v i s_Params s_Type_Kind s_Type_Name s_Type_Args) =
  bif decide (i < (v.length : Int)) then
    bif decide (0 ≤ i) then
      (v[i.toNat]?).bind fun x =>
        (bif (Sh.str).fits x then
          ((cl_ 25 [.pv (.lst s_Params), .pv (.str x.toStr)]).bind retPV).bind fun r =>
            (bif (Sh.bool).fits r then
              bif (!r.toBool) then
                bif small (l.length) 1 16 then
                  lp_ [1, 1, 0, 1, 4] (st15_11014 (l ++ ([.str x.toStr] : List PV)) v (IntKind.i64.wrap (i + (1 : Int))) s_Params s_Type_Kind s_Type_Name s_Type_Args)
                else none
              else lp_ [1, 1, 0, 1, 4] (st15_11014 l v (IntKind.i64.wrap (i + (1 : Int))) s_Params s_Type_Kind s_Type_Name s_Type_Args)
            else none)
        else none)
    else none
  else some (.bld 1 l, []) := by kernel_rfl
theorem e15_11014 (l : List PV) (v : List PV) (i : Int) (s_Params : List PV) (s_Type_Kind : Int) (s_Type_Name : List UInt8) (s_Type_Args : List PV) : L15_11014 l v i s_Params s_Type_Kind s_Type_Name s_Type_Args =
  bif decide (i < (v.length : Int)) then
    bif decide (0 ≤ i) then
      (v[i.toNat]?).bind fun x =>
        (bif (Sh.str).fits x then
          ((V 25 [.pv (.lst s_Params), .pv (.str x.toStr)]).bind retPV).bind fun r =>
            (bif (Sh.bool).fits r then
              bif (!r.toBool) then
                bif small (l.length) 1 16 then
                  L15_11014 (l ++ ([.str x.toStr] : List PV)) v (IntKind.i64.wrap (i + (1 : Int))) s_Params s_Type_Kind s_Type_Name s_Type_Args
                else none
              else L15_11014 l v (IntKind.i64.wrap (i + (1 : Int))) s_Params s_Type_Kind s_Type_Name s_Type_Args
            else none)
        else none)
    else none
  else some (.bld 1 l, []) :=
  (LV_eq pa 15 _ _).trans (f15_11014 l v i s_Params s_Type_Kind s_Type_Name s_Type_Args V (LV Pr T 15))
/-! 16 slices.Equal[[]string,string] -/
def st16_11014 (s1 : List PV) (s2 : List PV) (i : Int) : AS :=
  ⟨[.pv (.lst s1), .pv (.lst s2), .any, .any, .any, .any, .any, .any, .any, .any, .any, .any, .pv (.int .i64 (s1.length : Int)), .pv (.int .i64 i), .any, .any, .any, .any, .any, .any, .any, .any, .any, .any, .any, .any], ⟨[], [], [], 0, 0⟩⟩
noncomputable def L16_11014 (s1 : List PV) (s2 : List PV) (i : Int) : Option Out := LV Pr T 16 [1, 1, 0, 1, 4] (st16_11014 s1 s2 i)
theorem f16 (s1 : List PV) (s2 : List PV) (cl_ : FuncId → List Arg → Option Out) (lp_ : List Nat → AS → Option Out) : runW Pr T cl_ lp_ 16 [.pv (.lst s1), .pv (.lst s2)] =
  bif ((s1.length : Int) != (s2.length : Int)) then
    some (.pv (.bool false), [])
  else lp_ [1, 1, 0, 1, 4] (st16_11014 s1 s2 0) := by kernel_rfl
theorem e16 (s1 : List PV) (s2 : List PV) : V 16 [.pv (.lst s1), .pv (.lst s2)] =
  bif ((s1.length : Int) != (s2.length : Int)) then
    some (.pv (.bool false), [])
  else L16_11014 s1 s2 0 :=
  (V_eq pa rfl _).trans (f16 s1 s2 V (LV Pr T 16))
theorem f16_11014 (s1 : List PV) (s2 : List PV) (i : Int) (cl_ : FuncId → List Arg → Option Out) (lp_ : List Nat → AS → Option Out) : stepW Pr T cl_ lp_ 16 [1, 1, 0, 1, 4] (st16_11014 s1 s2 i) =
  bif decide (i < (s1.length : Int)) then
    bif decide (0 ≤ i) then
      (s1[i.toNat]?).bind fun x =>
        (bif (Sh.str).fits x then
          bif decide (0 ≤ i) then
            (s2[i.toNat]?).bind fun x1 =>
              (bif (Sh.str).fits x1 then
                bif (!(x.toStr == x1.toStr)) then
                  some (.pv (.bool false), [])
                else lp_ [1, 1, 0, 1, 4] (st16_11014 s1 s2 (IntKind.i64.wrap (i + (1 : Int))))
              else none)
          else none
        else none)
    else none
  else some (.pv (.bool true), []) := by kernel_rfl
theorem e16_11014 (s1 : List PV) (s2 : List PV) (i : Int) : L16_11014 s1 s2 i =
  bif decide (i < (s1.length : Int)) then
    bif decide (0 ≤ i) then
      (s1[i.toNat]?).bind fun x =>
        (bif (Sh.str).fits x then
          bif decide (0 ≤ i) then
            (s2[i.toNat]?).bind fun x1 =>
              (bif (Sh.str).fits x1 then
                bif (!(x.toStr == x1.toStr)) then
                  some (.pv (.bool false), [])
                else L16_11014 s1 s2 (IntKind.i64.wrap (i + (1 : Int)))
              else none)
          else none
        else none)
    else none
  else some (.pv (.bool true), []) :=
  (LV_eq pa 16 _ _).trans (f16_11014 s1 s2 i V (LV Pr T 16))
/-! 17 roadstead/unify.Unknowns -/
theorem f17 (t_Kind : Int) (t_Name : List UInt8) (t_Args : List PV) (cl_ : FuncId → List Arg → Option Out) (lp_ : List Nat → AS → Option Out) : runW Pr T cl_ lp_ 17 [.pv (.agg [.int .i64 t_Kind, .str t_Name, .lst t_Args])] =
  (cl_ 40 [.pv (.agg [.int .i64 t_Kind, .str t_Name, .lst t_Args]), .bld 1 []]).bind fun r =>
    ((retB 1 r).bind fun l =>
      (some (.bld 1 l, []))) := by kernel_rfl
theorem e17 (t_Kind : Int) (t_Name : List UInt8) (t_Args : List PV) : V 17 [.pv (.agg [.int .i64 t_Kind, .str t_Name, .lst t_Args])] =
  (V 40 [.pv (.agg [.int .i64 t_Kind, .str t_Name, .lst t_Args]), .bld 1 []]).bind fun r =>
    ((retB 1 r).bind fun l =>
      (some (.bld 1 l, []))) :=
  (V_eq pa rfl _).trans (f17 t_Kind t_Name t_Args V (LV Pr T 17))
/-! 25 slices.Contains[[]string,string] -/
theorem f25 (s : List PV) (v : List UInt8) (cl_ : FuncId → List Arg → Option Out) (lp_ : List Nat → AS → Option Out) : runW Pr T cl_ lp_ 25 [.pv (.lst s), .pv (.str v)] =
  ((cl_ 63 [.pv (.lst s), .pv (.str v)]).bind retPV).bind fun r =>
    (bif (Sh.int .i64).fits r then
      some (.pv (.bool (decide ((r.toInt) ≥ (0 : Int)))), [])
    else none) := by kernel_rfl
theorem e25 (s : List PV) (v : List UInt8) : V 25 [.pv (.lst s), .pv (.str v)] =
  ((V 63 [.pv (.lst s), .pv (.str v)]).bind retPV).bind fun r =>
    (bif (Sh.int .i64).fits r then
      some (.pv (.bool (decide ((r.toInt) ≥ (0 : Int)))), [])
    else none) :=
  (V_eq pa rfl _).trans (f25 s v V (LV Pr T 25))
/-! 35 roadstead/kind.Put -/
def st35_1012116 (names : List PV) (l : List PV) (v : Int) (b : Bool) (t_Kind : Int) (t_Name : List UInt8) (t_Args : List PV) : AS :=
  ⟨[.any, .pv (.lst names), .pv (.lst l), .box 0 0, .any, .any, .box 1 0, .pv (.int .i64 v), .any, .any, .any, .any, .any, .any, .any, .any, .any, .any, .any, .any, .any, .any, .any, .any, .pv (.bool b), .any, .any, .any, .any, .any, .any, .any, .any, .any, .any, .any, .any, .any, .any, .any, .any, .any, .any, .any, .any, .any, .any, .any, .any, .any, .any, .any, .any, .any, .any, .any], ⟨[(false, [.pv (.int .i64 t_Kind), .pv (.str t_Name), .pv (.lst t_Args)]), (false, [.pv (.int .i64 0), .pv (.str []), .pv .nils])], [], [], 0, 0⟩⟩
noncomputable def L35_1012116 (names : List PV) (l : List PV) (v : Int) (b : Bool) (t_Kind : Int) (t_Name : List UInt8) (t_Args : List PV) : Option Out := LV Pr T 35 [1, 0, 1, 2, 1, 1, 6] (st35_1012116 names l v b t_Kind t_Name t_Args)
def st35_111014 (names : List PV) (l : List PV) (l1 : List PV) (i : Int) (t_Kind : Int) (t_Name : List UInt8) (l2 : List PV) : AS :=
  ⟨[.any, .pv (.lst names), .pv (.lst l), .box 0 0, .any, .any, .box 1 0, .any, .any, .any, .any, .any, .any, .any, .any, .any, .any, .any, .any, .any, .any, .any, .any, .any, .any, .any, .any, .any, .any, .any, .any, .any, .any, .any, .any, .any, .any, .any, .any, .vec 0 0, .pv (.int .i64 (l1.length : Int)), .pv (.int .i64 i), .any, .any, .any, .any, .any, .any, .any, .any, .any, .any, .any, .any, .any, .any], ⟨[(false, [.pv (.int .i64 t_Kind), .pv (.str t_Name), .vec 0 0]), (false, [.pv (.int .i64 0), .pv (.str []), .pv .nils])], [some (0, 3, l2)], [], 0, 0⟩⟩
noncomputable def L35_111014 (names : List PV) (l : List PV) (l1 : List PV) (i : Int) (t_Kind : Int) (t_Name : List UInt8) (l2 : List PV) : Option Out := LV Pr T 35 [1, 1, 1, 0, 1, 4] (st35_111014 names l l1 i t_Kind t_Name l2)
theorem f35 (t_Kind : Int) (t_Name : List UInt8) (t_Args : List PV) (names : List PV) (l : List PV) (cl_ : FuncId → List Arg → Option Out) (lp_ : List Nat → AS → Option Out) : runW Pr T cl_ lp_ 35 [.pv (.agg [.int .i64 t_Kind, .str t_Name, .lst t_Args]), .pv (.lst names), .pv (.lst l)] =
  bif (t_Kind == (5 : Int)) then
    ((cl_ 63 [.pv (.lst names), .pv (.str t_Name)]).bind retPV).bind fun r =>
      (bif (Sh.int .i64).fits r then
        bif decide ((r.toInt) ≥ (0 : Int)) then
          lp_ [1, 0, 1, 2, 1, 1, 6] (st35_1012116 names l r.toInt (decide ((r.toInt) < (l.length : Int))) t_Kind t_Name t_Args)
        else lp_ [1, 0, 1, 2, 1, 1, 6] (st35_1012116 names l r.toInt false t_Kind t_Name t_Args)
      else none)
  else (cl_ 76 [.pv (.lst t_Args)]).bind fun r1 =>
    ((retV 3 r1).bind fun l1 =>
      (lp_ [1, 1, 1, 0, 1, 4] (st35_111014 names l l1 0 t_Kind t_Name l1))) := by kernel_rfl
theorem e35 (t_Kind : Int) (t_Name : List UInt8) (t_Args : List PV) (names : List PV) (l : List PV) : V 35 [.pv (.agg [.int .i64 t_Kind, .str t_Name, .lst t_Args]), .pv (.lst names), .pv (.lst l)] =
  bif (t_Kind == (5 : Int)) then
    ((V 63 [.pv (.lst names), .pv (.str t_Name)]).bind retPV).bind fun r =>
      (bif (Sh.int .i64).fits r then
        bif decide ((r.toInt) ≥ (0 : Int)) then
          L35_1012116 names l r.toInt (decide ((r.toInt) < (l.length : Int))) t_Kind t_Name t_Args
        else L35_1012116 names l r.toInt false t_Kind t_Name t_Args
      else none)
  else (V 76 [.pv (.lst t_Args)]).bind fun r1 =>
    ((retV 3 r1).bind fun l1 =>
      (L35_111014 names l l1 0 t_Kind t_Name l1)) :=
  (V_eq pa rfl _).trans (f35 t_Kind t_Name t_Args names l V (LV Pr T 35))
theorem f35_1012116 (names : List PV) (l : List PV) (v : Int) (b : Bool) (t_Kind : Int) (t_Name : List UInt8) (t_Args : List PV) (cl_ : FuncId → List Arg → Option Out) (lp_ : List Nat → AS → Option Out) : stepW Pr T cl_ lp_ 35 [1, 0, 1, 2, 1, 1, 6] (st35_1012116 names l v b t_Kind t_Name t_Args) =
  bif b then
    bif decide (0 ≤ v) then
      (l[v.toNat]?).bind fun x =>
        (bif (Sh.agg [Sh.int .i64, Sh.str, Sh.lst]).fits x then
          ((cl_ 39 [.pv (.agg [.int .i64 ((x.c 0).toInt), .str ((x.c 1).toStr), .lst ((x.c 2).toLst)])]).bind retPV).bind fun r =>
            (bif (Sh.agg [Sh.int .i64, Sh.str, Sh.lst]).fits r then
              some (.pv (.agg [.int .i64 ((r.c 0).toInt), .str ((r.c 1).toStr), .lst ((r.c 2).toLst)]), [])
            else none)
        else none)
    else none
  else (cl_ 76 [.pv (.lst t_Args)]).bind fun r1 =>
    ((retV 3 r1).bind fun l1 =>
      (lp_ [1, 1, 1, 0, 1, 4] (st35_111014 names l l1 0 t_Kind t_Name l1))) := by kernel_rfl
theorem e35_1012116 (names : List PV) (l : List PV) (v : Int) (b : Bool) (t_Kind : Int) (t_Name : List UInt8) (t_Args : List PV) : L35_1012116 names l v b t_Kind t_Name t_Args =
  bif b then
    bif decide (0 ≤ v) then
      (l[v.toNat]?).bind fun x =>
        (bif (Sh.agg [Sh.int .i64, Sh.str, Sh.lst]).fits x then
          ((V 39 [.pv (.agg [.int .i64 ((x.c 0).toInt), .str ((x.c 1).toStr), .lst ((x.c 2).toLst)])]).bind retPV).bind fun r =>
            (bif (Sh.agg [Sh.int .i64, Sh.str, Sh.lst]).fits r then
              some (.pv (.agg [.int .i64 ((r.c 0).toInt), .str ((r.c 1).toStr), .lst ((r.c 2).toLst)]), [])
            else none)
        else none)
    else none
  else (V 76 [.pv (.lst t_Args)]).bind fun r1 =>
    ((retV 3 r1).bind fun l1 =>
      (L35_111014 names l l1 0 t_Kind t_Name l1)) :=
  (LV_eq pa 35 _ _).trans (f35_1012116 names l v b t_Kind t_Name t_Args V (LV Pr T 35))
theorem f35_111014 (names : List PV) (l : List PV) (l1 : List PV) (i : Int) (t_Kind : Int) (t_Name : List UInt8) (l2 : List PV) (cl_ : FuncId → List Arg → Option Out) (lp_ : List Nat → AS → Option Out) : stepW Pr T cl_ lp_ 35 [1, 1, 1, 0, 1, 4] (st35_111014 names l l1 i t_Kind t_Name l2) =
  bif decide (i < (l1.length : Int)) then
    bif (decide (0 ≤ i) && decide (i < (l2.length : Int))) then
      (l2[i.toNat]?).bind fun y =>
        (bif (Sh.agg [Sh.int .i64, Sh.str, Sh.lst]).fits y then
          ((cl_ 35 [.pv (.agg [.int .i64 ((y.c 0).toInt), .str ((y.c 1).toStr), .lst ((y.c 2).toLst)]), .pv (.lst names), .pv (.lst l)]).bind retPV).bind fun r =>
            (bif (Sh.agg [Sh.int .i64, Sh.str, Sh.lst]).fits r then
              bif (decide (0 ≤ i) && decide (i < (l2.length : Int))) then
                (l2[i.toNat]?).bind fun z =>
                  (bif ((Sh.agg [Sh.int .i64, Sh.str, Sh.lst]).fits z && true) then
                    lp_ [1, 1, 1, 0, 1, 4] (st35_111014 names l l1 (IntKind.i64.wrap (i + (1 : Int))) t_Kind t_Name (l2.set i.toNat (.agg [.int .i64 ((r.c 0).toInt), .str ((r.c 1).toStr), .lst ((r.c 2).toLst)])))
                  else none)
              else none
            else none)
        else none)
    else none
  else some (.pv (.agg [.int .i64 t_Kind, .str t_Name, .lst l2]), []) := by kernel_rfl
theorem e35_111014 (names : List PV) (l : List PV) (l1 : List PV) (i : Int) (t_Kind : Int) (t_Name : List UInt8) (l2 : List PV) : L35_111014 names l l1 i t_Kind t_Name l2 =
  bif decide (i < (l1.length : Int)) then
    bif (decide (0 ≤ i) && decide (i < (l2.length : Int))) then
      (l2[i.toNat]?).bind fun y =>
        (bif (Sh.agg [Sh.int .i64, Sh.str, Sh.lst]).fits y then
          ((V 35 [.pv (.agg [.int .i64 ((y.c 0).toInt), .str ((y.c 1).toStr), .lst ((y.c 2).toLst)]), .pv (.lst names), .pv (.lst l)]).bind retPV).bind fun r =>
            (bif (Sh.agg [Sh.int .i64, Sh.str, Sh.lst]).fits r then
              bif (decide (0 ≤ i) && decide (i < (l2.length : Int))) then
                (l2[i.toNat]?).bind fun z =>
                  (bif ((Sh.agg [Sh.int .i64, Sh.str, Sh.lst]).fits z && true) then
                    L35_111014 names l l1 (IntKind.i64.wrap (i + (1 : Int))) t_Kind t_Name (l2.set i.toNat (.agg [.int .i64 ((r.c 0).toInt), .str ((r.c 1).toStr), .lst ((r.c 2).toLst)]))
                  else none)
              else none
            else none)
        else none)
    else none
  else some (.pv (.agg [.int .i64 t_Kind, .str t_Name, .lst l2]), []) :=
  (LV_eq pa 35 _ _).trans (f35_111014 names l l1 i t_Kind t_Name l2 V (LV Pr T 35))
/-! 36 roadstead/scheme.match -/
def st36_1016 (params : List PV) (v : Bool) (found : List (PV × PV)) (a_Kind : Int) (a_Name : List UInt8) (a_Args : List PV) (b_Kind : Int) (b_Name : List UInt8) (b_Args : List PV) : AS :=
  ⟨[.pv (.lst params), .any, .any, .mp 0, .any, .box 1 0, .box 2 0, .any, .any, .any, .any, .any, .any, .any, .any, .any, .any, .any, .any, .any, .any, .pv (.bool v), .any, .any, .any, .any, .any, .any, .any, .any, .any, .any, .any, .any, .any, .any, .any, .any, .any, .any, .any, .any, .any, .any, .any, .any, .any, .any, .any, .any, .any, .any, .any, .any, .any, .any, .any, .any, .any, .any, .any, .any, .any, .any, .any, .any, .any, .any, .any, .any, .any, .any, .any, .any, .any, .any, .any, .any], ⟨[(false, [.ment found]), (false, [.pv (.int .i64 a_Kind), .pv (.str a_Name), .pv (.lst a_Args)]), (false, [.pv (.int .i64 b_Kind), .pv (.str b_Name), .pv (.lst b_Args)])], [], [], 1, 0⟩⟩
noncomputable def L36_1016 (params : List PV) (v : Bool) (found : List (PV × PV)) (a_Kind : Int) (a_Name : List UInt8) (a_Args : List PV) (b_Kind : Int) (b_Name : List UInt8) (b_Args : List PV) : Option Out := LV Pr T 36 [1, 0, 1, 6] (st36_1016 params v found a_Kind a_Name a_Args b_Kind b_Name b_Args)
def st36_111014 (params : List PV) (a_Args : List PV) (i : Int) (found : List (PV × PV)) (a_Kind : Int) (a_Name : List UInt8) (b_Kind : Int) (b_Name : List UInt8) (b_Args : List PV) : AS :=
  ⟨[.pv (.lst params), .any, .any, .mp 0, .any, .any, .box 2 0, .any, .any, .any, .any, .any, .any, .any, .any, .any, .any, .any, .any, .any, .any, .any, .any, .any, .any, .any, .any, .any, .any, .any, .any, .any, .any, .any, .any, .any, .any, .any, .any, .any, .any, .any, .any, .any, .any, .any, .any, .any, .any, .any, .any, .any, .any, .any, .any, .any, .any, .any, .any, .any, .pv (.lst a_Args), .pv (.int .i64 (a_Args.length : Int)), .pv (.int .i64 i), .any, .any, .any, .any, .any, .any, .any, .any, .any, .any, .any, .any, .any, .any, .any], ⟨[(false, [.ment found]), (false, [.pv (.int .i64 a_Kind), .pv (.str a_Name), .pv (.lst a_Args)]), (false, [.pv (.int .i64 b_Kind), .pv (.str b_Name), .pv (.lst b_Args)])], [], [], 1, 0⟩⟩
noncomputable def L36_111014 (params : List PV) (a_Args : List PV) (i : Int) (found : List (PV × PV)) (a_Kind : Int) (a_Name : List UInt8) (b_Kind : Int) (b_Name : List UInt8) (b_Args : List PV) : Option Out := LV Pr T 36 [1, 1, 1, 0, 1, 4] (st36_111014 params a_Args i found a_Kind a_Name b_Kind b_Name b_Args)
theorem f36 (params : List PV) (a_Kind : Int) (a_Name : List UInt8) (a_Args : List PV) (b_Kind : Int) (b_Name : List UInt8) (b_Args : List PV) (found : List (PV × PV)) (cl_ : FuncId → List Arg → Option Out) (lp_ : List Nat → AS → Option Out) : runW Pr T cl_ lp_ 36 [.pv (.lst params), .pv (.agg [.int .i64 a_Kind, .str a_Name, .lst a_Args]), .pv (.agg [.int .i64 b_Kind, .str b_Name, .lst b_Args]), .map found] =
  bif (a_Kind == (5 : Int)) then
    ((cl_ 25 [.pv (.lst params), .pv (.str a_Name)]).bind retPV).bind fun r =>
      (bif (Sh.bool).fits r then
        lp_ [1, 0, 1, 6] (st36_1016 params r.toBool found a_Kind a_Name a_Args b_Kind b_Name b_Args)
      else none)
  else lp_ [1, 0, 1, 6] (st36_1016 params false found a_Kind a_Name a_Args b_Kind b_Name b_Args) := by kernel_rfl
theorem e36 (params : List PV) (a_Kind : Int) (a_Name : List UInt8) (a_Args : List PV) (b_Kind : Int) (b_Name : List UInt8) (b_Args : List PV) (found : List (PV × PV)) : V 36 [.pv (.lst params), .pv (.agg [.int .i64 a_Kind, .str a_Name, .lst a_Args]), .pv (.agg [.int .i64 b_Kind, .str b_Name, .lst b_Args]), .map found] =
  bif (a_Kind == (5 : Int)) then
    ((V 25 [.pv (.lst params), .pv (.str a_Name)]).bind retPV).bind fun r =>
      (bif (Sh.bool).fits r then
        L36_1016 params r.toBool found a_Kind a_Name a_Args b_Kind b_Name b_Args
      else none)
  else L36_1016 params false found a_Kind a_Name a_Args b_Kind b_Name b_Args :=
  (V_eq pa rfl _).trans (f36 params a_Kind a_Name a_Args b_Kind b_Name b_Args found V (LV Pr T 36))
theorem f36_1016 (params : List PV) (v : Bool) (found : List (PV × PV)) (a_Kind : Int) (a_Name : List UInt8) (a_Args : List PV) (b_Kind : Int) (b_Name : List UInt8) (b_Args : List PV) (cl_ : FuncId → List Arg → Option Out) (lp_ : List Nat → AS → Option Out) : stepW Pr T cl_ lp_ 36 [1, 0, 1, 6] (st36_1016 params v found a_Kind a_Name a_Args b_Kind b_Name b_Args) =
  bif v then
    (mget (.one .str) found (.str a_Name)).bind fun o =>
      (bif (Sh.agg [Sh.int .i64, Sh.str, Sh.lst]).fits (o.getD (.agg [.int .i64 0, .str [], .lst []])) then
        bif (!o.isSome) then
          (mset (.one .str) found (.str a_Name) (.agg [.int .i64 b_Kind, .str b_Name, .lst b_Args])).bind fun m =>
            (some (.pv (.bool true), [.map m]))
        else ((cl_ 77 [.pv (.agg [.int .i64 (((o.getD (.agg [.int .i64 0, .str [], .lst []])).c 0).toInt), .str (((o.getD (.agg [.int .i64 0, .str [], .lst []])).c 1).toStr), .lst (((o.getD (.agg [.int .i64 0, .str [], .lst []])).c 2).toLst)]), .pv (.agg [.int .i64 b_Kind, .str b_Name, .lst b_Args])]).bind retPV).bind fun r =>
          (bif (Sh.bool).fits r then
            some (.pv (.bool r.toBool), [.map found])
          else none)
      else none)
  else bif (a_Kind != b_Kind) then
    some (.pv (.bool false), [.map found])
  else bif (!(a_Name == b_Name)) then
    some (.pv (.bool false), [.map found])
  else bif ((a_Args.length : Int) != (b_Args.length : Int)) then
    some (.pv (.bool false), [.map found])
  else lp_ [1, 1, 1, 0, 1, 4] (st36_111014 params a_Args 0 found a_Kind a_Name b_Kind b_Name b_Args) := by kernel_rfl
theorem e36_1016 (params : List PV) (v : Bool) (found : List (PV × PV)) (a_Kind : Int) (a_Name : List UInt8) (a_Args : List PV) (b_Kind : Int) (b_Name : List UInt8) (b_Args : List PV) : L36_1016 params v found a_Kind a_Name a_Args b_Kind b_Name b_Args =
  bif v then
    (mget (.one .str) found (.str a_Name)).bind fun o =>
      (bif (Sh.agg [Sh.int .i64, Sh.str, Sh.lst]).fits (o.getD (.agg [.int .i64 0, .str [], .lst []])) then
        bif (!o.isSome) then
          (mset (.one .str) found (.str a_Name) (.agg [.int .i64 b_Kind, .str b_Name, .lst b_Args])).bind fun m =>
            (some (.pv (.bool true), [.map m]))
        else ((V 77 [.pv (.agg [.int .i64 (((o.getD (.agg [.int .i64 0, .str [], .lst []])).c 0).toInt), .str (((o.getD (.agg [.int .i64 0, .str [], .lst []])).c 1).toStr), .lst (((o.getD (.agg [.int .i64 0, .str [], .lst []])).c 2).toLst)]), .pv (.agg [.int .i64 b_Kind, .str b_Name, .lst b_Args])]).bind retPV).bind fun r =>
          (bif (Sh.bool).fits r then
            some (.pv (.bool r.toBool), [.map found])
          else none)
      else none)
  else bif (a_Kind != b_Kind) then
    some (.pv (.bool false), [.map found])
  else bif (!(a_Name == b_Name)) then
    some (.pv (.bool false), [.map found])
  else bif ((a_Args.length : Int) != (b_Args.length : Int)) then
    some (.pv (.bool false), [.map found])
  else L36_111014 params a_Args 0 found a_Kind a_Name b_Kind b_Name b_Args :=
  (LV_eq pa 36 _ _).trans (f36_1016 params v found a_Kind a_Name a_Args b_Kind b_Name b_Args V (LV Pr T 36))
theorem f36_111014 (params : List PV) (a_Args : List PV) (i : Int) (found : List (PV × PV)) (a_Kind : Int) (a_Name : List UInt8) (b_Kind : Int) (b_Name : List UInt8) (b_Args : List PV) (cl_ : FuncId → List Arg → Option Out) (lp_ : List Nat → AS → Option Out) : stepW Pr T cl_ lp_ 36 [1, 1, 1, 0, 1, 4] (st36_111014 params a_Args i found a_Kind a_Name b_Kind b_Name b_Args) =
  bif decide (i < (a_Args.length : Int)) then
    bif decide (0 ≤ i) then
      (a_Args[i.toNat]?).bind fun x =>
        (bif (Sh.agg [Sh.int .i64, Sh.str, Sh.lst]).fits x then
          bif decide (0 ≤ i) then
            (b_Args[i.toNat]?).bind fun x1 =>
              (bif (Sh.agg [Sh.int .i64, Sh.str, Sh.lst]).fits x1 then
                (cl_ 36 [.pv (.lst params), .pv (.agg [.int .i64 ((x.c 0).toInt), .str ((x.c 1).toStr), .lst ((x.c 2).toLst)]), .pv (.agg [.int .i64 ((x1.c 0).toInt), .str ((x1.c 1).toStr), .lst ((x1.c 2).toLst)]), .map found]).bind fun r =>
                  (bif refFits [(0, none)] [] r.2 then
                    (retPV (r.1, [])).bind fun r1 =>
                      (bif (Sh.bool).fits r1 then
                        bif (!r1.toBool) then
                          some (.pv (.bool false), [.map (Out.m r 0)])
                        else lp_ [1, 1, 1, 0, 1, 4] (st36_111014 params a_Args (IntKind.i64.wrap (i + (1 : Int))) (Out.m r 0) a_Kind a_Name b_Kind b_Name b_Args)
                      else none)
                  else none)
              else none)
          else none
        else none)
    else none
  else some (.pv (.bool true), [.map found]) := by kernel_rfl
theorem e36_111014 (params : List PV) (a_Args : List PV) (i : Int) (found : List (PV × PV)) (a_Kind : Int) (a_Name : List UInt8) (b_Kind : Int) (b_Name : List UInt8) (b_Args : List PV) : L36_111014 params a_Args i found a_Kind a_Name b_Kind b_Name b_Args =
  bif decide (i < (a_Args.length : Int)) then
    bif decide (0 ≤ i) then
      (a_Args[i.toNat]?).bind fun x =>
        (bif (Sh.agg [Sh.int .i64, Sh.str, Sh.lst]).fits x then
          bif decide (0 ≤ i) then
            (b_Args[i.toNat]?).bind fun x1 =>
              (bif (Sh.agg [Sh.int .i64, Sh.str, Sh.lst]).fits x1 then
                (V 36 [.pv (.lst params), .pv (.agg [.int .i64 ((x.c 0).toInt), .str ((x.c 1).toStr), .lst ((x.c 2).toLst)]), .pv (.agg [.int .i64 ((x1.c 0).toInt), .str ((x1.c 1).toStr), .lst ((x1.c 2).toLst)]), .map found]).bind fun r =>
                  (bif refFits [(0, none)] [] r.2 then
                    (retPV (r.1, [])).bind fun r1 =>
                      (bif (Sh.bool).fits r1 then
                        bif (!r1.toBool) then
                          some (.pv (.bool false), [.map (Out.m r 0)])
                        else L36_111014 params a_Args (IntKind.i64.wrap (i + (1 : Int))) (Out.m r 0) a_Kind a_Name b_Kind b_Name b_Args
                      else none)
                  else none)
              else none)
          else none
        else none)
    else none
  else some (.pv (.bool true), [.map found]) :=
  (LV_eq pa 36 _ _).trans (f36_111014 params a_Args i found a_Kind a_Name b_Kind b_Name b_Args V (LV Pr T 36))
/-! 37 slices.ContainsFunc[[]roadstead/api.Type,roadstead/api.Type] -/
theorem f37 (s : List PV) (f_f : FuncId) (f_c : List PV) (cl_ : FuncId → List Arg → Option Out) (lp_ : List Nat → AS → Option Out) : runW Pr T cl_ lp_ 37 [.pv (.lst s), .pv (.fn f_f f_c)] =
  ((cl_ 78 [.pv (.lst s), .pv (.fn f_f f_c)]).bind retPV).bind fun r =>
    (bif (Sh.int .i64).fits r then
      some (.pv (.bool (decide ((r.toInt) ≥ (0 : Int)))), [])
    else none) := by kernel_rfl
theorem e37 (s : List PV) (f_f : FuncId) (f_c : List PV) : V 37 [.pv (.lst s), .pv (.fn f_f f_c)] =
  ((V 78 [.pv (.lst s), .pv (.fn f_f f_c)]).bind retPV).bind fun r =>
    (bif (Sh.int .i64).fits r then
      some (.pv (.bool (decide ((r.toInt) ≥ (0 : Int)))), [])
    else none) :=
  (V_eq pa rfl _).trans (f37 s f_f f_c V (LV Pr T 37))
/-! 38 roadstead/roadkeep2.pure$1 -/
theorem f38 (x_Kind : Int) (x_Name : List UInt8) (x_Args : List PV) (cl_ : FuncId → List Arg → Option Out) (lp_ : List Nat → AS → Option Out) : runW Pr T cl_ lp_ 38 [.pv (.agg [.int .i64 x_Kind, .str x_Name, .lst x_Args])] =
  ((cl_ 12 [.pv (.agg [.int .i64 x_Kind, .str x_Name, .lst x_Args])]).bind retPV).bind fun r =>
    (bif (Sh.bool).fits r then
      some (.pv (.bool (!r.toBool)), [])
    else none) := by kernel_rfl
theorem e38 (x_Kind : Int) (x_Name : List UInt8) (x_Args : List PV) : V 38 [.pv (.agg [.int .i64 x_Kind, .str x_Name, .lst x_Args])] =
  ((V 12 [.pv (.agg [.int .i64 x_Kind, .str x_Name, .lst x_Args])]).bind retPV).bind fun r =>
    (bif (Sh.bool).fits r then
      some (.pv (.bool (!r.toBool)), [])
    else none) :=
  (V_eq pa rfl _).trans (f38 x_Kind x_Name x_Args V (LV Pr T 38))
/-! 39 roadstead/kind.Copy -/
theorem f39 (t_Kind : Int) (t_Name : List UInt8) (t_Args : List PV) (cl_ : FuncId → List Arg → Option Out) (lp_ : List Nat → AS → Option Out) : runW Pr T cl_ lp_ 39 [.pv (.agg [.int .i64 t_Kind, .str t_Name, .lst t_Args])] =
  ((cl_ 35 [.pv (.agg [.int .i64 t_Kind, .str t_Name, .lst t_Args]), .pv (.lst []), .pv (.lst [])]).bind retPV).bind fun r =>
    (bif (Sh.agg [Sh.int .i64, Sh.str, Sh.lst]).fits r then
      some (.pv (.agg [.int .i64 ((r.c 0).toInt), .str ((r.c 1).toStr), .lst ((r.c 2).toLst)]), [])
    else none) := by kernel_rfl
theorem e39 (t_Kind : Int) (t_Name : List UInt8) (t_Args : List PV) : V 39 [.pv (.agg [.int .i64 t_Kind, .str t_Name, .lst t_Args])] =
  ((V 35 [.pv (.agg [.int .i64 t_Kind, .str t_Name, .lst t_Args]), .pv (.lst []), .pv (.lst [])]).bind retPV).bind fun r =>
    (bif (Sh.agg [Sh.int .i64, Sh.str, Sh.lst]).fits r then
      some (.pv (.agg [.int .i64 ((r.c 0).toInt), .str ((r.c 1).toStr), .lst ((r.c 2).toLst)]), [])
    else none) :=
  (V_eq pa rfl _).trans (f39 t_Kind t_Name t_Args V (LV Pr T 39))
/-! 40 roadstead/unify.unknowns -/
def st40_1016 (out : List PV) (b : Bool) (t_Kind : Int) (t_Name : List UInt8) (t_Args : List PV) : AS :=
  ⟨[.any, .bld 0 0 out, .box 0 0, .any, .any, .any, .any, .any, .any, .any, .any, .any, .any, .any, .any, .pv (.bool b), .any, .any, .any, .any, .any, .any, .any, .any, .any, .any, .any, .any, .any, .any, .any, .any, .any], ⟨[(false, [.pv (.int .i64 t_Kind), .pv (.str t_Name), .pv (.lst t_Args)])], [], [(0, 1)], 0, 0⟩⟩
noncomputable def L40_1016 (out : List PV) (b : Bool) (t_Kind : Int) (t_Name : List UInt8) (t_Args : List PV) : Option Out := LV Pr T 40 [1, 0, 1, 6] (st40_1016 out b t_Kind t_Name t_Args)
def st40_116 (l : List PV) (t_Kind : Int) (t_Name : List UInt8) (t_Args : List PV) : AS :=
  ⟨[.any, .bld 0 0 l, .box 0 0, .any, .any, .any, .any, .any, .any, .any, .any, .any, .any, .any, .any, .any, .any, .any, .any, .any, .any, .any, .any, .any, .any, .any, .any, .any, .any, .any, .any, .any, .any], ⟨[(false, [.pv (.int .i64 t_Kind), .pv (.str t_Name), .pv (.lst t_Args)])], [], [(0, 1)], 0, 0⟩⟩
noncomputable def L40_116 (l : List PV) (t_Kind : Int) (t_Name : List UInt8) (t_Args : List PV) : Option Out := LV Pr T 40 [1, 1, 6] (st40_116 l t_Kind t_Name t_Args)
def st40_11014 (l : List PV) (t_Args : List PV) (i : Int) : AS :=
  ⟨[.any, .bld 0 0 l, .any, .any, .any, .any, .any, .any, .any, .any, .any, .any, .any, .any, .any, .any, .any, .any, .any, .any, .any, .any, .pv (.lst t_Args), .pv (.int .i64 (t_Args.length : Int)), .pv (.int .i64 i), .any, .any, .any, .any, .any, .any, .any, .any], ⟨[], [], [(0, 1)], 0, 0⟩⟩
noncomputable def L40_11014 (l : List PV) (t_Args : List PV) (i : Int) : Option Out := LV Pr T 40 [1, 1, 0, 1, 4] (st40_11014 l t_Args i)
theorem f40 (t_Kind : Int) (t_Name : List UInt8) (t_Args : List PV) (out : List PV) (cl_ : FuncId → List Arg → Option Out) (lp_ : List Nat → AS → Option Out) : runW Pr T cl_ lp_ 40 [.pv (.agg [.int .i64 t_Kind, .str t_Name, .lst t_Args]), .bld 1 out] =
  ((cl_ 79 [.pv (.agg [.int .i64 t_Kind, .str t_Name, .lst t_Args])]).bind retPV).bind fun r =>
    (bif (Sh.bool).fits r then
      bif r.toBool then
        ((cl_ 25 [.pv (.lst out), .pv (.str t_Name)]).bind retPV).bind fun r1 =>
          (bif (Sh.bool).fits r1 then
            lp_ [1, 0, 1, 6] (st40_1016 out (!r1.toBool) t_Kind t_Name t_Args)
          else none)
      else lp_ [1, 0, 1, 6] (st40_1016 out false t_Kind t_Name t_Args)
    else none) := by kernel_rfl
theorem e40 (t_Kind : Int) (t_Name : List UInt8) (t_Args : List PV) (out : List PV) : V 40 [.pv (.agg [.int .i64 t_Kind, .str t_Name, .lst t_Args]), .bld 1 out] =
  ((V 79 [.pv (.agg [.int .i64 t_Kind, .str t_Name, .lst t_Args])]).bind retPV).bind fun r =>
    (bif (Sh.bool).fits r then
      bif r.toBool then
        ((V 25 [.pv (.lst out), .pv (.str t_Name)]).bind retPV).bind fun r1 =>
          (bif (Sh.bool).fits r1 then
            L40_1016 out (!r1.toBool) t_Kind t_Name t_Args
          else none)
      else L40_1016 out false t_Kind t_Name t_Args
    else none) :=
  (V_eq pa rfl _).trans (f40 t_Kind t_Name t_Args out V (LV Pr T 40))
theorem f40_1016 (out : List PV) (b : Bool) (t_Kind : Int) (t_Name : List UInt8) (t_Args : List PV) (cl_ : FuncId → List Arg → Option Out) (lp_ : List Nat → AS → Option Out) : stepW Pr T cl_ lp_ 40 [1, 0, 1, 6] (st40_1016 out b t_Kind t_Name t_Args) =
  bif b then
    bif small (out.length) 1 16 then
      lp_ [1, 1, 6] (st40_116 (out ++ ([.str t_Name] : List PV)) t_Kind t_Name t_Args)
    else none
  else lp_ [1, 1, 6] (st40_116 out t_Kind t_Name t_Args) := by kernel_rfl
theorem e40_1016 (out : List PV) (b : Bool) (t_Kind : Int) (t_Name : List UInt8) (t_Args : List PV) : L40_1016 out b t_Kind t_Name t_Args =
  bif b then
    bif small (out.length) 1 16 then
      L40_116 (out ++ ([.str t_Name] : List PV)) t_Kind t_Name t_Args
    else none
  else L40_116 out t_Kind t_Name t_Args :=
  (LV_eq pa 40 _ _).trans (f40_1016 out b t_Kind t_Name t_Args V (LV Pr T 40))
theorem f40_116 (l : List PV) (t_Kind : Int) (t_Name : List UInt8) (t_Args : List PV) (cl_ : FuncId → List Arg → Option Out) (lp_ : List Nat → AS → Option Out) : stepW Pr T cl_ lp_ 40 [1, 1, 6] (st40_116 l t_Kind t_Name t_Args) =
  lp_ [1, 1, 0, 1, 4] (st40_11014 l t_Args 0) := by kernel_rfl
theorem e40_116 (l : List PV) (t_Kind : Int) (t_Name : List UInt8) (t_Args : List PV) : L40_116 l t_Kind t_Name t_Args =
  L40_11014 l t_Args 0 :=
  (LV_eq pa 40 _ _).trans (f40_116 l t_Kind t_Name t_Args V (LV Pr T 40))
theorem f40_11014 (l : List PV) (t_Args : List PV) (i : Int) (cl_ : FuncId → List Arg → Option Out) (lp_ : List Nat → AS → Option Out) : stepW Pr T cl_ lp_ 40 [1, 1, 0, 1, 4] (st40_11014 l t_Args i) =
  bif decide (i < (t_Args.length : Int)) then
    bif decide (0 ≤ i) then
      (t_Args[i.toNat]?).bind fun x =>
        (bif (Sh.agg [Sh.int .i64, Sh.str, Sh.lst]).fits x then
          (cl_ 40 [.pv (.agg [.int .i64 ((x.c 0).toInt), .str ((x.c 1).toStr), .lst ((x.c 2).toLst)]), .bld 1 l]).bind fun r =>
            ((retB 1 r).bind fun l1 =>
              (lp_ [1, 1, 0, 1, 4] (st40_11014 l1 t_Args (IntKind.i64.wrap (i + (1 : Int))))))
        else none)
    else none
  else some (.bld 1 l, []) := by kernel_rfl
theorem e40_11014 (l : List PV) (t_Args : List PV) (i : Int) : L40_11014 l t_Args i =
  bif decide (i < (t_Args.length : Int)) then
    bif decide (0 ≤ i) then
      (t_Args[i.toNat]?).bind fun x =>
        (bif (Sh.agg [Sh.int .i64, Sh.str, Sh.lst]).fits x then
          (V 40 [.pv (.agg [.int .i64 ((x.c 0).toInt), .str ((x.c 1).toStr), .lst ((x.c 2).toLst)]), .bld 1 l]).bind fun r =>
            ((retB 1 r).bind fun l1 =>
              (L40_11014 l1 t_Args (IntKind.i64.wrap (i + (1 : Int)))))
        else none)
    else none
  else some (.bld 1 l, []) :=
  (LV_eq pa 40 _ _).trans (f40_11014 l t_Args i V (LV Pr T 40))
/-! 63 slices.Index[[]string,string] -/
def st63_1014 (s : List PV) (v : List UInt8) (i : Int) : AS :=
  ⟨[.pv (.lst s), .pv (.str v), .any, .any, .any, .any, .any, .pv (.int .i64 (s.length : Int)), .pv (.int .i64 i), .any, .any, .any, .any, .any, .any, .any, .any, .any, .any], ⟨[], [], [], 0, 0⟩⟩
noncomputable def L63_1014 (s : List PV) (v : List UInt8) (i : Int) : Option Out := LV Pr T 63 [1, 0, 1, 4] (st63_1014 s v i)
theorem f63 (s : List PV) (v : List UInt8) (cl_ : FuncId → List Arg → Option Out) (lp_ : List Nat → AS → Option Out) : runW Pr T cl_ lp_ 63 [.pv (.lst s), .pv (.str v)] =
  lp_ [1, 0, 1, 4] (st63_1014 s v 0) := by kernel_rfl
theorem e63 (s : List PV) (v : List UInt8) : V 63 [.pv (.lst s), .pv (.str v)] =
  L63_1014 s v 0 :=
  (V_eq pa rfl _).trans (f63 s v V (LV Pr T 63))
theorem f63_1014 (s : List PV) (v : List UInt8) (i : Int) (cl_ : FuncId → List Arg → Option Out) (lp_ : List Nat → AS → Option Out) : stepW Pr T cl_ lp_ 63 [1, 0, 1, 4] (st63_1014 s v i) =
  bif decide (i < (s.length : Int)) then
    bif decide (0 ≤ i) then
      (s[i.toNat]?).bind fun x =>
        (bif (Sh.str).fits x then
          bif (v == x.toStr) then
            some (.pv (.int .i64 i), [])
          else lp_ [1, 0, 1, 4] (st63_1014 s v (IntKind.i64.wrap (i + (1 : Int))))
        else none)
    else none
  else some (.pv (.int .i64 (-1)), []) := by kernel_rfl
theorem e63_1014 (s : List PV) (v : List UInt8) (i : Int) : L63_1014 s v i =
  bif decide (i < (s.length : Int)) then
    bif decide (0 ≤ i) then
      (s[i.toNat]?).bind fun x =>
        (bif (Sh.str).fits x then
          bif (v == x.toStr) then
            some (.pv (.int .i64 i), [])
          else L63_1014 s v (IntKind.i64.wrap (i + (1 : Int)))
        else none)
    else none
  else some (.pv (.int .i64 (-1)), []) :=
  (LV_eq pa 63 _ _).trans (f63_1014 s v i V (LV Pr T 63))
/-! 77 roadstead/tree.SameType -/
theorem f77 (a_Kind : Int) (a_Name : List UInt8) (a_Args : List PV) (b_Kind : Int) (b_Name : List UInt8) (b_Args : List PV) (cl_ : FuncId → List Arg → Option Out) (lp_ : List Nat → AS → Option Out) : runW Pr T cl_ lp_ 77 [.pv (.agg [.int .i64 a_Kind, .str a_Name, .lst a_Args]), .pv (.agg [.int .i64 b_Kind, .str b_Name, .lst b_Args])] =
  bif (a_Kind == b_Kind) then
    bif (a_Name == b_Name) then
      ((cl_ 105 [.pv (.lst a_Args), .pv (.lst b_Args), .pv (.fn 77 [])]).bind retPV).bind fun r =>
        (bif (Sh.bool).fits r then
          some (.pv (.bool r.toBool), [])
        else none)
    else some (.pv (.bool false), [])
  else some (.pv (.bool false), []) := by kernel_rfl
theorem e77 (a_Kind : Int) (a_Name : List UInt8) (a_Args : List PV) (b_Kind : Int) (b_Name : List UInt8) (b_Args : List PV) : V 77 [.pv (.agg [.int .i64 a_Kind, .str a_Name, .lst a_Args]), .pv (.agg [.int .i64 b_Kind, .str b_Name, .lst b_Args])] =
  bif (a_Kind == b_Kind) then
    bif (a_Name == b_Name) then
      ((V 105 [.pv (.lst a_Args), .pv (.lst b_Args), .pv (.fn 77 [])]).bind retPV).bind fun r =>
        (bif (Sh.bool).fits r then
          some (.pv (.bool r.toBool), [])
        else none)
    else some (.pv (.bool false), [])
  else some (.pv (.bool false), []) :=
  (V_eq pa rfl _).trans (f77 a_Kind a_Name a_Args b_Kind b_Name b_Args V (LV Pr T 77))
/-! 78 slices.IndexFunc[[]roadstead/api.Type,roadstead/api.Type] -/
def st78_1014 (s : List PV) (f_f : FuncId) (f_c : List PV) (i : Int) : AS :=
  ⟨[.pv (.lst s), .pv (.fn f_f f_c), .any, .any, .any, .any, .any, .pv (.int .i64 (s.length : Int)), .pv (.int .i64 i), .any, .any, .any, .any, .any, .any, .any, .any, .any, .any], ⟨[], [], [], 0, 0⟩⟩
noncomputable def L78_1014 (s : List PV) (f_f : FuncId) (f_c : List PV) (i : Int) : Option Out := LV Pr T 78 [1, 0, 1, 4] (st78_1014 s f_f f_c i)
theorem f78 (s : List PV) (f_f : FuncId) (f_c : List PV) (cl_ : FuncId → List Arg → Option Out) (lp_ : List Nat → AS → Option Out) : runW Pr T cl_ lp_ 78 [.pv (.lst s), .pv (.fn f_f f_c)] =
  lp_ [1, 0, 1, 4] (st78_1014 s f_f f_c 0) := by kernel_rfl
theorem e78 (s : List PV) (f_f : FuncId) (f_c : List PV) : V 78 [.pv (.lst s), .pv (.fn f_f f_c)] =
  L78_1014 s f_f f_c 0 :=
  (V_eq pa rfl _).trans (f78 s f_f f_c V (LV Pr T 78))
theorem f78_1014 (s : List PV) (f_f : FuncId) (f_c : List PV) (i : Int) (cl_ : FuncId → List Arg → Option Out) (lp_ : List Nat → AS → Option Out) : stepW Pr T cl_ lp_ 78 [1, 0, 1, 4] (st78_1014 s f_f f_c i) =
  bif decide (i < (s.length : Int)) then
    bif decide (0 ≤ i) then
      (s[i.toNat]?).bind fun x =>
        (bif (Sh.agg [Sh.int .i64, Sh.str, Sh.lst]).fits x then
          ((cl_ f_f ((([.agg [.int .i64 ((x.c 0).toInt), .str ((x.c 1).toStr), .lst ((x.c 2).toLst)]] : List PV) ++ f_c).map .pv)).bind retPV).bind fun r =>
            (bif (Sh.bool).fits r then
              bif r.toBool then
                some (.pv (.int .i64 i), [])
              else lp_ [1, 0, 1, 4] (st78_1014 s f_f f_c (IntKind.i64.wrap (i + (1 : Int))))
            else none)
        else none)
    else none
  else some (.pv (.int .i64 (-1)), []) := by kernel_rfl
theorem e78_1014 (s : List PV) (f_f : FuncId) (f_c : List PV) (i : Int) : L78_1014 s f_f f_c i =
  bif decide (i < (s.length : Int)) then
    bif decide (0 ≤ i) then
      (s[i.toNat]?).bind fun x =>
        (bif (Sh.agg [Sh.int .i64, Sh.str, Sh.lst]).fits x then
          ((V f_f ((([.agg [.int .i64 ((x.c 0).toInt), .str ((x.c 1).toStr), .lst ((x.c 2).toLst)]] : List PV) ++ f_c).map .pv)).bind retPV).bind fun r =>
            (bif (Sh.bool).fits r then
              bif r.toBool then
                some (.pv (.int .i64 i), [])
              else L78_1014 s f_f f_c (IntKind.i64.wrap (i + (1 : Int)))
            else none)
        else none)
    else none
  else some (.pv (.int .i64 (-1)), []) :=
  (LV_eq pa 78 _ _).trans (f78_1014 s f_f f_c i V (LV Pr T 78))
/-! 79 roadstead/unify.Unknown -/
theorem f79 (t_Kind : Int) (t_Name : List UInt8) (t_Args : List PV) (cl_ : FuncId → List Arg → Option Out) (lp_ : List Nat → AS → Option Out) : runW Pr T cl_ lp_ 79 [.pv (.agg [.int .i64 t_Kind, .str t_Name, .lst t_Args])] =
  bif (t_Kind == (5 : Int)) then
    bif ((t_Args.length : Int) == (0 : Int)) then
      ((cl_ 106 [.pv (.str t_Name), .pv (.str [63])]).bind retPV).bind fun r =>
        (bif (Sh.bool).fits r then
          some (.pv (.bool r.toBool), [])
        else none)
    else some (.pv (.bool false), [])
  else some (.pv (.bool false), []) := by kernel_rfl
theorem e79 (t_Kind : Int) (t_Name : List UInt8) (t_Args : List PV) : V 79 [.pv (.agg [.int .i64 t_Kind, .str t_Name, .lst t_Args])] =
  bif (t_Kind == (5 : Int)) then
    bif ((t_Args.length : Int) == (0 : Int)) then
      ((V 106 [.pv (.str t_Name), .pv (.str [63])]).bind retPV).bind fun r =>
        (bif (Sh.bool).fits r then
          some (.pv (.bool r.toBool), [])
        else none)
    else some (.pv (.bool false), [])
  else some (.pv (.bool false), []) :=
  (V_eq pa rfl _).trans (f79 t_Kind t_Name t_Args V (LV Pr T 79))
/-! 105 slices.EqualFunc[[]roadstead/api.Type,[]roadstead/api.Type,roadstead/api.Type,roadstead/api.Type] -/
def st105_11014 (s2 : List PV) (eq_f : FuncId) (eq_c : List PV) (s1 : List PV) (i : Int) : AS :=
  ⟨[.any, .pv (.lst s2), .pv (.fn eq_f eq_c), .any, .any, .any, .any, .any, .any, .any, .any, .any, .any, .any, .any, .pv (.lst s1), .pv (.int .i64 (s1.length : Int)), .pv (.int .i64 i), .any, .any, .any, .any, .any, .any, .any, .any, .any, .any, .any, .any, .any, .any], ⟨[], [], [], 0, 0⟩⟩
noncomputable def L105_11014 (s2 : List PV) (eq_f : FuncId) (eq_c : List PV) (s1 : List PV) (i : Int) : Option Out := LV Pr T 105 [1, 1, 0, 1, 4] (st105_11014 s2 eq_f eq_c s1 i)
theorem f105 (s1 : List PV) (s2 : List PV) (eq_f : FuncId) (eq_c : List PV) (cl_ : FuncId → List Arg → Option Out) (lp_ : List Nat → AS → Option Out) : runW Pr T cl_ lp_ 105 [.pv (.lst s1), .pv (.lst s2), .pv (.fn eq_f eq_c)] =
  bif ((s1.length : Int) != (s2.length : Int)) then
    some (.pv (.bool false), [])
  else lp_ [1, 1, 0, 1, 4] (st105_11014 s2 eq_f eq_c s1 0) := by kernel_rfl
theorem e105 (s1 : List PV) (s2 : List PV) (eq_f : FuncId) (eq_c : List PV) : V 105 [.pv (.lst s1), .pv (.lst s2), .pv (.fn eq_f eq_c)] =
  bif ((s1.length : Int) != (s2.length : Int)) then
    some (.pv (.bool false), [])
  else L105_11014 s2 eq_f eq_c s1 0 :=
  (V_eq pa rfl _).trans (f105 s1 s2 eq_f eq_c V (LV Pr T 105))
theorem f105_11014 (s2 : List PV) (eq_f : FuncId) (eq_c : List PV) (s1 : List PV) (i : Int) (cl_ : FuncId → List Arg → Option Out) (lp_ : List Nat → AS → Option Out) : stepW Pr T cl_ lp_ 105 [1, 1, 0, 1, 4] (st105_11014 s2 eq_f eq_c s1 i) =
  bif decide (i < (s1.length : Int)) then
    bif decide (0 ≤ i) then
      (s1[i.toNat]?).bind fun x =>
        (bif (Sh.agg [Sh.int .i64, Sh.str, Sh.lst]).fits x then
          bif decide (0 ≤ i) then
            (s2[i.toNat]?).bind fun x1 =>
              (bif (Sh.agg [Sh.int .i64, Sh.str, Sh.lst]).fits x1 then
                ((cl_ eq_f ((([.agg [.int .i64 ((x.c 0).toInt), .str ((x.c 1).toStr), .lst ((x.c 2).toLst)], .agg [.int .i64 ((x1.c 0).toInt), .str ((x1.c 1).toStr), .lst ((x1.c 2).toLst)]] : List PV) ++ eq_c).map .pv)).bind retPV).bind fun r =>
                  (bif (Sh.bool).fits r then
                    bif (!r.toBool) then
                      some (.pv (.bool false), [])
                    else lp_ [1, 1, 0, 1, 4] (st105_11014 s2 eq_f eq_c s1 (IntKind.i64.wrap (i + (1 : Int))))
                  else none)
              else none)
          else none
        else none)
    else none
  else some (.pv (.bool true), []) := by kernel_rfl
theorem e105_11014 (s2 : List PV) (eq_f : FuncId) (eq_c : List PV) (s1 : List PV) (i : Int) : L105_11014 s2 eq_f eq_c s1 i =
  bif decide (i < (s1.length : Int)) then
    bif decide (0 ≤ i) then
      (s1[i.toNat]?).bind fun x =>
        (bif (Sh.agg [Sh.int .i64, Sh.str, Sh.lst]).fits x then
          bif decide (0 ≤ i) then
            (s2[i.toNat]?).bind fun x1 =>
              (bif (Sh.agg [Sh.int .i64, Sh.str, Sh.lst]).fits x1 then
                ((V eq_f ((([.agg [.int .i64 ((x.c 0).toInt), .str ((x.c 1).toStr), .lst ((x.c 2).toLst)], .agg [.int .i64 ((x1.c 0).toInt), .str ((x1.c 1).toStr), .lst ((x1.c 2).toLst)]] : List PV) ++ eq_c).map .pv)).bind retPV).bind fun r =>
                  (bif (Sh.bool).fits r then
                    bif (!r.toBool) then
                      some (.pv (.bool false), [])
                    else L105_11014 s2 eq_f eq_c s1 (IntKind.i64.wrap (i + (1 : Int)))
                  else none)
              else none)
          else none
        else none)
    else none
  else some (.pv (.bool true), []) :=
  (LV_eq pa 105 _ _).trans (f105_11014 s2 eq_f eq_c s1 i V (LV Pr T 105))
/-! 106 strings.HasPrefix -/
theorem f106 (s : List UInt8) (prefix_ : List UInt8) (cl_ : FuncId → List Arg → Option Out) (lp_ : List Nat → AS → Option Out) : runW Pr T cl_ lp_ 106 [.pv (.str s), .pv (.str prefix_)] =
  ((cl_ 125 [.pv (.str s), .pv (.str prefix_)]).bind retPV).bind fun r =>
    (bif (Sh.bool).fits r then
      some (.pv (.bool r.toBool), [])
    else none) := by kernel_rfl
theorem e106 (s : List UInt8) (prefix_ : List UInt8) : V 106 [.pv (.str s), .pv (.str prefix_)] =
  ((V 125 [.pv (.str s), .pv (.str prefix_)]).bind retPV).bind fun r =>
    (bif (Sh.bool).fits r then
      some (.pv (.bool r.toBool), [])
    else none) :=
  (V_eq pa rfl _).trans (f106 s prefix_ V (LV Pr T 106))
/-! 125 internal/stringslite.HasPrefix -/
theorem f125 (s : List UInt8) (prefix_ : List UInt8) (cl_ : FuncId → List Arg → Option Out) (lp_ : List Nat → AS → Option Out) : runW Pr T cl_ lp_ 125 [.pv (.str s), .pv (.str prefix_)] =
  bif decide ((s.length : Int) ≥ (prefix_.length : Int)) then
    bif (decide (0 ≤ (prefix_.length : Int)) && decide ((prefix_.length : Int) ≤ (s.length : Int))) then
      some (.pv (.bool ((s.take (prefix_.length : Int).toNat) == prefix_)), [])
    else none
  else some (.pv (.bool false), []) := by kernel_rfl
theorem e125 (s : List UInt8) (prefix_ : List UInt8) : V 125 [.pv (.str s), .pv (.str prefix_)] =
  bif decide ((s.length : Int) ≥ (prefix_.length : Int)) then
    bif (decide (0 ≤ (prefix_.length : Int)) && decide ((prefix_.length : Int) ≤ (s.length : Int))) then
      some (.pv (.bool ((s.take (prefix_.length : Int).toNat) == prefix_)), [])
    else none
  else some (.pv (.bool false), []) :=
  (V_eq pa rfl _).trans (f125 s prefix_ V (LV Pr T 125))
end Go.AL.S5
