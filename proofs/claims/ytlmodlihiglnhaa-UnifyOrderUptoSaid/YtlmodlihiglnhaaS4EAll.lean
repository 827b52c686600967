/- Equations of functions in the abstract machine: printed by gen.py. -/
import Derived.Test.YtlmodlihiglnhaaS4T
set_option linter.unusedVariables false
set_option maxRecDepth 100000
namespace Go.AL.S4
open Go Go.AL
/-! 5 roadstead/roadkeep2.UnifyOrder -/
def st5_1111014 (pairs : List PV) : AS :=
  ⟨[.pv (.lst pairs), .any, .any, .pv .nils, .any, .any, .any, .any, .any, .any, .any, .any, .any, .any, .any, .pv (.lst pairs), .pv (.int .i64 (pairs.length : Int)), .pv (.int .i64 0), .any, .any, .any, .any, .any, .any, .any, .any, .any, .any, .any, .any, .any, .any, .any, .any, .any, .any, .any, .any, .any, .any, .any, .any, .any, .any, .any, .any, .any, .any, .any, .any, .any, .any, .any], ⟨[], [], [], 0, 0⟩⟩
noncomputable def L5_1111014 (pairs : List PV) : Option Out := LV Pr T 5 [1, 1, 1, 1, 0, 1, 4] (st5_1111014 pairs)
def st5_1111014v1 (pairs : List PV) (l : List PV) (i : Int) : AS :=
  ⟨[.pv (.lst pairs), .any, .any, .pv (.lst l), .any, .any, .any, .any, .any, .any, .any, .any, .any, .any, .any, .pv (.lst pairs), .pv (.int .i64 (pairs.length : Int)), .pv (.int .i64 i), .any, .any, .any, .any, .any, .any, .any, .any, .any, .any, .any, .any, .any, .any, .any, .any, .any, .any, .any, .any, .any, .any, .any, .any, .any, .any, .any, .any, .any, .any, .any, .any, .any, .any, .any], ⟨[], [], [], 0, 0⟩⟩
noncomputable def L5_1111014v1 (pairs : List PV) (l : List PV) (i : Int) : Option Out := LV Pr T 5 [1, 1, 1, 1, 0, 1, 4] (st5_1111014v1 pairs l i)
theorem f5 (pairs : List PV) (cl_ : FuncId → List Arg → Option Out) (lp_ : List Nat → AS → Option Out) : runW Pr T cl_ lp_ 5 [.pv (.lst pairs)] =
  ((cl_ 17 [.pv (.lst pairs)]).bind retPV).bind fun r =>
    (bif (Sh.bool).fits r then
      bif (!r.toBool) then
        some (.pv (.bool true), [])
      else ((cl_ 18 []).bind retPV).bind fun r1 =>
        (bif (Sh.bool).fits r1 then
          bif (!r1.toBool) then
            some (.pv (.bool false), [])
          else lp_ [1, 1, 1, 1, 0, 1, 4] (st5_1111014 pairs)
        else none)
    else none) := by kernel_rfl
theorem e5 (pairs : List PV) : V 5 [.pv (.lst pairs)] =
  ((V 17 [.pv (.lst pairs)]).bind retPV).bind fun r =>
    (bif (Sh.bool).fits r then
      bif (!r.toBool) then
        some (.pv (.bool true), [])
      else ((V 18 []).bind retPV).bind fun r1 =>
        (bif (Sh.bool).fits r1 then
          bif (!r1.toBool) then
            some (.pv (.bool false), [])
          else L5_1111014 pairs
        else none)
    else none) :=
  (V_eq pa rfl _).trans (f5 pairs V (LV Pr T 5))
theorem f5_1111014 (pairs : List PV) (cl_ : FuncId → List Arg → Option Out) (lp_ : List Nat → AS → Option Out) : stepW Pr T cl_ lp_ 5 [1, 1, 1, 1, 0, 1, 4] (st5_1111014 pairs) =
  bif decide ((0 : Int) < (pairs.length : Int)) then
    (pairs[(0 : Int).toNat]?).bind fun x =>
      (bif (Sh.agg [Sh.int .i64, Sh.str, Sh.lst, Sh.int .i64, Sh.str, Sh.lst]).fits x then
        lp_ [1, 1, 1, 1, 0, 1, 4] (st5_1111014v1 pairs [.agg [.int .i64 ((x.c 3).toInt), .str ((x.c 4).toStr), .lst ((x.c 5).toLst), .int .i64 ((x.c 0).toInt), .str ((x.c 1).toStr), .lst ((x.c 2).toLst)]] 1)
      else none)
  else ((cl_ 19 [.pv (.lst pairs)]).bind retPV).bind fun r =>
    (bif (Sh.tup [Sh.lst, Sh.int .i64]).fits r then
      ((cl_ 19 [.pv (.lst [])]).bind retPV).bind fun r1 =>
        (bif (Sh.tup [Sh.lst, Sh.int .i64]).fits r1 then
          bif (((r.r 1).toInt) == (2 : Int)) then
            some (.pv (.bool true), [])
          else bif (((r1.r 1).toInt) == (2 : Int)) then
            some (.pv (.bool true), [])
          else some (.pv (.bool ((((r.r 1).toInt) == (0 : Int)) == (((r1.r 1).toInt) == (0 : Int)))), [])
        else none)
    else none) := by kernel_rfl
theorem e5_1111014 (pairs : List PV) : L5_1111014 pairs =
  bif decide ((0 : Int) < (pairs.length : Int)) then
    (pairs[(0 : Int).toNat]?).bind fun x =>
      (bif (Sh.agg [Sh.int .i64, Sh.str, Sh.lst, Sh.int .i64, Sh.str, Sh.lst]).fits x then
        L5_1111014v1 pairs [.agg [.int .i64 ((x.c 3).toInt), .str ((x.c 4).toStr), .lst ((x.c 5).toLst), .int .i64 ((x.c 0).toInt), .str ((x.c 1).toStr), .lst ((x.c 2).toLst)]] 1
      else none)
  else ((V 19 [.pv (.lst pairs)]).bind retPV).bind fun r =>
    (bif (Sh.tup [Sh.lst, Sh.int .i64]).fits r then
      ((V 19 [.pv (.lst [])]).bind retPV).bind fun r1 =>
        (bif (Sh.tup [Sh.lst, Sh.int .i64]).fits r1 then
          bif (((r.r 1).toInt) == (2 : Int)) then
            some (.pv (.bool true), [])
          else bif (((r1.r 1).toInt) == (2 : Int)) then
            some (.pv (.bool true), [])
          else some (.pv (.bool ((((r.r 1).toInt) == (0 : Int)) == (((r1.r 1).toInt) == (0 : Int)))), [])
        else none)
    else none) :=
  (LV_eq pa 5 _ _).trans (f5_1111014 pairs V (LV Pr T 5))
theorem f5_1111014v1 (pairs : List PV) (l : List PV) (i : Int) (cl_ : FuncId → List Arg → Option Out) (lp_ : List Nat → AS → Option Out) : stepW Pr T cl_ lp_ 5 [1, 1, 1, 1, 0, 1, 4] (st5_1111014v1 pairs l i) =
  bif decide (i < (pairs.length : Int)) then
    bif decide (0 ≤ i) then
      (pairs[i.toNat]?).bind fun x =>
        (bif (Sh.agg [Sh.int .i64, Sh.str, Sh.lst, Sh.int .i64, Sh.str, Sh.lst]).fits x then
          bif headOk 6 l then
            bif small 1 (l.length) 96 then
              lp_ [1, 1, 1, 1, 0, 1, 4] (st5_1111014v1 pairs (([.agg [.int .i64 ((x.c 3).toInt), .str ((x.c 4).toStr), .lst ((x.c 5).toLst), .int .i64 ((x.c 0).toInt), .str ((x.c 1).toStr), .lst ((x.c 2).toLst)]] : List PV) ++ l) (IntKind.i64.wrap (i + (1 : Int))))
            else none
          else none
        else none)
    else none
  else ((cl_ 19 [.pv (.lst pairs)]).bind retPV).bind fun r =>
    (bif (Sh.tup [Sh.lst, Sh.int .i64]).fits r then
      ((cl_ 19 [.pv (.lst l)]).bind retPV).bind fun r1 =>
        (bif (Sh.tup [Sh.lst, Sh.int .i64]).fits r1 then
          bif (((r.r 1).toInt) == (2 : Int)) then
            some (.pv (.bool true), [])
          else bif (((r1.r 1).toInt) == (2 : Int)) then
            some (.pv (.bool true), [])
          else some (.pv (.bool ((((r.r 1).toInt) == (0 : Int)) == (((r1.r 1).toInt) == (0 : Int)))), [])
        else none)
    else none) := by kernel_rfl
theorem e5_1111014v1 (pairs : List PV) (l : List PV) (i : Int) : L5_1111014v1 pairs l i =
  bif decide (i < (pairs.length : Int)) then
    bif decide (0 ≤ i) then
      (pairs[i.toNat]?).bind fun x =>
        (bif (Sh.agg [Sh.int .i64, Sh.str, Sh.lst, Sh.int .i64, Sh.str, Sh.lst]).fits x then
          bif headOk 6 l then
            bif small 1 (l.length) 96 then
              L5_1111014v1 pairs (([.agg [.int .i64 ((x.c 3).toInt), .str ((x.c 4).toStr), .lst ((x.c 5).toLst), .int .i64 ((x.c 0).toInt), .str ((x.c 1).toStr), .lst ((x.c 2).toLst)]] : List PV) ++ l) (IntKind.i64.wrap (i + (1 : Int)))
            else none
          else none
        else none)
    else none
  else ((V 19 [.pv (.lst pairs)]).bind retPV).bind fun r =>
    (bif (Sh.tup [Sh.lst, Sh.int .i64]).fits r then
      ((V 19 [.pv (.lst l)]).bind retPV).bind fun r1 =>
        (bif (Sh.tup [Sh.lst, Sh.int .i64]).fits r1 then
          bif (((r.r 1).toInt) == (2 : Int)) then
            some (.pv (.bool true), [])
          else bif (((r1.r 1).toInt) == (2 : Int)) then
            some (.pv (.bool true), [])
          else some (.pv (.bool ((((r.r 1).toInt) == (0 : Int)) == (((r1.r 1).toInt) == (0 : Int)))), [])
        else none)
    else none) :=
  (LV_eq pa 5 _ _).trans (f5_1111014v1 pairs l i V (LV Pr T 5))
/-! 6 roadstead/roadkeep2.UnifySolves -/
def st6_11111014 (v : List PV) (pairs : List PV) (i : Int) : AS :=
  ⟨[.any, .any, .any, .pv (.lst v), .any, .any, .any, .any, .any, .any, .any, .any, .any, .any, .any, .any, .any, .any, .any, .any, .any, .any, .any, .pv (.lst pairs), .pv (.int .i64 (pairs.length : Int)), .pv (.int .i64 i), .any, .any, .any, .any, .any, .any, .any, .any, .any, .any, .any, .any, .any, .any, .any, .any, .any, .any, .any, .any, .any, .any, .any], ⟨[], [], [], 0, 0⟩⟩
noncomputable def L6_11111014 (v : List PV) (pairs : List PV) (i : Int) : Option Out := LV Pr T 6 [1, 1, 1, 1, 1, 0, 1, 4] (st6_11111014 v pairs i)
theorem f6 (pairs : List PV) (cl_ : FuncId → List Arg → Option Out) (lp_ : List Nat → AS → Option Out) : runW Pr T cl_ lp_ 6 [.pv (.lst pairs)] =
  ((cl_ 17 [.pv (.lst pairs)]).bind retPV).bind fun r =>
    (bif (Sh.bool).fits r then
      bif (!r.toBool) then
        some (.pv (.bool true), [])
      else ((cl_ 18 []).bind retPV).bind fun r1 =>
        (bif (Sh.bool).fits r1 then
          bif (!r1.toBool) then
            some (.pv (.bool false), [])
          else ((cl_ 19 [.pv (.lst pairs)]).bind retPV).bind fun r2 =>
            (bif (Sh.tup [Sh.lst, Sh.int .i64]).fits r2 then
              bif (((r2.r 1).toInt) != (0 : Int)) then
                some (.pv (.bool (((r2.r 0).toLst.length : Int) == (0 : Int))), [])
              else lp_ [1, 1, 1, 1, 1, 0, 1, 4] (st6_11111014 ((r2.r 0).toLst) pairs 0)
            else none)
        else none)
    else none) := by kernel_rfl
theorem e6 (pairs : List PV) : V 6 [.pv (.lst pairs)] =
  ((V 17 [.pv (.lst pairs)]).bind retPV).bind fun r =>
    (bif (Sh.bool).fits r then
      bif (!r.toBool) then
        some (.pv (.bool true), [])
      else ((V 18 []).bind retPV).bind fun r1 =>
        (bif (Sh.bool).fits r1 then
          bif (!r1.toBool) then
            some (.pv (.bool false), [])
          else ((V 19 [.pv (.lst pairs)]).bind retPV).bind fun r2 =>
            (bif (Sh.tup [Sh.lst, Sh.int .i64]).fits r2 then
              bif (((r2.r 1).toInt) != (0 : Int)) then
                some (.pv (.bool (((r2.r 0).toLst.length : Int) == (0 : Int))), [])
              else L6_11111014 ((r2.r 0).toLst) pairs 0
            else none)
        else none)
    else none) :=
  (V_eq pa rfl _).trans (f6 pairs V (LV Pr T 6))
theorem f6_11111014 (v : List PV) (pairs : List PV) (i : Int) (cl_ : FuncId → List Arg → Option Out) (lp_ : List Nat → AS → Option Out) : stepW Pr T cl_ lp_ 6 [1, 1, 1, 1, 1, 0, 1, 4] (st6_11111014 v pairs i) =
  bif decide (i < (pairs.length : Int)) then
    bif decide (0 ≤ i) then
      (pairs[i.toNat]?).bind fun x =>
        (bif (Sh.agg [Sh.int .i64, Sh.str, Sh.lst, Sh.int .i64, Sh.str, Sh.lst]).fits x then
          ((cl_ 20 [.pv (.lst v), .pv (.agg [.int .i64 ((x.c 0).toInt), .str ((x.c 1).toStr), .lst ((x.c 2).toLst)])]).bind retPV).bind fun r =>
            (bif (Sh.agg [Sh.int .i64, Sh.str, Sh.lst]).fits r then
              ((cl_ 20 [.pv (.lst v), .pv (.agg [.int .i64 ((x.c 3).toInt), .str ((x.c 4).toStr), .lst ((x.c 5).toLst)])]).bind retPV).bind fun r1 =>
                (bif (Sh.agg [Sh.int .i64, Sh.str, Sh.lst]).fits r1 then
                  ((cl_ 21 [.pv (.agg [.int .i64 ((r.c 0).toInt), .str ((r.c 1).toStr), .lst ((r.c 2).toLst)]), .pv (.agg [.int .i64 ((r1.c 0).toInt), .str ((r1.c 1).toStr), .lst ((r1.c 2).toLst)])]).bind retPV).bind fun r2 =>
                    (bif (Sh.bool).fits r2 then
                      bif (!r2.toBool) then
                        some (.pv (.bool false), [])
                      else ((cl_ 20 [.pv (.lst v), .pv (.agg [.int .i64 ((r.c 0).toInt), .str ((r.c 1).toStr), .lst ((r.c 2).toLst)])]).bind retPV).bind fun r3 =>
                        (bif (Sh.agg [Sh.int .i64, Sh.str, Sh.lst]).fits r3 then
                          ((cl_ 21 [.pv (.agg [.int .i64 ((r3.c 0).toInt), .str ((r3.c 1).toStr), .lst ((r3.c 2).toLst)]), .pv (.agg [.int .i64 ((r.c 0).toInt), .str ((r.c 1).toStr), .lst ((r.c 2).toLst)])]).bind retPV).bind fun r4 =>
                            (bif (Sh.bool).fits r4 then
                              bif (!r4.toBool) then
                                some (.pv (.bool false), [])
                              else lp_ [1, 1, 1, 1, 1, 0, 1, 4] (st6_11111014 v pairs (IntKind.i64.wrap (i + (1 : Int))))
                            else none)
                        else none)
                    else none)
                else none)
            else none)
        else none)
    else none
  else some (.pv (.bool true), []) := by kernel_rfl
theorem e6_11111014 (v : List PV) (pairs : List PV) (i : Int) : L6_11111014 v pairs i =
  bif decide (i < (pairs.length : Int)) then
    bif decide (0 ≤ i) then
      (pairs[i.toNat]?).bind fun x =>
        (bif (Sh.agg [Sh.int .i64, Sh.str, Sh.lst, Sh.int .i64, Sh.str, Sh.lst]).fits x then
          ((V 20 [.pv (.lst v), .pv (.agg [.int .i64 ((x.c 0).toInt), .str ((x.c 1).toStr), .lst ((x.c 2).toLst)])]).bind retPV).bind fun r =>
            (bif (Sh.agg [Sh.int .i64, Sh.str, Sh.lst]).fits r then
              ((V 20 [.pv (.lst v), .pv (.agg [.int .i64 ((x.c 3).toInt), .str ((x.c 4).toStr), .lst ((x.c 5).toLst)])]).bind retPV).bind fun r1 =>
                (bif (Sh.agg [Sh.int .i64, Sh.str, Sh.lst]).fits r1 then
                  ((V 21 [.pv (.agg [.int .i64 ((r.c 0).toInt), .str ((r.c 1).toStr), .lst ((r.c 2).toLst)]), .pv (.agg [.int .i64 ((r1.c 0).toInt), .str ((r1.c 1).toStr), .lst ((r1.c 2).toLst)])]).bind retPV).bind fun r2 =>
                    (bif (Sh.bool).fits r2 then
                      bif (!r2.toBool) then
                        some (.pv (.bool false), [])
                      else ((V 20 [.pv (.lst v), .pv (.agg [.int .i64 ((r.c 0).toInt), .str ((r.c 1).toStr), .lst ((r.c 2).toLst)])]).bind retPV).bind fun r3 =>
                        (bif (Sh.agg [Sh.int .i64, Sh.str, Sh.lst]).fits r3 then
                          ((V 21 [.pv (.agg [.int .i64 ((r3.c 0).toInt), .str ((r3.c 1).toStr), .lst ((r3.c 2).toLst)]), .pv (.agg [.int .i64 ((r.c 0).toInt), .str ((r.c 1).toStr), .lst ((r.c 2).toLst)])]).bind retPV).bind fun r4 =>
                            (bif (Sh.bool).fits r4 then
                              bif (!r4.toBool) then
                                some (.pv (.bool false), [])
                              else L6_11111014 v pairs (IntKind.i64.wrap (i + (1 : Int)))
                            else none)
                        else none)
                    else none)
                else none)
            else none)
        else none)
    else none
  else some (.pv (.bool true), []) :=
  (LV_eq pa 6 _ _).trans (f6_11111014 v pairs i V (LV Pr T 6))
/-! 7 roadstead/roadkeep2.UnifyMost -/
def st7_1111014 (other : List PV) (l : List PV) (pairs : List PV) (i : Int) : AS :=
  ⟨[.any, .pv (.lst other), .any, .any, .any, .bld 0 0 l, .any, .any, .any, .any, .any, .any, .any, .any, .any, .any, .any, .any, .any, .any, .any, .any, .any, .any, .any, .any, .any, .pv (.lst pairs), .pv (.int .i64 (pairs.length : Int)), .pv (.int .i64 i), .any, .any, .any, .any, .any, .any, .any, .any, .any, .any, .any, .any, .any, .any, .any, .any, .any, .any, .any, .any, .any, .any, .any, .any, .any, .any, .any, .any, .any, .any, .any, .any, .any, .any, .any, .any, .any, .any, .any, .any, .any, .any, .any, .any, .any, .any, .any, .any, .any, .any, .any, .any, .any, .any, .any, .any, .any, .any, .any, .any, .any, .any, .any, .any, .any], ⟨[], [], [(0, 6)], 0, 0⟩⟩
noncomputable def L7_1111014 (other : List PV) (l : List PV) (pairs : List PV) (i : Int) : Option Out := LV Pr T 7 [1, 1, 1, 1, 0, 1, 4] (st7_1111014 other l pairs i)
def st7_11111111014 (other : List PV) (v : List PV) (l1 : List PV) (i : Int) (i1 : Int) : AS :=
  ⟨[.any, .pv (.lst other), .any, .any, .any, .any, .any, .any, .any, .any, .pv (.lst v), .any, .any, .any, .any, .any, .any, .any, .any, .any, .any, .any, .any, .any, .any, .any, .any, .any, .any, .any, .any, .any, .any, .any, .any, .any, .any, .any, .any, .any, .any, .any, .any, .any, .any, .any, .any, .any, .any, .any, .any, .any, .any, .any, .any, .any, .any, .any, .any, .any, .any, .any, .any, .pv (.lst l1), .pv (.int .i64 i), .pv (.int .i64 i1), .any, .any, .any, .any, .any, .any, .any, .any, .any, .any, .any, .any, .any, .any, .any, .any, .any, .any, .any, .any, .any, .any, .any, .any, .any, .any, .any, .any, .any], ⟨[], [], [], 0, 0⟩⟩
noncomputable def L7_11111111014 (other : List PV) (v : List PV) (l1 : List PV) (i : Int) (i1 : Int) : Option Out := LV Pr T 7 [1, 1, 1, 1, 1, 1, 1, 1, 0, 1, 4] (st7_11111111014 other v l1 i i1)
def st7_1111111101451104114 (other : List PV) (v : List PV) (l1 : List PV) (i : Int) (i2 : Int) (l : List PV) (v1 : List PV) (i1 : Int) : AS :=
  ⟨[.any, .pv (.lst other), .any, .any, .any, .any, .any, .any, .any, .any, .pv (.lst v), .any, .any, .any, .any, .any, .any, .any, .any, .any, .any, .any, .any, .any, .any, .any, .any, .any, .any, .any, .any, .any, .any, .any, .any, .any, .any, .any, .any, .any, .any, .any, .any, .any, .any, .any, .any, .any, .any, .any, .any, .any, .any, .any, .any, .any, .any, .any, .any, .any, .any, .any, .any, .pv (.lst l1), .pv (.int .i64 i), .pv (.int .i64 i2), .any, .any, .any, .any, .any, .any, .any, .any, .any, .pv (.lst (l ++ v1)), .pv (.int .i64 ((l ++ v1).length : Int)), .pv (.int .i64 i1), .any, .any, .any, .any, .any, .any, .any, .any, .any, .any, .any, .any, .any, .any, .any, .any, .any], ⟨[], [], [], 0, 0⟩⟩
noncomputable def L7_1111111101451104114 (other : List PV) (v : List PV) (l1 : List PV) (i : Int) (i2 : Int) (l : List PV) (v1 : List PV) (i1 : Int) : Option Out := LV Pr T 7 [1, 1, 1, 1, 1, 1, 1, 1, 0, 1, 4, 5, 1, 1, 0, 4, 1, 1, 4] (st7_1111111101451104114 other v l1 i i2 l v1 i1)
theorem f7 (pairs : List PV) (other : List PV) (cl_ : FuncId → List Arg → Option Out) (lp_ : List Nat → AS → Option Out) : runW Pr T cl_ lp_ 7 [.pv (.lst pairs), .pv (.lst other)] =
  ((cl_ 17 [.pv (.lst pairs)]).bind retPV).bind fun r =>
    (bif (Sh.bool).fits r then
      bif (!r.toBool) then
        ((cl_ 18 []).bind retPV).bind fun r1 =>
          (bif (Sh.bool).fits r1 then
            some (.pv (.bool r1.toBool), [])
          else none)
      else ((cl_ 18 []).bind retPV).bind fun r2 =>
        (bif (Sh.bool).fits r2 then
          bif (!r2.toBool) then
            ((cl_ 18 []).bind retPV).bind fun r3 =>
              (bif (Sh.bool).fits r3 then
                some (.pv (.bool r3.toBool), [])
              else none)
          else ((cl_ 22 [.pv (.lst other), .pv (.fn 23 [])]).bind retPV).bind fun r4 =>
            (bif (Sh.bool).fits r4 then
              bif r4.toBool then
                some (.pv (.bool true), [])
              else lp_ [1, 1, 1, 1, 0, 1, 4] (st7_1111014 other [] pairs 0)
            else none)
        else none)
    else none) := by kernel_rfl
theorem e7 (pairs : List PV) (other : List PV) : V 7 [.pv (.lst pairs), .pv (.lst other)] =
  ((V 17 [.pv (.lst pairs)]).bind retPV).bind fun r =>
    (bif (Sh.bool).fits r then
      bif (!r.toBool) then
        ((V 18 []).bind retPV).bind fun r1 =>
          (bif (Sh.bool).fits r1 then
            some (.pv (.bool r1.toBool), [])
          else none)
      else ((V 18 []).bind retPV).bind fun r2 =>
        (bif (Sh.bool).fits r2 then
          bif (!r2.toBool) then
            ((V 18 []).bind retPV).bind fun r3 =>
              (bif (Sh.bool).fits r3 then
                some (.pv (.bool r3.toBool), [])
              else none)
          else ((V 22 [.pv (.lst other), .pv (.fn 23 [])]).bind retPV).bind fun r4 =>
            (bif (Sh.bool).fits r4 then
              bif r4.toBool then
                some (.pv (.bool true), [])
              else L7_1111014 other [] pairs 0
            else none)
        else none)
    else none) :=
  (V_eq pa rfl _).trans (f7 pairs other V (LV Pr T 7))
theorem f7_1111014 (other : List PV) (l : List PV) (pairs : List PV) (i : Int) (cl_ : FuncId → List Arg → Option Out) (lp_ : List Nat → AS → Option Out) : stepW Pr T cl_ lp_ 7 [1, 1, 1, 1, 0, 1, 4] (st7_1111014 other l pairs i) =
  bif decide (i < (pairs.length : Int)) then
    bif decide (0 ≤ i) then
      (pairs[i.toNat]?).bind fun x =>
        (bif (Sh.agg [Sh.int .i64, Sh.str, Sh.lst, Sh.int .i64, Sh.str, Sh.lst]).fits x then
          ((cl_ 20 [.pv (.lst other), .pv (.agg [.int .i64 ((x.c 0).toInt), .str ((x.c 1).toStr), .lst ((x.c 2).toLst)])]).bind retPV).bind fun r =>
            (bif (Sh.agg [Sh.int .i64, Sh.str, Sh.lst]).fits r then
              ((cl_ 20 [.pv (.lst other), .pv (.agg [.int .i64 ((x.c 3).toInt), .str ((x.c 4).toStr), .lst ((x.c 5).toLst)])]).bind retPV).bind fun r1 =>
                (bif (Sh.agg [Sh.int .i64, Sh.str, Sh.lst]).fits r1 then
                  ((cl_ 21 [.pv (.agg [.int .i64 ((r.c 0).toInt), .str ((r.c 1).toStr), .lst ((r.c 2).toLst)]), .pv (.agg [.int .i64 ((r1.c 0).toInt), .str ((r1.c 1).toStr), .lst ((r1.c 2).toLst)])]).bind retPV).bind fun r2 =>
                    (bif (Sh.bool).fits r2 then
                      bif (!r2.toBool) then
                        some (.pv (.bool true), [])
                      else ((cl_ 24 [.pv (.agg [.int .i64 ((r.c 0).toInt), .str ((r.c 1).toStr), .lst ((r.c 2).toLst)])]).bind retPV).bind fun r3 =>
                        (bif (Sh.lst).fits r3 then
                          bif decide ((r3.toLst.length : Int) > (0 : Int)) then
                            some (.pv (.bool true), [])
                          else bif small (l.length) 1 96 then
                            lp_ [1, 1, 1, 1, 0, 1, 4] (st7_1111014 other (l ++ ([.agg [.int .i64 ((x.c 0).toInt), .str ((x.c 1).toStr), .lst ((x.c 2).toLst), .int .i64 ((x.c 3).toInt), .str ((x.c 4).toStr), .lst ((x.c 5).toLst)]] : List PV)) pairs (IntKind.i64.wrap (i + (1 : Int))))
                          else none
                        else none)
                    else none)
                else none)
            else none)
        else none)
    else none
  else ((cl_ 19 [.pv (.lst l)]).bind retPV).bind fun r4 =>
    (bif (Sh.tup [Sh.lst, Sh.int .i64]).fits r4 then
      bif (((r4.r 1).toInt) == (2 : Int)) then
        some (.pv (.bool true), [])
      else bif (((r4.r 1).toInt) != (0 : Int)) then
        some (.pv (.bool false), [])
      else lp_ [1, 1, 1, 1, 1, 1, 1, 1, 0, 1, 4] (st7_11111111014 other ((r4.r 0).toLst) l (l.length : Int) 0)
    else none) := by kernel_rfl
theorem e7_1111014 (other : List PV) (l : List PV) (pairs : List PV) (i : Int) : L7_1111014 other l pairs i =
  bif decide (i < (pairs.length : Int)) then
    bif decide (0 ≤ i) then
      (pairs[i.toNat]?).bind fun x =>
        (bif (Sh.agg [Sh.int .i64, Sh.str, Sh.lst, Sh.int .i64, Sh.str, Sh.lst]).fits x then
          ((V 20 [.pv (.lst other), .pv (.agg [.int .i64 ((x.c 0).toInt), .str ((x.c 1).toStr), .lst ((x.c 2).toLst)])]).bind retPV).bind fun r =>
            (bif (Sh.agg [Sh.int .i64, Sh.str, Sh.lst]).fits r then
              ((V 20 [.pv (.lst other), .pv (.agg [.int .i64 ((x.c 3).toInt), .str ((x.c 4).toStr), .lst ((x.c 5).toLst)])]).bind retPV).bind fun r1 =>
                (bif (Sh.agg [Sh.int .i64, Sh.str, Sh.lst]).fits r1 then
                  ((V 21 [.pv (.agg [.int .i64 ((r.c 0).toInt), .str ((r.c 1).toStr), .lst ((r.c 2).toLst)]), .pv (.agg [.int .i64 ((r1.c 0).toInt), .str ((r1.c 1).toStr), .lst ((r1.c 2).toLst)])]).bind retPV).bind fun r2 =>
                    (bif (Sh.bool).fits r2 then
                      bif (!r2.toBool) then
                        some (.pv (.bool true), [])
                      else ((V 24 [.pv (.agg [.int .i64 ((r.c 0).toInt), .str ((r.c 1).toStr), .lst ((r.c 2).toLst)])]).bind retPV).bind fun r3 =>
                        (bif (Sh.lst).fits r3 then
                          bif decide ((r3.toLst.length : Int) > (0 : Int)) then
                            some (.pv (.bool true), [])
                          else bif small (l.length) 1 96 then
                            L7_1111014 other (l ++ ([.agg [.int .i64 ((x.c 0).toInt), .str ((x.c 1).toStr), .lst ((x.c 2).toLst), .int .i64 ((x.c 3).toInt), .str ((x.c 4).toStr), .lst ((x.c 5).toLst)]] : List PV)) pairs (IntKind.i64.wrap (i + (1 : Int)))
                          else none
                        else none)
                    else none)
                else none)
            else none)
        else none)
    else none
  else ((V 19 [.pv (.lst l)]).bind retPV).bind fun r4 =>
    (bif (Sh.tup [Sh.lst, Sh.int .i64]).fits r4 then
      bif (((r4.r 1).toInt) == (2 : Int)) then
        some (.pv (.bool true), [])
      else bif (((r4.r 1).toInt) != (0 : Int)) then
        some (.pv (.bool false), [])
      else L7_11111111014 other ((r4.r 0).toLst) l (l.length : Int) 0
    else none) :=
  (LV_eq pa 7 _ _).trans (f7_1111014 other l pairs i V (LV Pr T 7))
theorem f7_11111111014 (other : List PV) (v : List PV) (l1 : List PV) (i : Int) (i1 : Int) (cl_ : FuncId → List Arg → Option Out) (lp_ : List Nat → AS → Option Out) : stepW Pr T cl_ lp_ 7 [1, 1, 1, 1, 1, 1, 1, 1, 0, 1, 4] (st7_11111111014 other v l1 i i1) =
  bif decide (i1 < i) then
    bif decide (0 ≤ i1) then
      (l1[i1.toNat]?).bind fun x =>
        (bif (Sh.agg [Sh.int .i64, Sh.str, Sh.lst, Sh.int .i64, Sh.str, Sh.lst]).fits x then
          (cl_ 24 [.pv (.agg [.int .i64 ((x.c 0).toInt), .str ((x.c 1).toStr), .lst ((x.c 2).toLst)])]).bind fun r =>
            ((retB 1 r).bind fun l =>
              (((cl_ 24 [.pv (.agg [.int .i64 ((x.c 3).toInt), .str ((x.c 4).toStr), .lst ((x.c 5).toLst)])]).bind retPV).bind fun r1 =>
                (bif (Sh.lst).fits r1 then
                  bif headOk 1 r1.toLst then
                    bif small (l.length) (r1.toLst.length) 16 then
                      lp_ [1, 1, 1, 1, 1, 1, 1, 1, 0, 1, 4, 5, 1, 1, 0, 4, 1, 1, 4] (st7_1111111101451104114 other v l1 i i1 l r1.toLst 0)
                    else none
                  else none
                else none)))
        else none)
    else none
  else some (.pv (.bool true), []) := by kernel_rfl
theorem e7_11111111014 (other : List PV) (v : List PV) (l1 : List PV) (i : Int) (i1 : Int) : L7_11111111014 other v l1 i i1 =
  bif decide (i1 < i) then
    bif decide (0 ≤ i1) then
      (l1[i1.toNat]?).bind fun x =>
        (bif (Sh.agg [Sh.int .i64, Sh.str, Sh.lst, Sh.int .i64, Sh.str, Sh.lst]).fits x then
          (V 24 [.pv (.agg [.int .i64 ((x.c 0).toInt), .str ((x.c 1).toStr), .lst ((x.c 2).toLst)])]).bind fun r =>
            ((retB 1 r).bind fun l =>
              (((V 24 [.pv (.agg [.int .i64 ((x.c 3).toInt), .str ((x.c 4).toStr), .lst ((x.c 5).toLst)])]).bind retPV).bind fun r1 =>
                (bif (Sh.lst).fits r1 then
                  bif headOk 1 r1.toLst then
                    bif small (l.length) (r1.toLst.length) 16 then
                      L7_1111111101451104114 other v l1 i i1 l r1.toLst 0
                    else none
                  else none
                else none)))
        else none)
    else none
  else some (.pv (.bool true), []) :=
  (LV_eq pa 7 _ _).trans (f7_11111111014 other v l1 i i1 V (LV Pr T 7))
theorem f7_1111111101451104114 (other : List PV) (v : List PV) (l1 : List PV) (i : Int) (i2 : Int) (l : List PV) (v1 : List PV) (i1 : Int) (cl_ : FuncId → List Arg → Option Out) (lp_ : List Nat → AS → Option Out) : stepW Pr T cl_ lp_ 7 [1, 1, 1, 1, 1, 1, 1, 1, 0, 1, 4, 5, 1, 1, 0, 4, 1, 1, 4] (st7_1111111101451104114 other v l1 i i2 l v1 i1) =
  bif decide (i1 < ((l ++ v1).length : Int)) then
    bif decide (0 ≤ i1) then
      ((l ++ v1)[i1.toNat]?).bind fun x =>
        (bif (Sh.str).fits x then
          ((cl_ 20 [.pv (.lst v), .pv (.agg [.int .i64 5, .str x.toStr, .lst []])]).bind retPV).bind fun r =>
            (bif (Sh.agg [Sh.int .i64, Sh.str, Sh.lst]).fits r then
              ((cl_ 20 [.pv (.lst other), .pv (.agg [.int .i64 ((r.c 0).toInt), .str ((r.c 1).toStr), .lst ((r.c 2).toLst)])]).bind retPV).bind fun r1 =>
                (bif (Sh.agg [Sh.int .i64, Sh.str, Sh.lst]).fits r1 then
                  ((cl_ 20 [.pv (.lst other), .pv (.agg [.int .i64 5, .str x.toStr, .lst []])]).bind retPV).bind fun r2 =>
                    (bif (Sh.agg [Sh.int .i64, Sh.str, Sh.lst]).fits r2 then
                      ((cl_ 21 [.pv (.agg [.int .i64 ((r1.c 0).toInt), .str ((r1.c 1).toStr), .lst ((r1.c 2).toLst)]), .pv (.agg [.int .i64 ((r2.c 0).toInt), .str ((r2.c 1).toStr), .lst ((r2.c 2).toLst)])]).bind retPV).bind fun r3 =>
                        (bif (Sh.bool).fits r3 then
                          bif (!r3.toBool) then
                            some (.pv (.bool false), [])
                          else lp_ [1, 1, 1, 1, 1, 1, 1, 1, 0, 1, 4, 5, 1, 1, 0, 4, 1, 1, 4] (st7_1111111101451104114 other v l1 i i2 l v1 (IntKind.i64.wrap (i1 + (1 : Int))))
                        else none)
                    else none)
                else none)
            else none)
        else none)
    else none
  else lp_ [1, 1, 1, 1, 1, 1, 1, 1, 0, 1, 4] (st7_11111111014 other v l1 i (IntKind.i64.wrap (i2 + (1 : Int)))) := by kernel_rfl
theorem e7_1111111101451104114 (other : List PV) (v : List PV) (l1 : List PV) (i : Int) (i2 : Int) (l : List PV) (v1 : List PV) (i1 : Int) : L7_1111111101451104114 other v l1 i i2 l v1 i1 =
  bif decide (i1 < ((l ++ v1).length : Int)) then
    bif decide (0 ≤ i1) then
      ((l ++ v1)[i1.toNat]?).bind fun x =>
        (bif (Sh.str).fits x then
          ((V 20 [.pv (.lst v), .pv (.agg [.int .i64 5, .str x.toStr, .lst []])]).bind retPV).bind fun r =>
            (bif (Sh.agg [Sh.int .i64, Sh.str, Sh.lst]).fits r then
              ((V 20 [.pv (.lst other), .pv (.agg [.int .i64 ((r.c 0).toInt), .str ((r.c 1).toStr), .lst ((r.c 2).toLst)])]).bind retPV).bind fun r1 =>
                (bif (Sh.agg [Sh.int .i64, Sh.str, Sh.lst]).fits r1 then
                  ((V 20 [.pv (.lst other), .pv (.agg [.int .i64 5, .str x.toStr, .lst []])]).bind retPV).bind fun r2 =>
                    (bif (Sh.agg [Sh.int .i64, Sh.str, Sh.lst]).fits r2 then
                      ((V 21 [.pv (.agg [.int .i64 ((r1.c 0).toInt), .str ((r1.c 1).toStr), .lst ((r1.c 2).toLst)]), .pv (.agg [.int .i64 ((r2.c 0).toInt), .str ((r2.c 1).toStr), .lst ((r2.c 2).toLst)])]).bind retPV).bind fun r3 =>
                        (bif (Sh.bool).fits r3 then
                          bif (!r3.toBool) then
                            some (.pv (.bool false), [])
                          else L7_1111111101451104114 other v l1 i i2 l v1 (IntKind.i64.wrap (i1 + (1 : Int)))
                        else none)
                    else none)
                else none)
            else none)
        else none)
    else none
  else L7_11111111014 other v l1 i (IntKind.i64.wrap (i2 + (1 : Int))) :=
  (LV_eq pa 7 _ _).trans (f7_1111111101451104114 other v l1 i i2 l v1 i1 V (LV Pr T 7))
/-! 17 roadstead/roadkeep2.fair -/
def st17_11014 (i : Int) (pairs : List PV) (i1 : Int) : AS :=
  ⟨[.any, .any, .any, .pv (.int .i64 i), .any, .any, .any, .any, .any, .any, .pv (.lst pairs), .pv (.int .i64 (pairs.length : Int)), .pv (.int .i64 i1), .any, .any, .any, .any, .any, .any, .any, .any, .any, .any, .any, .any, .any, .any, .any, .any, .any, .any, .any, .any, .any, .any, .any, .any, .any, .any, .any, .any, .any, .any, .any, .any, .any], ⟨[], [], [], 0, 0⟩⟩
noncomputable def L17_11014 (i : Int) (pairs : List PV) (i1 : Int) : Option Out := LV Pr T 17 [1, 1, 0, 1, 4] (st17_11014 i pairs i1)
theorem f17 (pairs : List PV) (cl_ : FuncId → List Arg → Option Out) (lp_ : List Nat → AS → Option Out) : runW Pr T cl_ lp_ 17 [.pv (.lst pairs)] =
  lp_ [1, 1, 0, 1, 4] (st17_11014 0 pairs 0) := by kernel_rfl
theorem e17 (pairs : List PV) : V 17 [.pv (.lst pairs)] =
  L17_11014 0 pairs 0 :=
  (V_eq pa rfl _).trans (f17 pairs V (LV Pr T 17))
theorem f17_11014 (i : Int) (pairs : List PV) (i1 : Int) (cl_ : FuncId → List Arg → Option Out) (lp_ : List Nat → AS → Option Out) : stepW Pr T cl_ lp_ 17 [1, 1, 0, 1, 4] (st17_11014 i pairs i1) =
  bif decide (i1 < (pairs.length : Int)) then
    bif decide (0 ≤ i1) then
      (pairs[i1.toNat]?).bind fun x =>
        (bif (Sh.agg [Sh.int .i64, Sh.str, Sh.lst, Sh.int .i64, Sh.str, Sh.lst]).fits x then
          ((cl_ 49 [.pv (.agg [.int .i64 ((x.c 0).toInt), .str ((x.c 1).toStr), .lst ((x.c 2).toLst)])]).bind retPV).bind fun r =>
            (bif (Sh.bool).fits r then
              bif (!r.toBool) then
                some (.pv (.bool false), [])
              else ((cl_ 49 [.pv (.agg [.int .i64 ((x.c 3).toInt), .str ((x.c 4).toStr), .lst ((x.c 5).toLst)])]).bind retPV).bind fun r1 =>
                (bif (Sh.bool).fits r1 then
                  bif (!r1.toBool) then
                    some (.pv (.bool false), [])
                  else ((cl_ 50 [.pv (.agg [.int .i64 ((x.c 0).toInt), .str ((x.c 1).toStr), .lst ((x.c 2).toLst)])]).bind retPV).bind fun r2 =>
                    (bif (Sh.tup [Sh.int .i64, Sh.int .i64]).fits r2 then
                      ((cl_ 50 [.pv (.agg [.int .i64 ((x.c 3).toInt), .str ((x.c 4).toStr), .lst ((x.c 5).toLst)])]).bind retPV).bind fun r3 =>
                        (bif (Sh.tup [Sh.int .i64, Sh.int .i64]).fits r3 then
                          lp_ [1, 1, 0, 1, 4] (st17_11014 (IntKind.i64.wrap (i + (IntKind.i64.wrap (((r2.r 0).toInt) + ((r3.r 0).toInt))))) pairs (IntKind.i64.wrap (i1 + (1 : Int))))
                        else none)
                    else none)
                else none)
            else none)
        else none)
    else none
  else some (.pv (.bool (decide (i ≤ (120 : Int)))), []) := by kernel_rfl
theorem e17_11014 (i : Int) (pairs : List PV) (i1 : Int) : L17_11014 i pairs i1 =
  bif decide (i1 < (pairs.length : Int)) then
    bif decide (0 ≤ i1) then
      (pairs[i1.toNat]?).bind fun x =>
        (bif (Sh.agg [Sh.int .i64, Sh.str, Sh.lst, Sh.int .i64, Sh.str, Sh.lst]).fits x then
          ((V 49 [.pv (.agg [.int .i64 ((x.c 0).toInt), .str ((x.c 1).toStr), .lst ((x.c 2).toLst)])]).bind retPV).bind fun r =>
            (bif (Sh.bool).fits r then
              bif (!r.toBool) then
                some (.pv (.bool false), [])
              else ((V 49 [.pv (.agg [.int .i64 ((x.c 3).toInt), .str ((x.c 4).toStr), .lst ((x.c 5).toLst)])]).bind retPV).bind fun r1 =>
                (bif (Sh.bool).fits r1 then
                  bif (!r1.toBool) then
                    some (.pv (.bool false), [])
                  else ((V 50 [.pv (.agg [.int .i64 ((x.c 0).toInt), .str ((x.c 1).toStr), .lst ((x.c 2).toLst)])]).bind retPV).bind fun r2 =>
                    (bif (Sh.tup [Sh.int .i64, Sh.int .i64]).fits r2 then
                      ((V 50 [.pv (.agg [.int .i64 ((x.c 3).toInt), .str ((x.c 4).toStr), .lst ((x.c 5).toLst)])]).bind retPV).bind fun r3 =>
                        (bif (Sh.tup [Sh.int .i64, Sh.int .i64]).fits r3 then
                          L17_11014 (IntKind.i64.wrap (i + (IntKind.i64.wrap (((r2.r 0).toInt) + ((r3.r 0).toInt))))) pairs (IntKind.i64.wrap (i1 + (1 : Int)))
                        else none)
                    else none)
                else none)
            else none)
        else none)
    else none
  else some (.pv (.bool (decide (i ≤ (120 : Int)))), []) :=
  (LV_eq pa 17 _ _).trans (f17_11014 i pairs i1 V (LV Pr T 17))
/-! 18 roadstead/roadkeep2.unifies -/
theorem f18  (cl_ : FuncId → List Arg → Option Out) (lp_ : List Nat → AS → Option Out) : runW Pr T cl_ lp_ 18 [] =
  ((cl_ 19 [.pv (.lst [.agg [.int .i64 5, .str [63, 97], .lst [], .int .i64 1, .str [], .lst []]])]).bind retPV).bind fun r =>
    (bif (Sh.tup [Sh.lst, Sh.int .i64]).fits r then
      bif (((r.r 1).toInt) == (0 : Int)) then
        bif (((r.r 0).toLst.length : Int) == (1 : Int)) then
          ((r.r 0).toLst[(0 : Int).toNat]?).bind fun x =>
            (bif (Sh.agg [Sh.str, Sh.int .i64, Sh.str, Sh.lst]).fits x then
              bif ((x.c 0).toStr == ([63, 97] : List UInt8)) then
                ((r.r 0).toLst[(0 : Int).toNat]?).bind fun x1 =>
                  (bif (Sh.agg [Sh.str, Sh.int .i64, Sh.str, Sh.lst]).fits x1 then
                    some (.pv (.bool (((x1.c 1).toInt) == (1 : Int))), [])
                  else none)
              else some (.pv (.bool false), [])
            else none)
        else some (.pv (.bool false), [])
      else some (.pv (.bool false), [])
    else none) := by kernel_rfl
theorem e18  : V 18 [] =
  ((V 19 [.pv (.lst [.agg [.int .i64 5, .str [63, 97], .lst [], .int .i64 1, .str [], .lst []]])]).bind retPV).bind fun r =>
    (bif (Sh.tup [Sh.lst, Sh.int .i64]).fits r then
      bif (((r.r 1).toInt) == (0 : Int)) then
        bif (((r.r 0).toLst.length : Int) == (1 : Int)) then
          ((r.r 0).toLst[(0 : Int).toNat]?).bind fun x =>
            (bif (Sh.agg [Sh.str, Sh.int .i64, Sh.str, Sh.lst]).fits x then
              bif ((x.c 0).toStr == ([63, 97] : List UInt8)) then
                ((r.r 0).toLst[(0 : Int).toNat]?).bind fun x1 =>
                  (bif (Sh.agg [Sh.str, Sh.int .i64, Sh.str, Sh.lst]).fits x1 then
                    some (.pv (.bool (((x1.c 1).toInt) == (1 : Int))), [])
                  else none)
              else some (.pv (.bool false), [])
            else none)
        else some (.pv (.bool false), [])
      else some (.pv (.bool false), [])
    else none) :=
  (V_eq pa rfl _).trans (f18  V (LV Pr T 18))
/-! 21 roadstead/tree.SameType -/
theorem f21 (a_Kind : Int) (a_Name : List UInt8) (a_Args : List PV) (b_Kind : Int) (b_Name : List UInt8) (b_Args : List PV) (cl_ : FuncId → List Arg → Option Out) (lp_ : List Nat → AS → Option Out) : runW Pr T cl_ lp_ 21 [.pv (.agg [.int .i64 a_Kind, .str a_Name, .lst a_Args]), .pv (.agg [.int .i64 b_Kind, .str b_Name, .lst b_Args])] =
  bif (a_Kind == b_Kind) then
    bif (a_Name == b_Name) then
      ((cl_ 45 [.pv (.lst a_Args), .pv (.lst b_Args), .pv (.fn 21 [])]).bind retPV).bind fun r =>
        (bif (Sh.bool).fits r then
          some (.pv (.bool r.toBool), [])
        else none)
    else some (.pv (.bool false), [])
  else some (.pv (.bool false), []) := by kernel_rfl
theorem e21 (a_Kind : Int) (a_Name : List UInt8) (a_Args : List PV) (b_Kind : Int) (b_Name : List UInt8) (b_Args : List PV) : V 21 [.pv (.agg [.int .i64 a_Kind, .str a_Name, .lst a_Args]), .pv (.agg [.int .i64 b_Kind, .str b_Name, .lst b_Args])] =
  bif (a_Kind == b_Kind) then
    bif (a_Name == b_Name) then
      ((V 45 [.pv (.lst a_Args), .pv (.lst b_Args), .pv (.fn 21 [])]).bind retPV).bind fun r =>
        (bif (Sh.bool).fits r then
          some (.pv (.bool r.toBool), [])
        else none)
    else some (.pv (.bool false), [])
  else some (.pv (.bool false), []) :=
  (V_eq pa rfl _).trans (f21 a_Kind a_Name a_Args b_Kind b_Name b_Args V (LV Pr T 21))
/-! 22 slices.ContainsFunc[[]roadstead/unify.Bind,roadstead/unify.Bind] -/
theorem f22 (s : List PV) (f_f : FuncId) (f_c : List PV) (cl_ : FuncId → List Arg → Option Out) (lp_ : List Nat → AS → Option Out) : runW Pr T cl_ lp_ 22 [.pv (.lst s), .pv (.fn f_f f_c)] =
  ((cl_ 56 [.pv (.lst s), .pv (.fn f_f f_c)]).bind retPV).bind fun r =>
    (bif (Sh.int .i64).fits r then
      some (.pv (.bool (decide ((r.toInt) ≥ (0 : Int)))), [])
    else none) := by kernel_rfl
theorem e22 (s : List PV) (f_f : FuncId) (f_c : List PV) : V 22 [.pv (.lst s), .pv (.fn f_f f_c)] =
  ((V 56 [.pv (.lst s), .pv (.fn f_f f_c)]).bind retPV).bind fun r =>
    (bif (Sh.int .i64).fits r then
      some (.pv (.bool (decide ((r.toInt) ≥ (0 : Int)))), [])
    else none) :=
  (V_eq pa rfl _).trans (f22 s f_f f_c V (LV Pr T 22))
/-! 23 roadstead/roadkeep2.UnifyMost$1 -/
theorem f23 (b_Name : List UInt8) (b_Type_Kind : Int) (b_Type_Name : List UInt8) (b_Type_Args : List PV) (cl_ : FuncId → List Arg → Option Out) (lp_ : List Nat → AS → Option Out) : runW Pr T cl_ lp_ 23 [.pv (.agg [.str b_Name, .int .i64 b_Type_Kind, .str b_Type_Name, .lst b_Type_Args])] =
  bif (b_Name == ([] : List UInt8)) then
    some (.pv (.bool true), [])
  else (b_Name[(0 : Int).toNat]?).bind fun c =>
    (some (.pv (.bool ((c.toNat : Int) != (63 : Int))), [])) := by kernel_rfl
theorem e23 (b_Name : List UInt8) (b_Type_Kind : Int) (b_Type_Name : List UInt8) (b_Type_Args : List PV) : V 23 [.pv (.agg [.str b_Name, .int .i64 b_Type_Kind, .str b_Type_Name, .lst b_Type_Args])] =
  bif (b_Name == ([] : List UInt8)) then
    some (.pv (.bool true), [])
  else (b_Name[(0 : Int).toNat]?).bind fun c =>
    (some (.pv (.bool ((c.toNat : Int) != (63 : Int))), [])) :=
  (V_eq pa rfl _).trans (f23 b_Name b_Type_Kind b_Type_Name b_Type_Args V (LV Pr T 23))
/-! 24 roadstead/unify.Unknowns -/
theorem f24 (t_Kind : Int) (t_Name : List UInt8) (t_Args : List PV) (cl_ : FuncId → List Arg → Option Out) (lp_ : List Nat → AS → Option Out) : runW Pr T cl_ lp_ 24 [.pv (.agg [.int .i64 t_Kind, .str t_Name, .lst t_Args])] =
  (cl_ 57 [.pv (.agg [.int .i64 t_Kind, .str t_Name, .lst t_Args]), .bld 1 []]).bind fun r =>
    ((retB 1 r).bind fun l =>
      (some (.bld 1 l, []))) := by kernel_rfl
theorem e24 (t_Kind : Int) (t_Name : List UInt8) (t_Args : List PV) : V 24 [.pv (.agg [.int .i64 t_Kind, .str t_Name, .lst t_Args])] =
  (V 57 [.pv (.agg [.int .i64 t_Kind, .str t_Name, .lst t_Args]), .bld 1 []]).bind fun r =>
    ((retB 1 r).bind fun l =>
      (some (.bld 1 l, []))) :=
  (V_eq pa rfl _).trans (f24 t_Kind t_Name t_Args V (LV Pr T 24))
/-! 45 slices.EqualFunc[[]roadstead/api.Type,[]roadstead/api.Type,roadstead/api.Type,roadstead/api.Type] -/
def st45_11014 (s2 : List PV) (eq_f : FuncId) (eq_c : List PV) (s1 : List PV) (i : Int) : AS :=
  ⟨[.any, .pv (.lst s2), .pv (.fn eq_f eq_c), .any, .any, .any, .any, .any, .any, .any, .any, .any, .any, .any, .any, .pv (.lst s1), .pv (.int .i64 (s1.length : Int)), .pv (.int .i64 i), .any, .any, .any, .any, .any, .any, .any, .any, .any, .any, .any, .any, .any, .any], ⟨[], [], [], 0, 0⟩⟩
noncomputable def L45_11014 (s2 : List PV) (eq_f : FuncId) (eq_c : List PV) (s1 : List PV) (i : Int) : Option Out := LV Pr T 45 [1, 1, 0, 1, 4] (st45_11014 s2 eq_f eq_c s1 i)
theorem f45 (s1 : List PV) (s2 : List PV) (eq_f : FuncId) (eq_c : List PV) (cl_ : FuncId → List Arg → Option Out) (lp_ : List Nat → AS → Option Out) : runW Pr T cl_ lp_ 45 [.pv (.lst s1), .pv (.lst s2), .pv (.fn eq_f eq_c)] =
  bif ((s1.length : Int) != (s2.length : Int)) then
    some (.pv (.bool false), [])
  else lp_ [1, 1, 0, 1, 4] (st45_11014 s2 eq_f eq_c s1 0) := by kernel_rfl
theorem e45 (s1 : List PV) (s2 : List PV) (eq_f : FuncId) (eq_c : List PV) : V 45 [.pv (.lst s1), .pv (.lst s2), .pv (.fn eq_f eq_c)] =
  bif ((s1.length : Int) != (s2.length : Int)) then
    some (.pv (.bool false), [])
  else L45_11014 s2 eq_f eq_c s1 0 :=
  (V_eq pa rfl _).trans (f45 s1 s2 eq_f eq_c V (LV Pr T 45))
theorem f45_11014 (s2 : List PV) (eq_f : FuncId) (eq_c : List PV) (s1 : List PV) (i : Int) (cl_ : FuncId → List Arg → Option Out) (lp_ : List Nat → AS → Option Out) : stepW Pr T cl_ lp_ 45 [1, 1, 0, 1, 4] (st45_11014 s2 eq_f eq_c s1 i) =
  bif decide (i < (s1.length : Int)) then
    bif decide (0 ≤ i) then
      (s1[i.toNat]?).bind fun x =>
        (bif (Sh.agg [Sh.int .i64, Sh.str, Sh.lst]).fits x then
          bif decide (0 ≤ i) then
            (s2[i.toNat]?).bind fun x1 =>
              (bif (Sh.agg [Sh.int .i64, Sh.str, Sh.lst]).fits x1 then
                ((cl_ eq_f ((([.agg [.int .i64 ((x.c 0).toInt), .str ((x.c 1).toStr), .lst ((x.c 2).toLst)], .agg [.int .i64 ((x1.c 0).toInt), .str ((x1.c 1).toStr), .lst ((x1.c 2).toLst)]] : List PV) ++ eq_c).map .pv)).bind retPV).bind fun r =>
                  (bif (Sh.bool).fits r then
                    bif (!r.toBool) then
                      some (.pv (.bool false), [])
                    else lp_ [1, 1, 0, 1, 4] (st45_11014 s2 eq_f eq_c s1 (IntKind.i64.wrap (i + (1 : Int))))
                  else none)
              else none)
          else none
        else none)
    else none
  else some (.pv (.bool true), []) := by kernel_rfl
theorem e45_11014 (s2 : List PV) (eq_f : FuncId) (eq_c : List PV) (s1 : List PV) (i : Int) : L45_11014 s2 eq_f eq_c s1 i =
  bif decide (i < (s1.length : Int)) then
    bif decide (0 ≤ i) then
      (s1[i.toNat]?).bind fun x =>
        (bif (Sh.agg [Sh.int .i64, Sh.str, Sh.lst]).fits x then
          bif decide (0 ≤ i) then
            (s2[i.toNat]?).bind fun x1 =>
              (bif (Sh.agg [Sh.int .i64, Sh.str, Sh.lst]).fits x1 then
                ((V eq_f ((([.agg [.int .i64 ((x.c 0).toInt), .str ((x.c 1).toStr), .lst ((x.c 2).toLst)], .agg [.int .i64 ((x1.c 0).toInt), .str ((x1.c 1).toStr), .lst ((x1.c 2).toLst)]] : List PV) ++ eq_c).map .pv)).bind retPV).bind fun r =>
                  (bif (Sh.bool).fits r then
                    bif (!r.toBool) then
                      some (.pv (.bool false), [])
                    else L45_11014 s2 eq_f eq_c s1 (IntKind.i64.wrap (i + (1 : Int)))
                  else none)
              else none)
          else none
        else none)
    else none
  else some (.pv (.bool true), []) :=
  (LV_eq pa 45 _ _).trans (f45_11014 s2 eq_f eq_c s1 i V (LV Pr T 45))
/-! 49 roadstead/roadkeep2.pure -/
theorem f49 (t_Kind : Int) (t_Name : List UInt8) (t_Args : List PV) (cl_ : FuncId → List Arg → Option Out) (lp_ : List Nat → AS → Option Out) : runW Pr T cl_ lp_ 49 [.pv (.agg [.int .i64 t_Kind, .str t_Name, .lst t_Args])] =
  bif (t_Kind != (5 : Int)) then
    ((cl_ 79 [.pv (.lst t_Args), .pv (.fn 80 [])]).bind retPV).bind fun r =>
      (bif (Sh.bool).fits r then
        some (.pv (.bool (!r.toBool)), [])
      else none)
  else bif ((t_Args.length : Int) == (0 : Int)) then
    ((cl_ 79 [.pv (.lst t_Args), .pv (.fn 80 [])]).bind retPV).bind fun r1 =>
      (bif (Sh.bool).fits r1 then
        some (.pv (.bool (!r1.toBool)), [])
      else none)
  else some (.pv (.bool false), []) := by kernel_rfl
theorem e49 (t_Kind : Int) (t_Name : List UInt8) (t_Args : List PV) : V 49 [.pv (.agg [.int .i64 t_Kind, .str t_Name, .lst t_Args])] =
  bif (t_Kind != (5 : Int)) then
    ((V 79 [.pv (.lst t_Args), .pv (.fn 80 [])]).bind retPV).bind fun r =>
      (bif (Sh.bool).fits r then
        some (.pv (.bool (!r.toBool)), [])
      else none)
  else bif ((t_Args.length : Int) == (0 : Int)) then
    ((V 79 [.pv (.lst t_Args), .pv (.fn 80 [])]).bind retPV).bind fun r1 =>
      (bif (Sh.bool).fits r1 then
        some (.pv (.bool (!r1.toBool)), [])
      else none)
  else some (.pv (.bool false), []) :=
  (V_eq pa rfl _).trans (f49 t_Kind t_Name t_Args V (LV Pr T 49))
/-! 50 roadstead/roadref2.Span -/
def st50_11104 (i : Int) (i3 : Int) (l1 : List PV) : AS :=
  ⟨[.any, .any, .any, .any, .pv (.int .i64 i), .pv (.int .i64 i3), .pv (.lst l1), .any, .any, .any, .any, .any, .any, .any, .any, .any, .any, .any, .any, .any, .any, .any, .any, .any, .any, .any, .any, .any, .any, .any, .any, .any, .any, .any, .any], ⟨[], [], [], 0, 0⟩⟩
noncomputable def L50_11104 (i : Int) (i3 : Int) (l1 : List PV) : Option Out := LV Pr T 50 [1, 1, 1, 0, 4] (st50_11104 i i3 l1)
def st50_11104514111014 (i1 : Int) (i2 : Int) (l : List PV) (l2 : List PV) (i3 : Int) (i : Int) : AS :=
  ⟨[.any, .any, .any, .any, .pv (.int .i64 i1), .pv (.int .i64 i2), .any, .bld 0 0 l, .any, .any, .any, .any, .any, .any, .any, .any, .any, .any, .any, .any, .any, .pv (.lst l2), .pv (.int .i64 i3), .pv (.int .i64 i), .any, .any, .any, .any, .any, .any, .any, .any, .any, .any, .any], ⟨[], [], [(0, 3)], 0, 0⟩⟩
noncomputable def L50_11104514111014 (i1 : Int) (i2 : Int) (l : List PV) (l2 : List PV) (i3 : Int) (i : Int) : Option Out := LV Pr T 50 [1, 1, 1, 0, 4, 5, 1, 4, 1, 1, 1, 0, 1, 4] (st50_11104514111014 i1 i2 l l2 i3 i)
theorem f50 (t_Kind : Int) (t_Name : List UInt8) (t_Args : List PV) (cl_ : FuncId → List Arg → Option Out) (lp_ : List Nat → AS → Option Out) : runW Pr T cl_ lp_ 50 [.pv (.agg [.int .i64 t_Kind, .str t_Name, .lst t_Args])] =
  lp_ [1, 1, 1, 0, 4] (st50_11104 0 0 [.agg [.int .i64 t_Kind, .str t_Name, .lst t_Args]]) := by kernel_rfl
theorem e50 (t_Kind : Int) (t_Name : List UInt8) (t_Args : List PV) : V 50 [.pv (.agg [.int .i64 t_Kind, .str t_Name, .lst t_Args])] =
  L50_11104 0 0 [.agg [.int .i64 t_Kind, .str t_Name, .lst t_Args]] :=
  (V_eq pa rfl _).trans (f50 t_Kind t_Name t_Args V (LV Pr T 50))
theorem f50_11104 (i : Int) (i3 : Int) (l1 : List PV) (cl_ : FuncId → List Arg → Option Out) (lp_ : List Nat → AS → Option Out) : stepW Pr T cl_ lp_ 50 [1, 1, 1, 0, 4] (st50_11104 i i3 l1) =
  bif decide ((l1.length : Int) > (0 : Int)) then
    lp_ [1, 1, 1, 0, 4, 5, 1, 4, 1, 1, 1, 0, 1, 4] (st50_11104514111014 (IntKind.i64.wrap (i + (l1.length : Int))) (IntKind.i64.wrap (i3 + (1 : Int))) [] l1 (l1.length : Int) 0)
  else some (.pv (.tup [.int .i64 i, .int .i64 i3]), []) := by kernel_rfl
theorem e50_11104 (i : Int) (i3 : Int) (l1 : List PV) : L50_11104 i i3 l1 =
  bif decide ((l1.length : Int) > (0 : Int)) then
    L50_11104514111014 (IntKind.i64.wrap (i + (l1.length : Int))) (IntKind.i64.wrap (i3 + (1 : Int))) [] l1 (l1.length : Int) 0
  else some (.pv (.tup [.int .i64 i, .int .i64 i3]), []) :=
  (LV_eq pa 50 _ _).trans (f50_11104 i i3 l1 V (LV Pr T 50))
theorem f50_11104514111014 (i1 : Int) (i2 : Int) (l : List PV) (l2 : List PV) (i3 : Int) (i : Int) (cl_ : FuncId → List Arg → Option Out) (lp_ : List Nat → AS → Option Out) : stepW Pr T cl_ lp_ 50 [1, 1, 1, 0, 4, 5, 1, 4, 1, 1, 1, 0, 1, 4] (st50_11104514111014 i1 i2 l l2 i3 i) =
  bif decide (i < i3) then
    bif decide (0 ≤ i) then
      (l2[i.toNat]?).bind fun x =>
        (bif (Sh.agg [Sh.int .i64, Sh.str, Sh.lst]).fits x then
          bif headOk 3 (x.c 2).toLst then
            bif small (l.length) ((x.c 2).toLst.length) 48 then
              lp_ [1, 1, 1, 0, 4, 5, 1, 4, 1, 1, 1, 0, 1, 4] (st50_11104514111014 i1 i2 (l ++ (x.c 2).toLst) l2 i3 (IntKind.i64.wrap (i + (1 : Int))))
            else none
          else none
        else none)
    else none
  else lp_ [1, 1, 1, 0, 4] (st50_11104 i1 i2 l) := by kernel_rfl
theorem e50_11104514111014 (i1 : Int) (i2 : Int) (l : List PV) (l2 : List PV) (i3 : Int) (i : Int) : L50_11104514111014 i1 i2 l l2 i3 i =
  bif decide (i < i3) then
    bif decide (0 ≤ i) then
      (l2[i.toNat]?).bind fun x =>
        (bif (Sh.agg [Sh.int .i64, Sh.str, Sh.lst]).fits x then
          bif headOk 3 (x.c 2).toLst then
            bif small (l.length) ((x.c 2).toLst.length) 48 then
              L50_11104514111014 i1 i2 (l ++ (x.c 2).toLst) l2 i3 (IntKind.i64.wrap (i + (1 : Int)))
            else none
          else none
        else none)
    else none
  else L50_11104 i1 i2 l :=
  (LV_eq pa 50 _ _).trans (f50_11104514111014 i1 i2 l l2 i3 i V (LV Pr T 50))
/-! 55 roadstead/kind.Put -/
def st55_1012116 (names : List PV) (l : List PV) (v : Int) (b : Bool) (t_Kind : Int) (t_Name : List UInt8) (t_Args : List PV) : AS :=
  ⟨[.any, .pv (.lst names), .pv (.lst l), .box 0 0, .any, .any, .box 1 0, .pv (.int .i64 v), .any, .any, .any, .any, .any, .any, .any, .any, .any, .any, .any, .any, .any, .any, .any, .any, .pv (.bool b), .any, .any, .any, .any, .any, .any, .any, .any, .any, .any, .any, .any, .any, .any, .any, .any, .any, .any, .any, .any, .any, .any, .any, .any, .any, .any, .any, .any, .any, .any, .any], ⟨[(false, [.pv (.int .i64 t_Kind), .pv (.str t_Name), .pv (.lst t_Args)]), (false, [.pv (.int .i64 0), .pv (.str []), .pv .nils])], [], [], 0, 0⟩⟩
noncomputable def L55_1012116 (names : List PV) (l : List PV) (v : Int) (b : Bool) (t_Kind : Int) (t_Name : List UInt8) (t_Args : List PV) : Option Out := LV Pr T 55 [1, 0, 1, 2, 1, 1, 6] (st55_1012116 names l v b t_Kind t_Name t_Args)
def st55_111014 (names : List PV) (l : List PV) (l1 : List PV) (i : Int) (t_Kind : Int) (t_Name : List UInt8) (l2 : List PV) : AS :=
  ⟨[.any, .pv (.lst names), .pv (.lst l), .box 0 0, .any, .any, .box 1 0, .any, .any, .any, .any, .any, .any, .any, .any, .any, .any, .any, .any, .any, .any, .any, .any, .any, .any, .any, .any, .any, .any, .any, .any, .any, .any, .any, .any, .any, .any, .any, .any, .vec 0 0, .pv (.int .i64 (l1.length : Int)), .pv (.int .i64 i), .any, .any, .any, .any, .any, .any, .any, .any, .any, .any, .any, .any, .any, .any], ⟨[(false, [.pv (.int .i64 t_Kind), .pv (.str t_Name), .vec 0 0]), (false, [.pv (.int .i64 0), .pv (.str []), .pv .nils])], [some (0, 3, l2)], [], 0, 0⟩⟩
noncomputable def L55_111014 (names : List PV) (l : List PV) (l1 : List PV) (i : Int) (t_Kind : Int) (t_Name : List UInt8) (l2 : List PV) : Option Out := LV Pr T 55 [1, 1, 1, 0, 1, 4] (st55_111014 names l l1 i t_Kind t_Name l2)
theorem f55 (t_Kind : Int) (t_Name : List UInt8) (t_Args : List PV) (names : List PV) (l : List PV) (cl_ : FuncId → List Arg → Option Out) (lp_ : List Nat → AS → Option Out) : runW Pr T cl_ lp_ 55 [.pv (.agg [.int .i64 t_Kind, .str t_Name, .lst t_Args]), .pv (.lst names), .pv (.lst l)] =
  bif (t_Kind == (5 : Int)) then
    ((cl_ 86 [.pv (.lst names), .pv (.str t_Name)]).bind retPV).bind fun r =>
      (bif (Sh.int .i64).fits r then
        bif decide ((r.toInt) ≥ (0 : Int)) then
          lp_ [1, 0, 1, 2, 1, 1, 6] (st55_1012116 names l r.toInt (decide ((r.toInt) < (l.length : Int))) t_Kind t_Name t_Args)
        else lp_ [1, 0, 1, 2, 1, 1, 6] (st55_1012116 names l r.toInt false t_Kind t_Name t_Args)
      else none)
  else (cl_ 88 [.pv (.lst t_Args)]).bind fun r1 =>
    ((retV 3 r1).bind fun l1 =>
      (lp_ [1, 1, 1, 0, 1, 4] (st55_111014 names l l1 0 t_Kind t_Name l1))) := by kernel_rfl
theorem e55 (t_Kind : Int) (t_Name : List UInt8) (t_Args : List PV) (names : List PV) (l : List PV) : V 55 [.pv (.agg [.int .i64 t_Kind, .str t_Name, .lst t_Args]), .pv (.lst names), .pv (.lst l)] =
  bif (t_Kind == (5 : Int)) then
    ((V 86 [.pv (.lst names), .pv (.str t_Name)]).bind retPV).bind fun r =>
      (bif (Sh.int .i64).fits r then
        bif decide ((r.toInt) ≥ (0 : Int)) then
          L55_1012116 names l r.toInt (decide ((r.toInt) < (l.length : Int))) t_Kind t_Name t_Args
        else L55_1012116 names l r.toInt false t_Kind t_Name t_Args
      else none)
  else (V 88 [.pv (.lst t_Args)]).bind fun r1 =>
    ((retV 3 r1).bind fun l1 =>
      (L55_111014 names l l1 0 t_Kind t_Name l1)) :=
  (V_eq pa rfl _).trans (f55 t_Kind t_Name t_Args names l V (LV Pr T 55))
theorem f55_1012116 (names : List PV) (l : List PV) (v : Int) (b : Bool) (t_Kind : Int) (t_Name : List UInt8) (t_Args : List PV) (cl_ : FuncId → List Arg → Option Out) (lp_ : List Nat → AS → Option Out) : stepW Pr T cl_ lp_ 55 [1, 0, 1, 2, 1, 1, 6] (st55_1012116 names l v b t_Kind t_Name t_Args) =
  bif b then
    bif decide (0 ≤ v) then
      (l[v.toNat]?).bind fun x =>
        (bif (Sh.agg [Sh.int .i64, Sh.str, Sh.lst]).fits x then
          ((cl_ 87 [.pv (.agg [.int .i64 ((x.c 0).toInt), .str ((x.c 1).toStr), .lst ((x.c 2).toLst)])]).bind retPV).bind fun r =>
            (bif (Sh.agg [Sh.int .i64, Sh.str, Sh.lst]).fits r then
              some (.pv (.agg [.int .i64 ((r.c 0).toInt), .str ((r.c 1).toStr), .lst ((r.c 2).toLst)]), [])
            else none)
        else none)
    else none
  else (cl_ 88 [.pv (.lst t_Args)]).bind fun r1 =>
    ((retV 3 r1).bind fun l1 =>
      (lp_ [1, 1, 1, 0, 1, 4] (st55_111014 names l l1 0 t_Kind t_Name l1))) := by kernel_rfl
theorem e55_1012116 (names : List PV) (l : List PV) (v : Int) (b : Bool) (t_Kind : Int) (t_Name : List UInt8) (t_Args : List PV) : L55_1012116 names l v b t_Kind t_Name t_Args =
  bif b then
    bif decide (0 ≤ v) then
      (l[v.toNat]?).bind fun x =>
        (bif (Sh.agg [Sh.int .i64, Sh.str, Sh.lst]).fits x then
          ((V 87 [.pv (.agg [.int .i64 ((x.c 0).toInt), .str ((x.c 1).toStr), .lst ((x.c 2).toLst)])]).bind retPV).bind fun r =>
            (bif (Sh.agg [Sh.int .i64, Sh.str, Sh.lst]).fits r then
              some (.pv (.agg [.int .i64 ((r.c 0).toInt), .str ((r.c 1).toStr), .lst ((r.c 2).toLst)]), [])
            else none)
        else none)
    else none
  else (V 88 [.pv (.lst t_Args)]).bind fun r1 =>
    ((retV 3 r1).bind fun l1 =>
      (L55_111014 names l l1 0 t_Kind t_Name l1)) :=
  (LV_eq pa 55 _ _).trans (f55_1012116 names l v b t_Kind t_Name t_Args V (LV Pr T 55))
theorem f55_111014 (names : List PV) (l : List PV) (l1 : List PV) (i : Int) (t_Kind : Int) (t_Name : List UInt8) (l2 : List PV) (cl_ : FuncId → List Arg → Option Out) (lp_ : List Nat → AS → Option Out) : stepW Pr T cl_ lp_ 55 [1, 1, 1, 0, 1, 4] (st55_111014 names l l1 i t_Kind t_Name l2) =
  bif decide (i < (l1.length : Int)) then
    bif (decide (0 ≤ i) && decide (i < (l2.length : Int))) then
      (l2[i.toNat]?).bind fun y =>
        (bif (Sh.agg [Sh.int .i64, Sh.str, Sh.lst]).fits y then
          ((cl_ 55 [.pv (.agg [.int .i64 ((y.c 0).toInt), .str ((y.c 1).toStr), .lst ((y.c 2).toLst)]), .pv (.lst names), .pv (.lst l)]).bind retPV).bind fun r =>
            (bif (Sh.agg [Sh.int .i64, Sh.str, Sh.lst]).fits r then
              bif (decide (0 ≤ i) && decide (i < (l2.length : Int))) then
                (l2[i.toNat]?).bind fun z =>
                  (bif ((Sh.agg [Sh.int .i64, Sh.str, Sh.lst]).fits z && true) then
                    lp_ [1, 1, 1, 0, 1, 4] (st55_111014 names l l1 (IntKind.i64.wrap (i + (1 : Int))) t_Kind t_Name (l2.set i.toNat (.agg [.int .i64 ((r.c 0).toInt), .str ((r.c 1).toStr), .lst ((r.c 2).toLst)])))
                  else none)
              else none
            else none)
        else none)
    else none
  else some (.pv (.agg [.int .i64 t_Kind, .str t_Name, .lst l2]), []) := by kernel_rfl
theorem e55_111014 (names : List PV) (l : List PV) (l1 : List PV) (i : Int) (t_Kind : Int) (t_Name : List UInt8) (l2 : List PV) : L55_111014 names l l1 i t_Kind t_Name l2 =
  bif decide (i < (l1.length : Int)) then
    bif (decide (0 ≤ i) && decide (i < (l2.length : Int))) then
      (l2[i.toNat]?).bind fun y =>
        (bif (Sh.agg [Sh.int .i64, Sh.str, Sh.lst]).fits y then
          ((V 55 [.pv (.agg [.int .i64 ((y.c 0).toInt), .str ((y.c 1).toStr), .lst ((y.c 2).toLst)]), .pv (.lst names), .pv (.lst l)]).bind retPV).bind fun r =>
            (bif (Sh.agg [Sh.int .i64, Sh.str, Sh.lst]).fits r then
              bif (decide (0 ≤ i) && decide (i < (l2.length : Int))) then
                (l2[i.toNat]?).bind fun z =>
                  (bif ((Sh.agg [Sh.int .i64, Sh.str, Sh.lst]).fits z && true) then
                    L55_111014 names l l1 (IntKind.i64.wrap (i + (1 : Int))) t_Kind t_Name (l2.set i.toNat (.agg [.int .i64 ((r.c 0).toInt), .str ((r.c 1).toStr), .lst ((r.c 2).toLst)]))
                  else none)
              else none
            else none)
        else none)
    else none
  else some (.pv (.agg [.int .i64 t_Kind, .str t_Name, .lst l2]), []) :=
  (LV_eq pa 55 _ _).trans (f55_111014 names l l1 i t_Kind t_Name l2 V (LV Pr T 55))
/-! 56 slices.IndexFunc[[]roadstead/unify.Bind,roadstead/unify.Bind] -/
def st56_1014 (s : List PV) (f_f : FuncId) (f_c : List PV) (i : Int) : AS :=
  ⟨[.pv (.lst s), .pv (.fn f_f f_c), .any, .any, .any, .any, .any, .pv (.int .i64 (s.length : Int)), .pv (.int .i64 i), .any, .any, .any, .any, .any, .any, .any, .any, .any, .any], ⟨[], [], [], 0, 0⟩⟩
noncomputable def L56_1014 (s : List PV) (f_f : FuncId) (f_c : List PV) (i : Int) : Option Out := LV Pr T 56 [1, 0, 1, 4] (st56_1014 s f_f f_c i)
theorem f56 (s : List PV) (f_f : FuncId) (f_c : List PV) (cl_ : FuncId → List Arg → Option Out) (lp_ : List Nat → AS → Option Out) : runW Pr T cl_ lp_ 56 [.pv (.lst s), .pv (.fn f_f f_c)] =
  lp_ [1, 0, 1, 4] (st56_1014 s f_f f_c 0) := by kernel_rfl
theorem e56 (s : List PV) (f_f : FuncId) (f_c : List PV) : V 56 [.pv (.lst s), .pv (.fn f_f f_c)] =
  L56_1014 s f_f f_c 0 :=
  (V_eq pa rfl _).trans (f56 s f_f f_c V (LV Pr T 56))
theorem f56_1014 (s : List PV) (f_f : FuncId) (f_c : List PV) (i : Int) (cl_ : FuncId → List Arg → Option Out) (lp_ : List Nat → AS → Option Out) : stepW Pr T cl_ lp_ 56 [1, 0, 1, 4] (st56_1014 s f_f f_c i) =
  bif decide (i < (s.length : Int)) then
    bif decide (0 ≤ i) then
      (s[i.toNat]?).bind fun x =>
        (bif (Sh.agg [Sh.str, Sh.int .i64, Sh.str, Sh.lst]).fits x then
          ((cl_ f_f ((([.agg [.str ((x.c 0).toStr), .int .i64 ((x.c 1).toInt), .str ((x.c 2).toStr), .lst ((x.c 3).toLst)]] : List PV) ++ f_c).map .pv)).bind retPV).bind fun r =>
            (bif (Sh.bool).fits r then
              bif r.toBool then
                some (.pv (.int .i64 i), [])
              else lp_ [1, 0, 1, 4] (st56_1014 s f_f f_c (IntKind.i64.wrap (i + (1 : Int))))
            else none)
        else none)
    else none
  else some (.pv (.int .i64 (-1)), []) := by kernel_rfl
theorem e56_1014 (s : List PV) (f_f : FuncId) (f_c : List PV) (i : Int) : L56_1014 s f_f f_c i =
  bif decide (i < (s.length : Int)) then
    bif decide (0 ≤ i) then
      (s[i.toNat]?).bind fun x =>
        (bif (Sh.agg [Sh.str, Sh.int .i64, Sh.str, Sh.lst]).fits x then
          ((V f_f ((([.agg [.str ((x.c 0).toStr), .int .i64 ((x.c 1).toInt), .str ((x.c 2).toStr), .lst ((x.c 3).toLst)]] : List PV) ++ f_c).map .pv)).bind retPV).bind fun r =>
            (bif (Sh.bool).fits r then
              bif r.toBool then
                some (.pv (.int .i64 i), [])
              else L56_1014 s f_f f_c (IntKind.i64.wrap (i + (1 : Int)))
            else none)
        else none)
    else none
  else some (.pv (.int .i64 (-1)), []) :=
  (LV_eq pa 56 _ _).trans (f56_1014 s f_f f_c i V (LV Pr T 56))
/-! 57 roadstead/unify.unknowns -/
def st57_1016 (out : List PV) (b : Bool) (t_Kind : Int) (t_Name : List UInt8) (t_Args : List PV) : AS :=
  ⟨[.any, .bld 0 0 out, .box 0 0, .any, .any, .any, .any, .any, .any, .any, .any, .any, .any, .any, .any, .pv (.bool b), .any, .any, .any, .any, .any, .any, .any, .any, .any, .any, .any, .any, .any, .any, .any, .any, .any], ⟨[(false, [.pv (.int .i64 t_Kind), .pv (.str t_Name), .pv (.lst t_Args)])], [], [(0, 1)], 0, 0⟩⟩
noncomputable def L57_1016 (out : List PV) (b : Bool) (t_Kind : Int) (t_Name : List UInt8) (t_Args : List PV) : Option Out := LV Pr T 57 [1, 0, 1, 6] (st57_1016 out b t_Kind t_Name t_Args)
def st57_116 (l : List PV) (t_Kind : Int) (t_Name : List UInt8) (t_Args : List PV) : AS :=
  ⟨[.any, .bld 0 0 l, .box 0 0, .any, .any, .any, .any, .any, .any, .any, .any, .any, .any, .any, .any, .any, .any, .any, .any, .any, .any, .any, .any, .any, .any, .any, .any, .any, .any, .any, .any, .any, .any], ⟨[(false, [.pv (.int .i64 t_Kind), .pv (.str t_Name), .pv (.lst t_Args)])], [], [(0, 1)], 0, 0⟩⟩
noncomputable def L57_116 (l : List PV) (t_Kind : Int) (t_Name : List UInt8) (t_Args : List PV) : Option Out := LV Pr T 57 [1, 1, 6] (st57_116 l t_Kind t_Name t_Args)
def st57_11014 (l : List PV) (t_Args : List PV) (i : Int) : AS :=
  ⟨[.any, .bld 0 0 l, .any, .any, .any, .any, .any, .any, .any, .any, .any, .any, .any, .any, .any, .any, .any, .any, .any, .any, .any, .any, .pv (.lst t_Args), .pv (.int .i64 (t_Args.length : Int)), .pv (.int .i64 i), .any, .any, .any, .any, .any, .any, .any, .any], ⟨[], [], [(0, 1)], 0, 0⟩⟩
noncomputable def L57_11014 (l : List PV) (t_Args : List PV) (i : Int) : Option Out := LV Pr T 57 [1, 1, 0, 1, 4] (st57_11014 l t_Args i)
theorem f57 (t_Kind : Int) (t_Name : List UInt8) (t_Args : List PV) (out : List PV) (cl_ : FuncId → List Arg → Option Out) (lp_ : List Nat → AS → Option Out) : runW Pr T cl_ lp_ 57 [.pv (.agg [.int .i64 t_Kind, .str t_Name, .lst t_Args]), .bld 1 out] =
  ((cl_ 81 [.pv (.agg [.int .i64 t_Kind, .str t_Name, .lst t_Args])]).bind retPV).bind fun r =>
    (bif (Sh.bool).fits r then
      bif r.toBool then
        ((cl_ 89 [.pv (.lst out), .pv (.str t_Name)]).bind retPV).bind fun r1 =>
          (bif (Sh.bool).fits r1 then
            lp_ [1, 0, 1, 6] (st57_1016 out (!r1.toBool) t_Kind t_Name t_Args)
          else none)
      else lp_ [1, 0, 1, 6] (st57_1016 out false t_Kind t_Name t_Args)
    else none) := by kernel_rfl
theorem e57 (t_Kind : Int) (t_Name : List UInt8) (t_Args : List PV) (out : List PV) : V 57 [.pv (.agg [.int .i64 t_Kind, .str t_Name, .lst t_Args]), .bld 1 out] =
  ((V 81 [.pv (.agg [.int .i64 t_Kind, .str t_Name, .lst t_Args])]).bind retPV).bind fun r =>
    (bif (Sh.bool).fits r then
      bif r.toBool then
        ((V 89 [.pv (.lst out), .pv (.str t_Name)]).bind retPV).bind fun r1 =>
          (bif (Sh.bool).fits r1 then
            L57_1016 out (!r1.toBool) t_Kind t_Name t_Args
          else none)
      else L57_1016 out false t_Kind t_Name t_Args
    else none) :=
  (V_eq pa rfl _).trans (f57 t_Kind t_Name t_Args out V (LV Pr T 57))
theorem f57_1016 (out : List PV) (b : Bool) (t_Kind : Int) (t_Name : List UInt8) (t_Args : List PV) (cl_ : FuncId → List Arg → Option Out) (lp_ : List Nat → AS → Option Out) : stepW Pr T cl_ lp_ 57 [1, 0, 1, 6] (st57_1016 out b t_Kind t_Name t_Args) =
  bif b then
    bif small (out.length) 1 16 then
      lp_ [1, 1, 6] (st57_116 (out ++ ([.str t_Name] : List PV)) t_Kind t_Name t_Args)
    else none
  else lp_ [1, 1, 6] (st57_116 out t_Kind t_Name t_Args) := by kernel_rfl
theorem e57_1016 (out : List PV) (b : Bool) (t_Kind : Int) (t_Name : List UInt8) (t_Args : List PV) : L57_1016 out b t_Kind t_Name t_Args =
  bif b then
    bif small (out.length) 1 16 then
      L57_116 (out ++ ([.str t_Name] : List PV)) t_Kind t_Name t_Args
    else none
  else L57_116 out t_Kind t_Name t_Args :=
  (LV_eq pa 57 _ _).trans (f57_1016 out b t_Kind t_Name t_Args V (LV Pr T 57))
theorem f57_116 (l : List PV) (t_Kind : Int) (t_Name : List UInt8) (t_Args : List PV) (cl_ : FuncId → List Arg → Option Out) (lp_ : List Nat → AS → Option Out) : stepW Pr T cl_ lp_ 57 [1, 1, 6] (st57_116 l t_Kind t_Name t_Args) =
  lp_ [1, 1, 0, 1, 4] (st57_11014 l t_Args 0) := by kernel_rfl
theorem e57_116 (l : List PV) (t_Kind : Int) (t_Name : List UInt8) (t_Args : List PV) : L57_116 l t_Kind t_Name t_Args =
  L57_11014 l t_Args 0 :=
  (LV_eq pa 57 _ _).trans (f57_116 l t_Kind t_Name t_Args V (LV Pr T 57))
theorem f57_11014 (l : List PV) (t_Args : List PV) (i : Int) (cl_ : FuncId → List Arg → Option Out) (lp_ : List Nat → AS → Option Out) : stepW Pr T cl_ lp_ 57 [1, 1, 0, 1, 4] (st57_11014 l t_Args i) =
  bif decide (i < (t_Args.length : Int)) then
    bif decide (0 ≤ i) then
      (t_Args[i.toNat]?).bind fun x =>
        (bif (Sh.agg [Sh.int .i64, Sh.str, Sh.lst]).fits x then
          (cl_ 57 [.pv (.agg [.int .i64 ((x.c 0).toInt), .str ((x.c 1).toStr), .lst ((x.c 2).toLst)]), .bld 1 l]).bind fun r =>
            ((retB 1 r).bind fun l1 =>
              (lp_ [1, 1, 0, 1, 4] (st57_11014 l1 t_Args (IntKind.i64.wrap (i + (1 : Int))))))
        else none)
    else none
  else some (.bld 1 l, []) := by kernel_rfl
theorem e57_11014 (l : List PV) (t_Args : List PV) (i : Int) : L57_11014 l t_Args i =
  bif decide (i < (t_Args.length : Int)) then
    bif decide (0 ≤ i) then
      (t_Args[i.toNat]?).bind fun x =>
        (bif (Sh.agg [Sh.int .i64, Sh.str, Sh.lst]).fits x then
          (V 57 [.pv (.agg [.int .i64 ((x.c 0).toInt), .str ((x.c 1).toStr), .lst ((x.c 2).toLst)]), .bld 1 l]).bind fun r =>
            ((retB 1 r).bind fun l1 =>
              (L57_11014 l1 t_Args (IntKind.i64.wrap (i + (1 : Int)))))
        else none)
    else none
  else some (.bld 1 l, []) :=
  (LV_eq pa 57 _ _).trans (f57_11014 l t_Args i V (LV Pr T 57))
/-! 79 slices.ContainsFunc[[]roadstead/api.Type,roadstead/api.Type] -/
theorem f79 (s : List PV) (f_f : FuncId) (f_c : List PV) (cl_ : FuncId → List Arg → Option Out) (lp_ : List Nat → AS → Option Out) : runW Pr T cl_ lp_ 79 [.pv (.lst s), .pv (.fn f_f f_c)] =
  ((cl_ 114 [.pv (.lst s), .pv (.fn f_f f_c)]).bind retPV).bind fun r =>
    (bif (Sh.int .i64).fits r then
      some (.pv (.bool (decide ((r.toInt) ≥ (0 : Int)))), [])
    else none) := by kernel_rfl
theorem e79 (s : List PV) (f_f : FuncId) (f_c : List PV) : V 79 [.pv (.lst s), .pv (.fn f_f f_c)] =
  ((V 114 [.pv (.lst s), .pv (.fn f_f f_c)]).bind retPV).bind fun r =>
    (bif (Sh.int .i64).fits r then
      some (.pv (.bool (decide ((r.toInt) ≥ (0 : Int)))), [])
    else none) :=
  (V_eq pa rfl _).trans (f79 s f_f f_c V (LV Pr T 79))
/-! 80 roadstead/roadkeep2.pure$1 -/
theorem f80 (x_Kind : Int) (x_Name : List UInt8) (x_Args : List PV) (cl_ : FuncId → List Arg → Option Out) (lp_ : List Nat → AS → Option Out) : runW Pr T cl_ lp_ 80 [.pv (.agg [.int .i64 x_Kind, .str x_Name, .lst x_Args])] =
  ((cl_ 49 [.pv (.agg [.int .i64 x_Kind, .str x_Name, .lst x_Args])]).bind retPV).bind fun r =>
    (bif (Sh.bool).fits r then
      some (.pv (.bool (!r.toBool)), [])
    else none) := by kernel_rfl
theorem e80 (x_Kind : Int) (x_Name : List UInt8) (x_Args : List PV) : V 80 [.pv (.agg [.int .i64 x_Kind, .str x_Name, .lst x_Args])] =
  ((V 49 [.pv (.agg [.int .i64 x_Kind, .str x_Name, .lst x_Args])]).bind retPV).bind fun r =>
    (bif (Sh.bool).fits r then
      some (.pv (.bool (!r.toBool)), [])
    else none) :=
  (V_eq pa rfl _).trans (f80 x_Kind x_Name x_Args V (LV Pr T 80))
/-! 81 roadstead/unify.Unknown -/
theorem f81 (t_Kind : Int) (t_Name : List UInt8) (t_Args : List PV) (cl_ : FuncId → List Arg → Option Out) (lp_ : List Nat → AS → Option Out) : runW Pr T cl_ lp_ 81 [.pv (.agg [.int .i64 t_Kind, .str t_Name, .lst t_Args])] =
  bif (t_Kind == (5 : Int)) then
    bif ((t_Args.length : Int) == (0 : Int)) then
      ((cl_ 115 [.pv (.str t_Name), .pv (.str [63])]).bind retPV).bind fun r =>
        (bif (Sh.bool).fits r then
          some (.pv (.bool r.toBool), [])
        else none)
    else some (.pv (.bool false), [])
  else some (.pv (.bool false), []) := by kernel_rfl
theorem e81 (t_Kind : Int) (t_Name : List UInt8) (t_Args : List PV) : V 81 [.pv (.agg [.int .i64 t_Kind, .str t_Name, .lst t_Args])] =
  bif (t_Kind == (5 : Int)) then
    bif ((t_Args.length : Int) == (0 : Int)) then
      ((V 115 [.pv (.str t_Name), .pv (.str [63])]).bind retPV).bind fun r =>
        (bif (Sh.bool).fits r then
          some (.pv (.bool r.toBool), [])
        else none)
    else some (.pv (.bool false), [])
  else some (.pv (.bool false), []) :=
  (V_eq pa rfl _).trans (f81 t_Kind t_Name t_Args V (LV Pr T 81))
/-! 86 slices.Index[[]string,string] -/
def st86_1014 (s : List PV) (v : List UInt8) (i : Int) : AS :=
  ⟨[.pv (.lst s), .pv (.str v), .any, .any, .any, .any, .any, .pv (.int .i64 (s.length : Int)), .pv (.int .i64 i), .any, .any, .any, .any, .any, .any, .any, .any, .any, .any], ⟨[], [], [], 0, 0⟩⟩
noncomputable def L86_1014 (s : List PV) (v : List UInt8) (i : Int) : Option Out := LV Pr T 86 [1, 0, 1, 4] (st86_1014 s v i)
theorem f86 (s : List PV) (v : List UInt8) (cl_ : FuncId → List Arg → Option Out) (lp_ : List Nat → AS → Option Out) : runW Pr T cl_ lp_ 86 [.pv (.lst s), .pv (.str v)] =
  lp_ [1, 0, 1, 4] (st86_1014 s v 0) := by kernel_rfl
theorem e86 (s : List PV) (v : List UInt8) : V 86 [.pv (.lst s), .pv (.str v)] =
  L86_1014 s v 0 :=
  (V_eq pa rfl _).trans (f86 s v V (LV Pr T 86))
theorem f86_1014 (s : List PV) (v : List UInt8) (i : Int) (cl_ : FuncId → List Arg → Option Out) (lp_ : List Nat → AS → Option Out) : stepW Pr T cl_ lp_ 86 [1, 0, 1, 4] (st86_1014 s v i) =
  bif decide (i < (s.length : Int)) then
    bif decide (0 ≤ i) then
      (s[i.toNat]?).bind fun x =>
        (bif (Sh.str).fits x then
          bif (v == x.toStr) then
            some (.pv (.int .i64 i), [])
          else lp_ [1, 0, 1, 4] (st86_1014 s v (IntKind.i64.wrap (i + (1 : Int))))
        else none)
    else none
  else some (.pv (.int .i64 (-1)), []) := by kernel_rfl
theorem e86_1014 (s : List PV) (v : List UInt8) (i : Int) : L86_1014 s v i =
  bif decide (i < (s.length : Int)) then
    bif decide (0 ≤ i) then
      (s[i.toNat]?).bind fun x =>
        (bif (Sh.str).fits x then
          bif (v == x.toStr) then
            some (.pv (.int .i64 i), [])
          else L86_1014 s v (IntKind.i64.wrap (i + (1 : Int)))
        else none)
    else none
  else some (.pv (.int .i64 (-1)), []) :=
  (LV_eq pa 86 _ _).trans (f86_1014 s v i V (LV Pr T 86))
/-! 87 roadstead/kind.Copy -/
theorem f87 (t_Kind : Int) (t_Name : List UInt8) (t_Args : List PV) (cl_ : FuncId → List Arg → Option Out) (lp_ : List Nat → AS → Option Out) : runW Pr T cl_ lp_ 87 [.pv (.agg [.int .i64 t_Kind, .str t_Name, .lst t_Args])] =
  ((cl_ 55 [.pv (.agg [.int .i64 t_Kind, .str t_Name, .lst t_Args]), .pv (.lst []), .pv (.lst [])]).bind retPV).bind fun r =>
    (bif (Sh.agg [Sh.int .i64, Sh.str, Sh.lst]).fits r then
      some (.pv (.agg [.int .i64 ((r.c 0).toInt), .str ((r.c 1).toStr), .lst ((r.c 2).toLst)]), [])
    else none) := by kernel_rfl
theorem e87 (t_Kind : Int) (t_Name : List UInt8) (t_Args : List PV) : V 87 [.pv (.agg [.int .i64 t_Kind, .str t_Name, .lst t_Args])] =
  ((V 55 [.pv (.agg [.int .i64 t_Kind, .str t_Name, .lst t_Args]), .pv (.lst []), .pv (.lst [])]).bind retPV).bind fun r =>
    (bif (Sh.agg [Sh.int .i64, Sh.str, Sh.lst]).fits r then
      some (.pv (.agg [.int .i64 ((r.c 0).toInt), .str ((r.c 1).toStr), .lst ((r.c 2).toLst)]), [])
    else none) :=
  (V_eq pa rfl _).trans (f87 t_Kind t_Name t_Args V (LV Pr T 87))
/-! 89 slices.Contains[[]string,string] -/
theorem f89 (s : List PV) (v : List UInt8) (cl_ : FuncId → List Arg → Option Out) (lp_ : List Nat → AS → Option Out) : runW Pr T cl_ lp_ 89 [.pv (.lst s), .pv (.str v)] =
  ((cl_ 86 [.pv (.lst s), .pv (.str v)]).bind retPV).bind fun r =>
    (bif (Sh.int .i64).fits r then
      some (.pv (.bool (decide ((r.toInt) ≥ (0 : Int)))), [])
    else none) := by kernel_rfl
theorem e89 (s : List PV) (v : List UInt8) : V 89 [.pv (.lst s), .pv (.str v)] =
  ((V 86 [.pv (.lst s), .pv (.str v)]).bind retPV).bind fun r =>
    (bif (Sh.int .i64).fits r then
      some (.pv (.bool (decide ((r.toInt) ≥ (0 : Int)))), [])
    else none) :=
  (V_eq pa rfl _).trans (f89 s v V (LV Pr T 89))
/-! 114 slices.IndexFunc[[]roadstead/api.Type,roadstead/api.Type] -/
def st114_1014 (s : List PV) (f_f : FuncId) (f_c : List PV) (i : Int) : AS :=
  ⟨[.pv (.lst s), .pv (.fn f_f f_c), .any, .any, .any, .any, .any, .pv (.int .i64 (s.length : Int)), .pv (.int .i64 i), .any, .any, .any, .any, .any, .any, .any, .any, .any, .any], ⟨[], [], [], 0, 0⟩⟩
noncomputable def L114_1014 (s : List PV) (f_f : FuncId) (f_c : List PV) (i : Int) : Option Out := LV Pr T 114 [1, 0, 1, 4] (st114_1014 s f_f f_c i)
theorem f114 (s : List PV) (f_f : FuncId) (f_c : List PV) (cl_ : FuncId → List Arg → Option Out) (lp_ : List Nat → AS → Option Out) : runW Pr T cl_ lp_ 114 [.pv (.lst s), .pv (.fn f_f f_c)] =
  lp_ [1, 0, 1, 4] (st114_1014 s f_f f_c 0) := by kernel_rfl
theorem e114 (s : List PV) (f_f : FuncId) (f_c : List PV) : V 114 [.pv (.lst s), .pv (.fn f_f f_c)] =
  L114_1014 s f_f f_c 0 :=
  (V_eq pa rfl _).trans (f114 s f_f f_c V (LV Pr T 114))
theorem f114_1014 (s : List PV) (f_f : FuncId) (f_c : List PV) (i : Int) (cl_ : FuncId → List Arg → Option Out) (lp_ : List Nat → AS → Option Out) : stepW Pr T cl_ lp_ 114 [1, 0, 1, 4] (st114_1014 s f_f f_c i) =
  bif decide (i < (s.length : Int)) then
    bif decide (0 ≤ i) then
      (s[i.toNat]?).bind fun x =>
        (bif (Sh.agg [Sh.int .i64, Sh.str, Sh.lst]).fits x then
          ((cl_ f_f ((([.agg [.int .i64 ((x.c 0).toInt), .str ((x.c 1).toStr), .lst ((x.c 2).toLst)]] : List PV) ++ f_c).map .pv)).bind retPV).bind fun r =>
            (bif (Sh.bool).fits r then
              bif r.toBool then
                some (.pv (.int .i64 i), [])
              else lp_ [1, 0, 1, 4] (st114_1014 s f_f f_c (IntKind.i64.wrap (i + (1 : Int))))
            else none)
        else none)
    else none
  else some (.pv (.int .i64 (-1)), []) := by kernel_rfl
theorem e114_1014 (s : List PV) (f_f : FuncId) (f_c : List PV) (i : Int) : L114_1014 s f_f f_c i =
  bif decide (i < (s.length : Int)) then
    bif decide (0 ≤ i) then
      (s[i.toNat]?).bind fun x =>
        (bif (Sh.agg [Sh.int .i64, Sh.str, Sh.lst]).fits x then
          ((V f_f ((([.agg [.int .i64 ((x.c 0).toInt), .str ((x.c 1).toStr), .lst ((x.c 2).toLst)]] : List PV) ++ f_c).map .pv)).bind retPV).bind fun r =>
            (bif (Sh.bool).fits r then
              bif r.toBool then
                some (.pv (.int .i64 i), [])
              else L114_1014 s f_f f_c (IntKind.i64.wrap (i + (1 : Int)))
            else none)
        else none)
    else none
  else some (.pv (.int .i64 (-1)), []) :=
  (LV_eq pa 114 _ _).trans (f114_1014 s f_f f_c i V (LV Pr T 114))
/-! 115 strings.HasPrefix -/
theorem f115 (s : List UInt8) (prefix_ : List UInt8) (cl_ : FuncId → List Arg → Option Out) (lp_ : List Nat → AS → Option Out) : runW Pr T cl_ lp_ 115 [.pv (.str s), .pv (.str prefix_)] =
  ((cl_ 135 [.pv (.str s), .pv (.str prefix_)]).bind retPV).bind fun r =>
    (bif (Sh.bool).fits r then
      some (.pv (.bool r.toBool), [])
    else none) := by kernel_rfl
theorem e115 (s : List UInt8) (prefix_ : List UInt8) : V 115 [.pv (.str s), .pv (.str prefix_)] =
  ((V 135 [.pv (.str s), .pv (.str prefix_)]).bind retPV).bind fun r =>
    (bif (Sh.bool).fits r then
      some (.pv (.bool r.toBool), [])
    else none) :=
  (V_eq pa rfl _).trans (f115 s prefix_ V (LV Pr T 115))
/-! 117 roadstead/unify.Size -/
def st117_11014 (i : Int) (i1 : Int) (t_Args : List PV) (i2 : Int) : AS :=
  ⟨[.any, .any, .any, .any, .pv (.int .i64 i), .pv (.int .i64 i1), .any, .any, .any, .any, .any, .pv (.lst t_Args), .pv (.int .i64 (t_Args.length : Int)), .pv (.int .i64 i2), .any, .any, .any, .any, .any, .any, .any, .any, .any, .any, .any, .any, .any, .any, .any, .any, .any, .any], ⟨[], [], [], 0, 0⟩⟩
noncomputable def L117_11014 (i : Int) (i1 : Int) (t_Args : List PV) (i2 : Int) : Option Out := LV Pr T 117 [1, 1, 0, 1, 4] (st117_11014 i i1 t_Args i2)
theorem f117 (t_Kind : Int) (t_Name : List UInt8) (t_Args : List PV) (cl_ : FuncId → List Arg → Option Out) (lp_ : List Nat → AS → Option Out) : runW Pr T cl_ lp_ 117 [.pv (.agg [.int .i64 t_Kind, .str t_Name, .lst t_Args])] =
  lp_ [1, 1, 0, 1, 4] (st117_11014 1 0 t_Args 0) := by kernel_rfl
theorem e117 (t_Kind : Int) (t_Name : List UInt8) (t_Args : List PV) : V 117 [.pv (.agg [.int .i64 t_Kind, .str t_Name, .lst t_Args])] =
  L117_11014 1 0 t_Args 0 :=
  (V_eq pa rfl _).trans (f117 t_Kind t_Name t_Args V (LV Pr T 117))
theorem f117_11014 (i : Int) (i1 : Int) (t_Args : List PV) (i2 : Int) (cl_ : FuncId → List Arg → Option Out) (lp_ : List Nat → AS → Option Out) : stepW Pr T cl_ lp_ 117 [1, 1, 0, 1, 4] (st117_11014 i i1 t_Args i2) =
  bif decide (i2 < (t_Args.length : Int)) then
    bif decide (0 ≤ i2) then
      (t_Args[i2.toNat]?).bind fun x =>
        (bif (Sh.agg [Sh.int .i64, Sh.str, Sh.lst]).fits x then
          ((cl_ 117 [.pv (.agg [.int .i64 ((x.c 0).toInt), .str ((x.c 1).toStr), .lst ((x.c 2).toLst)])]).bind retPV).bind fun r =>
            (bif (Sh.tup [Sh.int .i64, Sh.int .i64]).fits r then
              lp_ [1, 1, 0, 1, 4] (st117_11014 (IntKind.i64.wrap (i + ((r.r 0).toInt))) (bif decide (((r.r 1).toInt) > i1) then ((r.r 1).toInt) else i1) t_Args (IntKind.i64.wrap (i2 + (1 : Int))))
            else none)
        else none)
    else none
  else some (.pv (.tup [.int .i64 i, .int .i64 (IntKind.i64.wrap (i1 + (1 : Int)))]), []) := by kernel_rfl
theorem e117_11014 (i : Int) (i1 : Int) (t_Args : List PV) (i2 : Int) : L117_11014 i i1 t_Args i2 =
  bif decide (i2 < (t_Args.length : Int)) then
    bif decide (0 ≤ i2) then
      (t_Args[i2.toNat]?).bind fun x =>
        (bif (Sh.agg [Sh.int .i64, Sh.str, Sh.lst]).fits x then
          ((V 117 [.pv (.agg [.int .i64 ((x.c 0).toInt), .str ((x.c 1).toStr), .lst ((x.c 2).toLst)])]).bind retPV).bind fun r =>
            (bif (Sh.tup [Sh.int .i64, Sh.int .i64]).fits r then
              L117_11014 (IntKind.i64.wrap (i + ((r.r 0).toInt))) (bif decide (((r.r 1).toInt) > i1) then ((r.r 1).toInt) else i1) t_Args (IntKind.i64.wrap (i2 + (1 : Int)))
            else none)
        else none)
    else none
  else some (.pv (.tup [.int .i64 i, .int .i64 (IntKind.i64.wrap (i1 + (1 : Int)))]), []) :=
  (LV_eq pa 117 _ _).trans (f117_11014 i i1 t_Args i2 V (LV Pr T 117))
/-! 135 internal/stringslite.HasPrefix -/
theorem f135 (s : List UInt8) (prefix_ : List UInt8) (cl_ : FuncId → List Arg → Option Out) (lp_ : List Nat → AS → Option Out) : runW Pr T cl_ lp_ 135 [.pv (.str s), .pv (.str prefix_)] =
  bif decide ((s.length : Int) ≥ (prefix_.length : Int)) then
    bif (decide (0 ≤ (prefix_.length : Int)) && decide ((prefix_.length : Int) ≤ (s.length : Int))) then
      some (.pv (.bool ((s.take (prefix_.length : Int).toNat) == prefix_)), [])
    else none
  else some (.pv (.bool false), []) := by kernel_rfl
theorem e135 (s : List UInt8) (prefix_ : List UInt8) : V 135 [.pv (.str s), .pv (.str prefix_)] =
  bif decide ((s.length : Int) ≥ (prefix_.length : Int)) then
    bif (decide (0 ≤ (prefix_.length : Int)) && decide ((prefix_.length : Int) ≤ (s.length : Int))) then
      some (.pv (.bool ((s.take (prefix_.length : Int).toNat) == prefix_)), [])
    else none
  else some (.pv (.bool false), []) :=
  (V_eq pa rfl _).trans (f135 s prefix_ V (LV Pr T 135))
end Go.AL.S4
