/- Equations of functions in the abstract machine: printed by gen.py. -/
import Derived.Test.YtjfibflkfdpllaaGreatDoorS11T
set_option linter.unusedVariables false
set_option maxRecDepth 100000
namespace Go.AL.S11
open Go Go.AL
/-! 3 roadstead/roadkeep2.CoverMore -/
def st3_1111014 (k : Int) (more : Int) (l : List PV) (ks : List PV) (i : Int) (v : List UInt8) (v1 : Int) (v2 : List PV) (v3 : List PV) (v4 : List PV) (v5 : List PV) (v6 : List PV) (v7 : List PV) : AS :=
  ⟨[.any, .pv (.int .i64 k), .pv (.int .i64 more), .any, .any, .any, .any, .box 0 0, .bld 0 0 l, .any, .any, .any, .any, .any, .any, .any, .any, .any, .any, .any, .any, .any, .any, .any, .any, .any, .any, .any, .any, .any, .any, .pv (.lst (ks.take (bif decide ((6 : Int) < (ks.length : Int)) then (6 : Int) else (ks.length : Int)).toNat)), .pv (.int .i64 ((ks.take (bif decide ((6 : Int) < (ks.length : Int)) then (6 : Int) else (ks.length : Int)).toNat).length : Int)), .pv (.int .i64 i), .any, .any, .any, .any, .any, .any, .any, .any, .any, .any, .any, .any, .any, .any, .any, .any, .any, .any, .any, .any, .any, .any, .any, .any, .any, .any, .any, .any, .any, .any, .any, .any, .any, .any, .any, .any, .any, .any, .any, .any, .any, .any, .any, .any, .any, .any, .any, .any, .any, .any, .any, .any, .any, .any, .any, .any, .any, .any, .any, .any, .any, .any, .any, .any, .any, .any, .any], ⟨[(false, [.pv (.str v), .pv (.int .i64 v1), .pv (.lst v2), .pv (.lst v3), .pv (.lst v4), .pv (.lst v5), .pv (.lst v6), .pv (.lst v7)])], [], [(0, 4)], 0, 0⟩⟩
noncomputable def L3_1111014 (k : Int) (more : Int) (l : List PV) (ks : List PV) (i : Int) (v : List UInt8) (v1 : Int) (v2 : List PV) (v3 : List PV) (v4 : List PV) (v5 : List PV) (v6 : List PV) (v7 : List PV) : Option Out := LV Pr T 3 [1, 1, 1, 1, 0, 1, 4] (st3_1111014 k more l ks i v v1 v2 v3 v4 v5 v6 v7)
def st3_1111111111016 (v : Bool) (v1 : Bool) (v2 : List PV) (v3 : List PV) (b : Bool) : AS :=
  ⟨[.any, .any, .any, .any, .any, .any, .any, .any, .any, .any, .any, .any, .pv (.bool v), .any, .any, .pv (.bool v1), .pv (.lst v2), .pv (.lst v3), .any, .any, .any, .any, .any, .any, .any, .any, .any, .any, .any, .any, .any, .any, .any, .any, .any, .any, .any, .any, .any, .any, .any, .any, .any, .any, .any, .any, .any, .any, .any, .any, .any, .any, .any, .any, .any, .any, .any, .any, .any, .any, .any, .any, .any, .any, .any, .any, .any, .any, .any, .any, .any, .any, .any, .any, .any, .any, .any, .any, .any, .any, .any, .any, .any, .any, .any, .pv (.bool b), .any, .any, .any, .any, .any, .any, .any, .any, .any, .any, .any, .any, .any, .any, .any], ⟨[], [], [], 0, 0⟩⟩
noncomputable def L3_1111111111016 (v : Bool) (v1 : Bool) (v2 : List PV) (v3 : List PV) (b : Bool) : Option Out := LV Pr T 3 [1, 1, 1, 1, 1, 1, 1, 1, 1, 1, 0, 1, 6] (st3_1111111111016 v v1 v2 v3 b)
def st3_111111111116 (v : Bool) (v1 : Bool) (v2 : List PV) (l : List PV) : AS :=
  ⟨[.any, .any, .any, .any, .any, .any, .any, .any, .any, .any, .any, .any, .pv (.bool v), .any, .any, .pv (.bool v1), .pv (.lst v2), .pv (.lst l), .any, .any, .any, .any, .any, .any, .any, .any, .any, .any, .any, .any, .any, .any, .any, .any, .any, .any, .any, .any, .any, .any, .any, .any, .any, .any, .any, .any, .any, .any, .any, .any, .any, .any, .any, .any, .any, .any, .any, .any, .any, .any, .any, .any, .any, .any, .any, .any, .any, .any, .any, .any, .any, .any, .any, .any, .any, .any, .any, .any, .any, .any, .any, .any, .any, .any, .any, .any, .any, .any, .any, .any, .any, .any, .any, .any, .any, .any, .any, .any, .any, .any, .any], ⟨[], [], [], 0, 0⟩⟩
noncomputable def L3_111111111116 (v : Bool) (v1 : Bool) (v2 : List PV) (l : List PV) : Option Out := LV Pr T 3 [1, 1, 1, 1, 1, 1, 1, 1, 1, 1, 1, 6] (st3_111111111116 v v1 v2 l)
theorem f3 (ks : List PV) (k : Int) (more : Int) (cl_ : FuncId → List Arg → Option Out) (lp_ : List Nat → AS → Option Out) : runW Pr T cl_ lp_ 3 [.pv (.lst ks), .pv (.int .i64 k), .pv (.int .i64 more)] =
  ((cl_ 6 [.pv (.str [109, 111, 100, 117, 108, 101, 32, 109, 32, 49, 59, 32, 100, 97, 116, 97, 32, 78, 97, 116, 32, 61, 32, 90, 101, 114, 111, 32, 124, 32, 78, 101, 120, 116, 40, 78, 97, 116, 41, 59, 32, 100, 97, 116, 97, 32, 80, 97, 105, 114, 32, 61, 32, 80, 97, 105, 114, 40, 78, 97, 116, 44, 32, 98, 111, 111, 108, 41, 32, 124, 32, 79, 110, 101, 40, 105, 110, 116, 41, 59, 32, 97, 99, 116, 111, 114, 32, 65, 40, 41, 58, 32, 105, 110, 116, 32, 61, 32, 40, 41, 59])]).bind retPV).bind fun r =>
    (bif (Sh.agg [Sh.str, Sh.int .i64, Sh.lst, Sh.lst, Sh.lst, Sh.lst, Sh.lst, Sh.lst]).fits r then
      ((cl_ 7 []).bind retPV).bind fun r1 =>
        (bif (Sh.bool).fits r1 then
          bif (!r1.toBool) then
            some (.pv (.bool false), [])
          else bif (((r.c 3).toLst.length : Int) != (2 : Int)) then
            some (.pv (.bool false), [])
          else bif headOk 1 ks then
            bif (decide (0 ≤ (bif decide ((6 : Int) < (ks.length : Int)) then (6 : Int) else (ks.length : Int))) && decide ((bif decide ((6 : Int) < (ks.length : Int)) then (6 : Int) else (ks.length : Int)) ≤ (ks.length : Int))) then
              lp_ [1, 1, 1, 1, 0, 1, 4] (st3_1111014 k more [] ks 0 ((r.c 0).toStr) ((r.c 1).toInt) ((r.c 2).toLst) ((r.c 3).toLst) ((r.c 4).toLst) ((r.c 5).toLst) ((r.c 6).toLst) ((r.c 7).toLst))
            else none
          else none
        else none)
    else none) := by kernel_rfl
theorem e3 (ks : List PV) (k : Int) (more : Int) : V 3 [.pv (.lst ks), .pv (.int .i64 k), .pv (.int .i64 more)] =
  ((V 6 [.pv (.str [109, 111, 100, 117, 108, 101, 32, 109, 32, 49, 59, 32, 100, 97, 116, 97, 32, 78, 97, 116, 32, 61, 32, 90, 101, 114, 111, 32, 124, 32, 78, 101, 120, 116, 40, 78, 97, 116, 41, 59, 32, 100, 97, 116, 97, 32, 80, 97, 105, 114, 32, 61, 32, 80, 97, 105, 114, 40, 78, 97, 116, 44, 32, 98, 111, 111, 108, 41, 32, 124, 32, 79, 110, 101, 40, 105, 110, 116, 41, 59, 32, 97, 99, 116, 111, 114, 32, 65, 40, 41, 58, 32, 105, 110, 116, 32, 61, 32, 40, 41, 59])]).bind retPV).bind fun r =>
    (bif (Sh.agg [Sh.str, Sh.int .i64, Sh.lst, Sh.lst, Sh.lst, Sh.lst, Sh.lst, Sh.lst]).fits r then
      ((V 7 []).bind retPV).bind fun r1 =>
        (bif (Sh.bool).fits r1 then
          bif (!r1.toBool) then
            some (.pv (.bool false), [])
          else bif (((r.c 3).toLst.length : Int) != (2 : Int)) then
            some (.pv (.bool false), [])
          else bif headOk 1 ks then
            bif (decide (0 ≤ (bif decide ((6 : Int) < (ks.length : Int)) then (6 : Int) else (ks.length : Int))) && decide ((bif decide ((6 : Int) < (ks.length : Int)) then (6 : Int) else (ks.length : Int)) ≤ (ks.length : Int))) then
              L3_1111014 k more [] ks 0 ((r.c 0).toStr) ((r.c 1).toInt) ((r.c 2).toLst) ((r.c 3).toLst) ((r.c 4).toLst) ((r.c 5).toLst) ((r.c 6).toLst) ((r.c 7).toLst)
            else none
          else none
        else none)
    else none) :=
  (V_eq pa rfl _).trans (f3 ks k more V (LV Pr T 3))
theorem f3_1111014 (k : Int) (more : Int) (l : List PV) (ks : List PV) (i : Int) (v : List UInt8) (v1 : Int) (v2 : List PV) (v3 : List PV) (v4 : List PV) (v5 : List PV) (v6 : List PV) (v7 : List PV) (cl_ : FuncId → List Arg → Option Out) (lp_ : List Nat → AS → Option Out) : stepW Pr T cl_ lp_ 3 [1, 1, 1, 1, 0, 1, 4] (st3_1111014 k more l ks i v v1 v2 v3 v4 v5 v6 v7) =
  bif decide (i < ((ks.take (bif decide ((6 : Int) < (ks.length : Int)) then (6 : Int) else (ks.length : Int)).toNat).length : Int)) then
    bif decide (0 ≤ i) then
      ((ks.take (bif decide ((6 : Int) < (ks.length : Int)) then (6 : Int) else (ks.length : Int)).toNat)[i.toNat]?).bind fun x =>
        (bif (Sh.int .i64).fits x then
          ((cl_ 8 [.pv (.int .i64 x.toInt)]).bind retPV).bind fun r =>
            (bif (Sh.agg [Sh.int .i64, Sh.int .i64, Sh.str, Sh.lst]).fits r then
              bif small (l.length) 1 56 then
                lp_ [1, 1, 1, 1, 0, 1, 4] (st3_1111014 k more (l ++ ([.agg [.int .i64 ((r.c 0).toInt), .int .i64 ((r.c 1).toInt), .str ((r.c 2).toStr), .lst ((r.c 3).toLst)]] : List PV)) ks (IntKind.i64.wrap (i + (1 : Int))) v v1 v2 v3 v4 v5 v6 v7)
              else none
            else none)
        else none)
    else none
  else ((cl_ 9 [.pv (.agg [.str v, .int .i64 v1, .lst v2, .lst v3, .lst v4, .lst v5, .lst v6, .lst v7]), .pv (.lst l)]).bind retPV).bind fun r1 =>
    (bif (Sh.tup [Sh.agg [Sh.int .i64, Sh.int .i64, Sh.str, Sh.lst], Sh.bool]).fits r1 then
      (cl_ 10 [.pv (.lst l)]).bind fun r2 =>
        ((retB 4 r2).bind fun l1 =>
          (((cl_ 8 [.pv (.int .i64 k)]).bind retPV).bind fun r3 =>
            (bif (Sh.agg [Sh.int .i64, Sh.int .i64, Sh.str, Sh.lst]).fits r3 then
              bif small (l1.length) 1 56 then
                ((cl_ 9 [.pv (.agg [.str v, .int .i64 v1, .lst v2, .lst v3, .lst v4, .lst v5, .lst v6, .lst v7]), .pv (.lst (l1 ++ ([.agg [.int .i64 ((r3.c 0).toInt), .int .i64 ((r3.c 1).toInt), .str ((r3.c 2).toStr), .lst ((r3.c 3).toLst)]] : List PV)))]).bind retPV).bind fun r4 =>
                  (bif (Sh.tup [Sh.agg [Sh.int .i64, Sh.int .i64, Sh.str, Sh.lst], Sh.bool]).fits r4 then
                    ((cl_ 11 [.pv (.agg [.str v, .int .i64 v1, .lst v2, .lst v3, .lst v4, .lst v5, .lst v6, .lst v7]), .pv (.lst (l1 ++ ([.agg [.int .i64 ((r3.c 0).toInt), .int .i64 ((r3.c 1).toInt), .str ((r3.c 2).toStr), .lst ((r3.c 3).toLst)]] : List PV)))]).bind retPV).bind fun r5 =>
                      (bif (Sh.lst).fits r5 then
                        (cl_ 10 [.pv (.lst (l1 ++ ([.agg [.int .i64 ((r3.c 0).toInt), .int .i64 ((r3.c 1).toInt), .str ((r3.c 2).toStr), .lst ((r3.c 3).toLst)]] : List PV)))]).bind fun r6 =>
                          ((retB 4 r6).bind fun l2 =>
                            (((cl_ 8 [.pv (.int .i64 more)]).bind retPV).bind fun r7 =>
                              (bif (Sh.agg [Sh.int .i64, Sh.int .i64, Sh.str, Sh.lst]).fits r7 then
                                bif small (l2.length) 1 56 then
                                  ((cl_ 11 [.pv (.agg [.str v, .int .i64 v1, .lst v2, .lst v3, .lst v4, .lst v5, .lst v6, .lst v7]), .pv (.lst (l2 ++ ([.agg [.int .i64 ((r7.c 0).toInt), .int .i64 ((r7.c 1).toInt), .str ((r7.c 2).toStr), .lst ((r7.c 3).toLst)]] : List PV)))]).bind retPV).bind fun r8 =>
                                    (bif (Sh.lst).fits r8 then
                                      bif decide ((r8.toLst.length : Int) > (0 : Int)) then
                                        bif decide (0 ≤ (IntKind.i64.wrap ((r8.toLst.length : Int) - (1 : Int)))) then
                                          (r8.toLst[(IntKind.i64.wrap ((r8.toLst.length : Int) - (1 : Int))).toNat]?).bind fun x1 =>
                                            (bif (Sh.int .i64).fits x1 then
                                              lp_ [1, 1, 1, 1, 1, 1, 1, 1, 1, 1, 0, 1, 6] (st3_1111111111016 ((r1.r 1).toBool) ((r4.r 1).toBool) r5.toLst r8.toLst ((x1.toInt) == ((l1 ++ ([.agg [.int .i64 ((r3.c 0).toInt), .int .i64 ((r3.c 1).toInt), .str ((r3.c 2).toStr), .lst ((r3.c 3).toLst)]] : List PV)).length : Int)))
                                            else none)
                                        else none
                                      else lp_ [1, 1, 1, 1, 1, 1, 1, 1, 1, 1, 0, 1, 6] (st3_1111111111016 ((r1.r 1).toBool) ((r4.r 1).toBool) r5.toLst r8.toLst false)
                                    else none)
                                else none
                              else none)))
                      else none)
                  else none)
              else none
            else none)))
    else none) := by kernel_rfl
theorem e3_1111014 (k : Int) (more : Int) (l : List PV) (ks : List PV) (i : Int) (v : List UInt8) (v1 : Int) (v2 : List PV) (v3 : List PV) (v4 : List PV) (v5 : List PV) (v6 : List PV) (v7 : List PV) : L3_1111014 k more l ks i v v1 v2 v3 v4 v5 v6 v7 =
  bif decide (i < ((ks.take (bif decide ((6 : Int) < (ks.length : Int)) then (6 : Int) else (ks.length : Int)).toNat).length : Int)) then
    bif decide (0 ≤ i) then
      ((ks.take (bif decide ((6 : Int) < (ks.length : Int)) then (6 : Int) else (ks.length : Int)).toNat)[i.toNat]?).bind fun x =>
        (bif (Sh.int .i64).fits x then
          ((V 8 [.pv (.int .i64 x.toInt)]).bind retPV).bind fun r =>
            (bif (Sh.agg [Sh.int .i64, Sh.int .i64, Sh.str, Sh.lst]).fits r then
              bif small (l.length) 1 56 then
                L3_1111014 k more (l ++ ([.agg [.int .i64 ((r.c 0).toInt), .int .i64 ((r.c 1).toInt), .str ((r.c 2).toStr), .lst ((r.c 3).toLst)]] : List PV)) ks (IntKind.i64.wrap (i + (1 : Int))) v v1 v2 v3 v4 v5 v6 v7
              else none
            else none)
        else none)
    else none
  else ((V 9 [.pv (.agg [.str v, .int .i64 v1, .lst v2, .lst v3, .lst v4, .lst v5, .lst v6, .lst v7]), .pv (.lst l)]).bind retPV).bind fun r1 =>
    (bif (Sh.tup [Sh.agg [Sh.int .i64, Sh.int .i64, Sh.str, Sh.lst], Sh.bool]).fits r1 then
      (V 10 [.pv (.lst l)]).bind fun r2 =>
        ((retB 4 r2).bind fun l1 =>
          (((V 8 [.pv (.int .i64 k)]).bind retPV).bind fun r3 =>
            (bif (Sh.agg [Sh.int .i64, Sh.int .i64, Sh.str, Sh.lst]).fits r3 then
              bif small (l1.length) 1 56 then
                ((V 9 [.pv (.agg [.str v, .int .i64 v1, .lst v2, .lst v3, .lst v4, .lst v5, .lst v6, .lst v7]), .pv (.lst (l1 ++ ([.agg [.int .i64 ((r3.c 0).toInt), .int .i64 ((r3.c 1).toInt), .str ((r3.c 2).toStr), .lst ((r3.c 3).toLst)]] : List PV)))]).bind retPV).bind fun r4 =>
                  (bif (Sh.tup [Sh.agg [Sh.int .i64, Sh.int .i64, Sh.str, Sh.lst], Sh.bool]).fits r4 then
                    ((V 11 [.pv (.agg [.str v, .int .i64 v1, .lst v2, .lst v3, .lst v4, .lst v5, .lst v6, .lst v7]), .pv (.lst (l1 ++ ([.agg [.int .i64 ((r3.c 0).toInt), .int .i64 ((r3.c 1).toInt), .str ((r3.c 2).toStr), .lst ((r3.c 3).toLst)]] : List PV)))]).bind retPV).bind fun r5 =>
                      (bif (Sh.lst).fits r5 then
                        (V 10 [.pv (.lst (l1 ++ ([.agg [.int .i64 ((r3.c 0).toInt), .int .i64 ((r3.c 1).toInt), .str ((r3.c 2).toStr), .lst ((r3.c 3).toLst)]] : List PV)))]).bind fun r6 =>
                          ((retB 4 r6).bind fun l2 =>
                            (((V 8 [.pv (.int .i64 more)]).bind retPV).bind fun r7 =>
                              (bif (Sh.agg [Sh.int .i64, Sh.int .i64, Sh.str, Sh.lst]).fits r7 then
                                bif small (l2.length) 1 56 then
                                  ((V 11 [.pv (.agg [.str v, .int .i64 v1, .lst v2, .lst v3, .lst v4, .lst v5, .lst v6, .lst v7]), .pv (.lst (l2 ++ ([.agg [.int .i64 ((r7.c 0).toInt), .int .i64 ((r7.c 1).toInt), .str ((r7.c 2).toStr), .lst ((r7.c 3).toLst)]] : List PV)))]).bind retPV).bind fun r8 =>
                                    (bif (Sh.lst).fits r8 then
                                      bif decide ((r8.toLst.length : Int) > (0 : Int)) then
                                        bif decide (0 ≤ (IntKind.i64.wrap ((r8.toLst.length : Int) - (1 : Int)))) then
                                          (r8.toLst[(IntKind.i64.wrap ((r8.toLst.length : Int) - (1 : Int))).toNat]?).bind fun x1 =>
                                            (bif (Sh.int .i64).fits x1 then
                                              L3_1111111111016 ((r1.r 1).toBool) ((r4.r 1).toBool) r5.toLst r8.toLst ((x1.toInt) == ((l1 ++ ([.agg [.int .i64 ((r3.c 0).toInt), .int .i64 ((r3.c 1).toInt), .str ((r3.c 2).toStr), .lst ((r3.c 3).toLst)]] : List PV)).length : Int))
                                            else none)
                                        else none
                                      else L3_1111111111016 ((r1.r 1).toBool) ((r4.r 1).toBool) r5.toLst r8.toLst false
                                    else none)
                                else none
                              else none)))
                      else none)
                  else none)
              else none
            else none)))
    else none) :=
  (LV_eq pa 3 _ _).trans (f3_1111014 k more l ks i v v1 v2 v3 v4 v5 v6 v7 V (LV Pr T 3))
theorem f3_1111111111016 (v : Bool) (v1 : Bool) (v2 : List PV) (v3 : List PV) (b : Bool) (cl_ : FuncId → List Arg → Option Out) (lp_ : List Nat → AS → Option Out) : stepW Pr T cl_ lp_ 3 [1, 1, 1, 1, 1, 1, 1, 1, 1, 1, 0, 1, 6] (st3_1111111111016 v v1 v2 v3 b) =
  bif b then
    bif headOk 1 v3 then
      bif (decide (0 ≤ (IntKind.i64.wrap ((v3.length : Int) - (1 : Int)))) && decide ((IntKind.i64.wrap ((v3.length : Int) - (1 : Int))) ≤ (v3.length : Int))) then
        lp_ [1, 1, 1, 1, 1, 1, 1, 1, 1, 1, 1, 6] (st3_111111111116 v v1 v2 (v3.take (IntKind.i64.wrap ((v3.length : Int) - (1 : Int))).toNat))
      else none
    else none
  else lp_ [1, 1, 1, 1, 1, 1, 1, 1, 1, 1, 1, 6] (st3_111111111116 v v1 v2 v3) := by kernel_rfl
theorem e3_1111111111016 (v : Bool) (v1 : Bool) (v2 : List PV) (v3 : List PV) (b : Bool) : L3_1111111111016 v v1 v2 v3 b =
  bif b then
    bif headOk 1 v3 then
      bif (decide (0 ≤ (IntKind.i64.wrap ((v3.length : Int) - (1 : Int)))) && decide ((IntKind.i64.wrap ((v3.length : Int) - (1 : Int))) ≤ (v3.length : Int))) then
        L3_111111111116 v v1 v2 (v3.take (IntKind.i64.wrap ((v3.length : Int) - (1 : Int))).toNat)
      else none
    else none
  else L3_111111111116 v v1 v2 v3 :=
  (LV_eq pa 3 _ _).trans (f3_1111111111016 v v1 v2 v3 b V (LV Pr T 3))
theorem f3_111111111116 (v : Bool) (v1 : Bool) (v2 : List PV) (l : List PV) (cl_ : FuncId → List Arg → Option Out) (lp_ : List Nat → AS → Option Out) : stepW Pr T cl_ lp_ 3 [1, 1, 1, 1, 1, 1, 1, 1, 1, 1, 1, 6] (st3_111111111116 v v1 v2 l) =
  bif v then
    ((cl_ 12 [.pv (.lst v2), .pv (.lst l)]).bind retPV).bind fun r =>
      (bif (Sh.bool).fits r then
        some (.pv (.bool r.toBool), [])
      else none)
  else bif (!v1) then
    ((cl_ 12 [.pv (.lst v2), .pv (.lst l)]).bind retPV).bind fun r1 =>
      (bif (Sh.bool).fits r1 then
        some (.pv (.bool r1.toBool), [])
      else none)
  else some (.pv (.bool false), []) := by kernel_rfl
theorem e3_111111111116 (v : Bool) (v1 : Bool) (v2 : List PV) (l : List PV) : L3_111111111116 v v1 v2 l =
  bif v then
    ((V 12 [.pv (.lst v2), .pv (.lst l)]).bind retPV).bind fun r =>
      (bif (Sh.bool).fits r then
        some (.pv (.bool r.toBool), [])
      else none)
  else bif (!v1) then
    ((V 12 [.pv (.lst v2), .pv (.lst l)]).bind retPV).bind fun r1 =>
      (bif (Sh.bool).fits r1 then
        some (.pv (.bool r1.toBool), [])
      else none)
  else some (.pv (.bool false), []) :=
  (LV_eq pa 3 _ _).trans (f3_111111111116 v v1 v2 l V (LV Pr T 3))
/-! 4 roadstead/roadkeep2.CoverValues -/
def st4_1111014 (vs : List PV) (l : List PV) (ks : List PV) (i : Int) (v : List UInt8) (v1 : Int) (v2 : List PV) (v3 : List PV) (v4 : List PV) (v5 : List PV) (v6 : List PV) (v7 : List PV) : AS :=
  ⟨[.any, .pv (.lst vs), .any, .any, .any, .box 0 0, .bld 0 0 l, .any, .any, .any, .any, .any, .any, .any, .any, .any, .any, .any, .any, .any, .any, .any, .any, .any, .any, .any, .any, .any, .any, .pv (.lst (ks.take (bif decide ((7 : Int) < (ks.length : Int)) then (7 : Int) else (ks.length : Int)).toNat)), .pv (.int .i64 ((ks.take (bif decide ((7 : Int) < (ks.length : Int)) then (7 : Int) else (ks.length : Int)).toNat).length : Int)), .pv (.int .i64 i), .any, .any, .any, .any, .any, .any, .any, .any, .any, .any, .any, .any, .any, .any, .any, .any, .any, .any, .any, .any, .any, .any, .any, .any, .any, .any, .any, .any, .any, .any, .any, .any, .any, .any, .any, .any, .any, .any, .any, .any, .any, .any, .any, .any, .any], ⟨[(false, [.pv (.str v), .pv (.int .i64 v1), .pv (.lst v2), .pv (.lst v3), .pv (.lst v4), .pv (.lst v5), .pv (.lst v6), .pv (.lst v7)])], [], [(0, 4)], 0, 0⟩⟩
noncomputable def L4_1111014 (vs : List PV) (l : List PV) (ks : List PV) (i : Int) (v : List UInt8) (v1 : Int) (v2 : List PV) (v3 : List PV) (v4 : List PV) (v5 : List PV) (v6 : List PV) (v7 : List PV) : Option Out := LV Pr T 4 [1, 1, 1, 1, 0, 1, 4] (st4_1111014 vs l ks i v v1 v2 v3 v4 v5 v6 v7)
def st4_1111111014 (l1 : List PV) (v : Bool) (v1 : List PV) (vs : List PV) (i : Int) : AS :=
  ⟨[.any, .any, .any, .any, .any, .any, .bld 0 0 l1, .any, .any, .any, .pv (.bool v), .pv (.lst v1), .any, .any, .any, .any, .any, .any, .any, .any, .any, .any, .any, .any, .any, .any, .any, .any, .any, .any, .any, .any, .any, .any, .any, .any, .any, .any, .any, .any, .any, .any, .any, .any, .any, .any, .any, .any, .any, .any, .pv (.lst vs), .pv (.int .i64 (vs.length : Int)), .pv (.int .i64 i), .any, .any, .any, .any, .any, .any, .any, .any, .any, .any, .any, .any, .any, .any, .any, .any, .any, .any, .any, .any, .any, .any, .any, .any], ⟨[], [], [(0, 4)], 0, 0⟩⟩
noncomputable def L4_1111111014 (l1 : List PV) (v : Bool) (v1 : List PV) (vs : List PV) (i : Int) : Option Out := LV Pr T 4 [1, 1, 1, 1, 1, 1, 1, 0, 1, 4] (st4_1111111014 l1 v v1 vs i)
theorem f4 (ks : List PV) (vs : List PV) (cl_ : FuncId → List Arg → Option Out) (lp_ : List Nat → AS → Option Out) : runW Pr T cl_ lp_ 4 [.pv (.lst ks), .pv (.lst vs)] =
  ((cl_ 6 [.pv (.str [109, 111, 100, 117, 108, 101, 32, 109, 32, 49, 59, 32, 100, 97, 116, 97, 32, 78, 97, 116, 32, 61, 32, 90, 101, 114, 111, 32, 124, 32, 78, 101, 120, 116, 40, 78, 97, 116, 41, 59, 32, 100, 97, 116, 97, 32, 80, 97, 105, 114, 32, 61, 32, 80, 97, 105, 114, 40, 78, 97, 116, 44, 32, 98, 111, 111, 108, 41, 32, 124, 32, 79, 110, 101, 40, 105, 110, 116, 41, 59, 32, 97, 99, 116, 111, 114, 32, 65, 40, 41, 58, 32, 105, 110, 116, 32, 61, 32, 40, 41, 59])]).bind retPV).bind fun r =>
    (bif (Sh.agg [Sh.str, Sh.int .i64, Sh.lst, Sh.lst, Sh.lst, Sh.lst, Sh.lst, Sh.lst]).fits r then
      ((cl_ 7 []).bind retPV).bind fun r1 =>
        (bif (Sh.bool).fits r1 then
          bif (!r1.toBool) then
            some (.pv (.bool false), [])
          else bif (((r.c 3).toLst.length : Int) != (2 : Int)) then
            some (.pv (.bool false), [])
          else bif headOk 1 ks then
            bif (decide (0 ≤ (bif decide ((7 : Int) < (ks.length : Int)) then (7 : Int) else (ks.length : Int))) && decide ((bif decide ((7 : Int) < (ks.length : Int)) then (7 : Int) else (ks.length : Int)) ≤ (ks.length : Int))) then
              lp_ [1, 1, 1, 1, 0, 1, 4] (st4_1111014 vs [] ks 0 ((r.c 0).toStr) ((r.c 1).toInt) ((r.c 2).toLst) ((r.c 3).toLst) ((r.c 4).toLst) ((r.c 5).toLst) ((r.c 6).toLst) ((r.c 7).toLst))
            else none
          else none
        else none)
    else none) := by kernel_rfl
theorem e4 (ks : List PV) (vs : List PV) : V 4 [.pv (.lst ks), .pv (.lst vs)] =
  ((V 6 [.pv (.str [109, 111, 100, 117, 108, 101, 32, 109, 32, 49, 59, 32, 100, 97, 116, 97, 32, 78, 97, 116, 32, 61, 32, 90, 101, 114, 111, 32, 124, 32, 78, 101, 120, 116, 40, 78, 97, 116, 41, 59, 32, 100, 97, 116, 97, 32, 80, 97, 105, 114, 32, 61, 32, 80, 97, 105, 114, 40, 78, 97, 116, 44, 32, 98, 111, 111, 108, 41, 32, 124, 32, 79, 110, 101, 40, 105, 110, 116, 41, 59, 32, 97, 99, 116, 111, 114, 32, 65, 40, 41, 58, 32, 105, 110, 116, 32, 61, 32, 40, 41, 59])]).bind retPV).bind fun r =>
    (bif (Sh.agg [Sh.str, Sh.int .i64, Sh.lst, Sh.lst, Sh.lst, Sh.lst, Sh.lst, Sh.lst]).fits r then
      ((V 7 []).bind retPV).bind fun r1 =>
        (bif (Sh.bool).fits r1 then
          bif (!r1.toBool) then
            some (.pv (.bool false), [])
          else bif (((r.c 3).toLst.length : Int) != (2 : Int)) then
            some (.pv (.bool false), [])
          else bif headOk 1 ks then
            bif (decide (0 ≤ (bif decide ((7 : Int) < (ks.length : Int)) then (7 : Int) else (ks.length : Int))) && decide ((bif decide ((7 : Int) < (ks.length : Int)) then (7 : Int) else (ks.length : Int)) ≤ (ks.length : Int))) then
              L4_1111014 vs [] ks 0 ((r.c 0).toStr) ((r.c 1).toInt) ((r.c 2).toLst) ((r.c 3).toLst) ((r.c 4).toLst) ((r.c 5).toLst) ((r.c 6).toLst) ((r.c 7).toLst)
            else none
          else none
        else none)
    else none) :=
  (V_eq pa rfl _).trans (f4 ks vs V (LV Pr T 4))
theorem f4_1111014 (vs : List PV) (l : List PV) (ks : List PV) (i : Int) (v : List UInt8) (v1 : Int) (v2 : List PV) (v3 : List PV) (v4 : List PV) (v5 : List PV) (v6 : List PV) (v7 : List PV) (cl_ : FuncId → List Arg → Option Out) (lp_ : List Nat → AS → Option Out) : stepW Pr T cl_ lp_ 4 [1, 1, 1, 1, 0, 1, 4] (st4_1111014 vs l ks i v v1 v2 v3 v4 v5 v6 v7) =
  bif decide (i < ((ks.take (bif decide ((7 : Int) < (ks.length : Int)) then (7 : Int) else (ks.length : Int)).toNat).length : Int)) then
    bif decide (0 ≤ i) then
      ((ks.take (bif decide ((7 : Int) < (ks.length : Int)) then (7 : Int) else (ks.length : Int)).toNat)[i.toNat]?).bind fun x =>
        (bif (Sh.int .i64).fits x then
          ((cl_ 8 [.pv (.int .i64 x.toInt)]).bind retPV).bind fun r =>
            (bif (Sh.agg [Sh.int .i64, Sh.int .i64, Sh.str, Sh.lst]).fits r then
              bif small (l.length) 1 56 then
                lp_ [1, 1, 1, 1, 0, 1, 4] (st4_1111014 vs (l ++ ([.agg [.int .i64 ((r.c 0).toInt), .int .i64 ((r.c 1).toInt), .str ((r.c 2).toStr), .lst ((r.c 3).toLst)]] : List PV)) ks (IntKind.i64.wrap (i + (1 : Int))) v v1 v2 v3 v4 v5 v6 v7)
              else none
            else none)
        else none)
    else none
  else ((cl_ 9 [.pv (.agg [.str v, .int .i64 v1, .lst v2, .lst v3, .lst v4, .lst v5, .lst v6, .lst v7]), .pv (.lst l)]).bind retPV).bind fun r1 =>
    (bif (Sh.tup [Sh.agg [Sh.int .i64, Sh.int .i64, Sh.str, Sh.lst], Sh.bool]).fits r1 then
      ((cl_ 11 [.pv (.agg [.str v, .int .i64 v1, .lst v2, .lst v3, .lst v4, .lst v5, .lst v6, .lst v7]), .pv (.lst l)]).bind retPV).bind fun r2 =>
        (bif (Sh.lst).fits r2 then
          lp_ [1, 1, 1, 1, 1, 1, 1, 0, 1, 4] (st4_1111111014 l ((r1.r 1).toBool) r2.toLst vs 0)
        else none)
    else none) := by kernel_rfl
theorem e4_1111014 (vs : List PV) (l : List PV) (ks : List PV) (i : Int) (v : List UInt8) (v1 : Int) (v2 : List PV) (v3 : List PV) (v4 : List PV) (v5 : List PV) (v6 : List PV) (v7 : List PV) : L4_1111014 vs l ks i v v1 v2 v3 v4 v5 v6 v7 =
  bif decide (i < ((ks.take (bif decide ((7 : Int) < (ks.length : Int)) then (7 : Int) else (ks.length : Int)).toNat).length : Int)) then
    bif decide (0 ≤ i) then
      ((ks.take (bif decide ((7 : Int) < (ks.length : Int)) then (7 : Int) else (ks.length : Int)).toNat)[i.toNat]?).bind fun x =>
        (bif (Sh.int .i64).fits x then
          ((V 8 [.pv (.int .i64 x.toInt)]).bind retPV).bind fun r =>
            (bif (Sh.agg [Sh.int .i64, Sh.int .i64, Sh.str, Sh.lst]).fits r then
              bif small (l.length) 1 56 then
                L4_1111014 vs (l ++ ([.agg [.int .i64 ((r.c 0).toInt), .int .i64 ((r.c 1).toInt), .str ((r.c 2).toStr), .lst ((r.c 3).toLst)]] : List PV)) ks (IntKind.i64.wrap (i + (1 : Int))) v v1 v2 v3 v4 v5 v6 v7
              else none
            else none)
        else none)
    else none
  else ((V 9 [.pv (.agg [.str v, .int .i64 v1, .lst v2, .lst v3, .lst v4, .lst v5, .lst v6, .lst v7]), .pv (.lst l)]).bind retPV).bind fun r1 =>
    (bif (Sh.tup [Sh.agg [Sh.int .i64, Sh.int .i64, Sh.str, Sh.lst], Sh.bool]).fits r1 then
      ((V 11 [.pv (.agg [.str v, .int .i64 v1, .lst v2, .lst v3, .lst v4, .lst v5, .lst v6, .lst v7]), .pv (.lst l)]).bind retPV).bind fun r2 =>
        (bif (Sh.lst).fits r2 then
          L4_1111111014 l ((r1.r 1).toBool) r2.toLst vs 0
        else none)
    else none) :=
  (LV_eq pa 4 _ _).trans (f4_1111014 vs l ks i v v1 v2 v3 v4 v5 v6 v7 V (LV Pr T 4))
theorem f4_1111111014 (l1 : List PV) (v : Bool) (v1 : List PV) (vs : List PV) (i : Int) (cl_ : FuncId → List Arg → Option Out) (lp_ : List Nat → AS → Option Out) : stepW Pr T cl_ lp_ 4 [1, 1, 1, 1, 1, 1, 1, 0, 1, 4] (st4_1111111014 l1 v v1 vs i) =
  bif decide (i < (vs.length : Int)) then
    bif decide (0 ≤ i) then
      (vs[i.toNat]?).bind fun x =>
        (bif (Sh.int .i64).fits x then
          ((cl_ 13 [.pv (.int .i64 x.toInt)]).bind retPV).bind fun r =>
            (bif (Sh.agg [Sh.int .i64, Sh.int .i64, Sh.str, Sh.lst]).fits r then
              ((cl_ 14 [.pv (.lst l1), .pv (.fn 15 [.ptr [.int .i64 ((r.c 0).toInt), .int .i64 ((r.c 1).toInt), .str ((r.c 2).toStr), .lst ((r.c 3).toLst)]])]).bind retPV).bind fun r1 =>
                (bif (Sh.int .i64).fits r1 then
                  bif decide ((r1.toInt) < (0 : Int)) then
                    bif (!v) then
                      some (.pv (.bool false), [])
                    else bif decide ((r1.toInt) ≥ (0 : Int)) then
                      ((cl_ 17 [.pv (.lst v1), .pv (.int .i64 r1.toInt)]).bind retPV).bind fun r2 =>
                        (bif (Sh.bool).fits r2 then
                          bif r2.toBool then
                            some (.pv (.bool false), [])
                          else lp_ [1, 1, 1, 1, 1, 1, 1, 0, 1, 4] (st4_1111111014 l1 v v1 vs (IntKind.i64.wrap (i + (1 : Int))))
                        else none)
                    else lp_ [1, 1, 1, 1, 1, 1, 1, 0, 1, 4] (st4_1111111014 l1 v v1 vs (IntKind.i64.wrap (i + (1 : Int))))
                  else bif decide ((r1.toInt) ≥ (0 : Int)) then
                    ((cl_ 17 [.pv (.lst v1), .pv (.int .i64 r1.toInt)]).bind retPV).bind fun r3 =>
                      (bif (Sh.bool).fits r3 then
                        bif r3.toBool then
                          some (.pv (.bool false), [])
                        else lp_ [1, 1, 1, 1, 1, 1, 1, 0, 1, 4] (st4_1111111014 l1 v v1 vs (IntKind.i64.wrap (i + (1 : Int))))
                      else none)
                  else lp_ [1, 1, 1, 1, 1, 1, 1, 0, 1, 4] (st4_1111111014 l1 v v1 vs (IntKind.i64.wrap (i + (1 : Int))))
                else none)
            else none)
        else none)
    else none
  else some (.pv (.bool true), []) := by kernel_rfl
theorem e4_1111111014 (l1 : List PV) (v : Bool) (v1 : List PV) (vs : List PV) (i : Int) : L4_1111111014 l1 v v1 vs i =
  bif decide (i < (vs.length : Int)) then
    bif decide (0 ≤ i) then
      (vs[i.toNat]?).bind fun x =>
        (bif (Sh.int .i64).fits x then
          ((V 13 [.pv (.int .i64 x.toInt)]).bind retPV).bind fun r =>
            (bif (Sh.agg [Sh.int .i64, Sh.int .i64, Sh.str, Sh.lst]).fits r then
              ((V 14 [.pv (.lst l1), .pv (.fn 15 [.ptr [.int .i64 ((r.c 0).toInt), .int .i64 ((r.c 1).toInt), .str ((r.c 2).toStr), .lst ((r.c 3).toLst)]])]).bind retPV).bind fun r1 =>
                (bif (Sh.int .i64).fits r1 then
                  bif decide ((r1.toInt) < (0 : Int)) then
                    bif (!v) then
                      some (.pv (.bool false), [])
                    else bif decide ((r1.toInt) ≥ (0 : Int)) then
                      ((V 17 [.pv (.lst v1), .pv (.int .i64 r1.toInt)]).bind retPV).bind fun r2 =>
                        (bif (Sh.bool).fits r2 then
                          bif r2.toBool then
                            some (.pv (.bool false), [])
                          else L4_1111111014 l1 v v1 vs (IntKind.i64.wrap (i + (1 : Int)))
                        else none)
                    else L4_1111111014 l1 v v1 vs (IntKind.i64.wrap (i + (1 : Int)))
                  else bif decide ((r1.toInt) ≥ (0 : Int)) then
                    ((V 17 [.pv (.lst v1), .pv (.int .i64 r1.toInt)]).bind retPV).bind fun r3 =>
                      (bif (Sh.bool).fits r3 then
                        bif r3.toBool then
                          some (.pv (.bool false), [])
                        else L4_1111111014 l1 v v1 vs (IntKind.i64.wrap (i + (1 : Int)))
                      else none)
                  else L4_1111111014 l1 v v1 vs (IntKind.i64.wrap (i + (1 : Int)))
                else none)
            else none)
        else none)
    else none
  else some (.pv (.bool true), []) :=
  (LV_eq pa 4 _ _).trans (f4_1111111014 l1 v v1 vs i V (LV Pr T 4))
/-! 5 roadstead/roadkeep2.CoverWhole -/
def st5_1111014 (l : List PV) (ks : List PV) (i : Int) (v : List UInt8) (v1 : Int) (v2 : List PV) (v3 : List PV) (v4 : List PV) (v5 : List PV) (v6 : List PV) (v7 : List PV) : AS :=
  ⟨[.any, .any, .any, .box 0 0, .bld 0 0 l, .any, .any, .any, .any, .any, .any, .any, .any, .any, .any, .any, .any, .any, .any, .any, .any, .any, .any, .any, .any, .pv (.lst (ks.take (bif decide ((6 : Int) < (ks.length : Int)) then (6 : Int) else (ks.length : Int)).toNat)), .pv (.int .i64 ((ks.take (bif decide ((6 : Int) < (ks.length : Int)) then (6 : Int) else (ks.length : Int)).toNat).length : Int)), .pv (.int .i64 i), .any, .any, .any, .any, .any, .any, .any, .any, .any, .any, .any, .any, .any, .any, .any, .any, .any, .any, .any, .any, .any, .any, .any, .any, .any, .any, .any, .any, .any, .any, .any, .any, .any, .any, .any, .any, .any, .any, .any, .any, .any, .any, .any, .any, .any, .any, .any, .any, .any, .any, .any, .any, .any, .any, .any], ⟨[(false, [.pv (.str v), .pv (.int .i64 v1), .pv (.lst v2), .pv (.lst v3), .pv (.lst v4), .pv (.lst v5), .pv (.lst v6), .pv (.lst v7)])], [], [(0, 4)], 0, 0⟩⟩
noncomputable def L5_1111014 (l : List PV) (ks : List PV) (i : Int) (v : List UInt8) (v1 : Int) (v2 : List PV) (v3 : List PV) (v4 : List PV) (v5 : List PV) (v6 : List PV) (v7 : List PV) : Option Out := LV Pr T 5 [1, 1, 1, 1, 0, 1, 4] (st5_1111014 l ks i v v1 v2 v3 v4 v5 v6 v7)
theorem f5 (ks : List PV) (cl_ : FuncId → List Arg → Option Out) (lp_ : List Nat → AS → Option Out) : runW Pr T cl_ lp_ 5 [.pv (.lst ks)] =
  ((cl_ 6 [.pv (.str [109, 111, 100, 117, 108, 101, 32, 109, 32, 49, 59, 32, 100, 97, 116, 97, 32, 78, 97, 116, 32, 61, 32, 90, 101, 114, 111, 32, 124, 32, 78, 101, 120, 116, 40, 78, 97, 116, 41, 59, 32, 100, 97, 116, 97, 32, 80, 97, 105, 114, 32, 61, 32, 80, 97, 105, 114, 40, 78, 97, 116, 44, 32, 98, 111, 111, 108, 41, 32, 124, 32, 79, 110, 101, 40, 105, 110, 116, 41, 59, 32, 97, 99, 116, 111, 114, 32, 65, 40, 41, 58, 32, 105, 110, 116, 32, 61, 32, 40, 41, 59])]).bind retPV).bind fun r =>
    (bif (Sh.agg [Sh.str, Sh.int .i64, Sh.lst, Sh.lst, Sh.lst, Sh.lst, Sh.lst, Sh.lst]).fits r then
      ((cl_ 7 []).bind retPV).bind fun r1 =>
        (bif (Sh.bool).fits r1 then
          bif (!r1.toBool) then
            some (.pv (.bool false), [])
          else bif (((r.c 3).toLst.length : Int) != (2 : Int)) then
            some (.pv (.bool false), [])
          else bif headOk 1 ks then
            bif (decide (0 ≤ (bif decide ((6 : Int) < (ks.length : Int)) then (6 : Int) else (ks.length : Int))) && decide ((bif decide ((6 : Int) < (ks.length : Int)) then (6 : Int) else (ks.length : Int)) ≤ (ks.length : Int))) then
              lp_ [1, 1, 1, 1, 0, 1, 4] (st5_1111014 [] ks 0 ((r.c 0).toStr) ((r.c 1).toInt) ((r.c 2).toLst) ((r.c 3).toLst) ((r.c 4).toLst) ((r.c 5).toLst) ((r.c 6).toLst) ((r.c 7).toLst))
            else none
          else none
        else none)
    else none) := by kernel_rfl
theorem e5 (ks : List PV) : V 5 [.pv (.lst ks)] =
  ((V 6 [.pv (.str [109, 111, 100, 117, 108, 101, 32, 109, 32, 49, 59, 32, 100, 97, 116, 97, 32, 78, 97, 116, 32, 61, 32, 90, 101, 114, 111, 32, 124, 32, 78, 101, 120, 116, 40, 78, 97, 116, 41, 59, 32, 100, 97, 116, 97, 32, 80, 97, 105, 114, 32, 61, 32, 80, 97, 105, 114, 40, 78, 97, 116, 44, 32, 98, 111, 111, 108, 41, 32, 124, 32, 79, 110, 101, 40, 105, 110, 116, 41, 59, 32, 97, 99, 116, 111, 114, 32, 65, 40, 41, 58, 32, 105, 110, 116, 32, 61, 32, 40, 41, 59])]).bind retPV).bind fun r =>
    (bif (Sh.agg [Sh.str, Sh.int .i64, Sh.lst, Sh.lst, Sh.lst, Sh.lst, Sh.lst, Sh.lst]).fits r then
      ((V 7 []).bind retPV).bind fun r1 =>
        (bif (Sh.bool).fits r1 then
          bif (!r1.toBool) then
            some (.pv (.bool false), [])
          else bif (((r.c 3).toLst.length : Int) != (2 : Int)) then
            some (.pv (.bool false), [])
          else bif headOk 1 ks then
            bif (decide (0 ≤ (bif decide ((6 : Int) < (ks.length : Int)) then (6 : Int) else (ks.length : Int))) && decide ((bif decide ((6 : Int) < (ks.length : Int)) then (6 : Int) else (ks.length : Int)) ≤ (ks.length : Int))) then
              L5_1111014 [] ks 0 ((r.c 0).toStr) ((r.c 1).toInt) ((r.c 2).toLst) ((r.c 3).toLst) ((r.c 4).toLst) ((r.c 5).toLst) ((r.c 6).toLst) ((r.c 7).toLst)
            else none
          else none
        else none)
    else none) :=
  (V_eq pa rfl _).trans (f5 ks V (LV Pr T 5))
theorem f5_1111014 (l : List PV) (ks : List PV) (i : Int) (v : List UInt8) (v1 : Int) (v2 : List PV) (v3 : List PV) (v4 : List PV) (v5 : List PV) (v6 : List PV) (v7 : List PV) (cl_ : FuncId → List Arg → Option Out) (lp_ : List Nat → AS → Option Out) : stepW Pr T cl_ lp_ 5 [1, 1, 1, 1, 0, 1, 4] (st5_1111014 l ks i v v1 v2 v3 v4 v5 v6 v7) =
  bif decide (i < ((ks.take (bif decide ((6 : Int) < (ks.length : Int)) then (6 : Int) else (ks.length : Int)).toNat).length : Int)) then
    bif decide (0 ≤ i) then
      ((ks.take (bif decide ((6 : Int) < (ks.length : Int)) then (6 : Int) else (ks.length : Int)).toNat)[i.toNat]?).bind fun x =>
        (bif (Sh.int .i64).fits x then
          ((cl_ 8 [.pv (.int .i64 x.toInt)]).bind retPV).bind fun r =>
            (bif (Sh.agg [Sh.int .i64, Sh.int .i64, Sh.str, Sh.lst]).fits r then
              bif small (l.length) 1 56 then
                lp_ [1, 1, 1, 1, 0, 1, 4] (st5_1111014 (l ++ ([.agg [.int .i64 ((r.c 0).toInt), .int .i64 ((r.c 1).toInt), .str ((r.c 2).toStr), .lst ((r.c 3).toLst)]] : List PV)) ks (IntKind.i64.wrap (i + (1 : Int))) v v1 v2 v3 v4 v5 v6 v7)
              else none
            else none)
        else none)
    else none
  else ((cl_ 9 [.pv (.agg [.str v, .int .i64 v1, .lst v2, .lst v3, .lst v4, .lst v5, .lst v6, .lst v7]), .pv (.lst l)]).bind retPV).bind fun r1 =>
    (bif (Sh.tup [Sh.agg [Sh.int .i64, Sh.int .i64, Sh.str, Sh.lst], Sh.bool]).fits r1 then
      bif (!(r1.r 1).toBool) then
        (cl_ 10 [.pv (.lst l)]).bind fun r2 =>
          ((retB 4 r2).bind fun l1 =>
            (bif small (l1.length) 1 56 then
              ((cl_ 11 [.pv (.agg [.str v, .int .i64 v1, .lst v2, .lst v3, .lst v4, .lst v5, .lst v6, .lst v7]), .pv (.lst (l1 ++ ([.agg [.int .i64 1, .int .i64 0, .str [], .lst []]] : List PV)))]).bind retPV).bind fun r3 =>
                (bif (Sh.lst).fits r3 then
                  ((cl_ 17 [.pv (.lst r3.toLst), .pv (.int .i64 (l.length : Int))]).bind retPV).bind fun r4 =>
                    (bif (Sh.bool).fits r4 then
                      some (.pv (.bool r4.toBool), [])
                    else none)
                else none)
            else none))
      else (cl_ 10 [.pv (.lst l)]).bind fun r5 =>
        ((retB 4 r5).bind fun l2 =>
          (bif small (l2.length) 1 56 then
            ((cl_ 9 [.pv (.agg [.str v, .int .i64 v1, .lst v2, .lst v3, .lst v4, .lst v5, .lst v6, .lst v7]), .pv (.lst (l2 ++ ([.agg [.int .i64 (((r1.r 0).c 0).toInt), .int .i64 (((r1.r 0).c 1).toInt), .str (((r1.r 0).c 2).toStr), .lst (((r1.r 0).c 3).toLst)]] : List PV)))]).bind retPV).bind fun r6 =>
              (bif (Sh.tup [Sh.agg [Sh.int .i64, Sh.int .i64, Sh.str, Sh.lst], Sh.bool]).fits r6 then
                ((cl_ 11 [.pv (.agg [.str v, .int .i64 v1, .lst v2, .lst v3, .lst v4, .lst v5, .lst v6, .lst v7]), .pv (.lst (l2 ++ ([.agg [.int .i64 (((r1.r 0).c 0).toInt), .int .i64 (((r1.r 0).c 1).toInt), .str (((r1.r 0).c 2).toStr), .lst (((r1.r 0).c 3).toLst)]] : List PV)))]).bind retPV).bind fun r7 =>
                  (bif (Sh.lst).fits r7 then
                    ((cl_ 17 [.pv (.lst r7.toLst), .pv (.int .i64 (l.length : Int))]).bind retPV).bind fun r8 =>
                      (bif (Sh.bool).fits r8 then
                        bif (!r8.toBool) then
                          bif (!(r6.r 1).toBool) then
                            some (.pv (.bool true), [])
                          else ((cl_ 18 [.pv (.agg [.int .i64 (((r6.r 0).c 0).toInt), .int .i64 (((r6.r 0).c 1).toInt), .str (((r6.r 0).c 2).toStr), .lst (((r6.r 0).c 3).toLst)]), .pv (.agg [.int .i64 (((r1.r 0).c 0).toInt), .int .i64 (((r1.r 0).c 1).toInt), .str (((r1.r 0).c 2).toStr), .lst (((r1.r 0).c 3).toLst)])]).bind retPV).bind fun r9 =>
                            (bif (Sh.bool).fits r9 then
                              some (.pv (.bool (!r9.toBool)), [])
                            else none)
                        else some (.pv (.bool false), [])
                      else none)
                  else none)
              else none)
          else none))
    else none) := by kernel_rfl
theorem e5_1111014 (l : List PV) (ks : List PV) (i : Int) (v : List UInt8) (v1 : Int) (v2 : List PV) (v3 : List PV) (v4 : List PV) (v5 : List PV) (v6 : List PV) (v7 : List PV) : L5_1111014 l ks i v v1 v2 v3 v4 v5 v6 v7 =
  bif decide (i < ((ks.take (bif decide ((6 : Int) < (ks.length : Int)) then (6 : Int) else (ks.length : Int)).toNat).length : Int)) then
    bif decide (0 ≤ i) then
      ((ks.take (bif decide ((6 : Int) < (ks.length : Int)) then (6 : Int) else (ks.length : Int)).toNat)[i.toNat]?).bind fun x =>
        (bif (Sh.int .i64).fits x then
          ((V 8 [.pv (.int .i64 x.toInt)]).bind retPV).bind fun r =>
            (bif (Sh.agg [Sh.int .i64, Sh.int .i64, Sh.str, Sh.lst]).fits r then
              bif small (l.length) 1 56 then
                L5_1111014 (l ++ ([.agg [.int .i64 ((r.c 0).toInt), .int .i64 ((r.c 1).toInt), .str ((r.c 2).toStr), .lst ((r.c 3).toLst)]] : List PV)) ks (IntKind.i64.wrap (i + (1 : Int))) v v1 v2 v3 v4 v5 v6 v7
              else none
            else none)
        else none)
    else none
  else ((V 9 [.pv (.agg [.str v, .int .i64 v1, .lst v2, .lst v3, .lst v4, .lst v5, .lst v6, .lst v7]), .pv (.lst l)]).bind retPV).bind fun r1 =>
    (bif (Sh.tup [Sh.agg [Sh.int .i64, Sh.int .i64, Sh.str, Sh.lst], Sh.bool]).fits r1 then
      bif (!(r1.r 1).toBool) then
        (V 10 [.pv (.lst l)]).bind fun r2 =>
          ((retB 4 r2).bind fun l1 =>
            (bif small (l1.length) 1 56 then
              ((V 11 [.pv (.agg [.str v, .int .i64 v1, .lst v2, .lst v3, .lst v4, .lst v5, .lst v6, .lst v7]), .pv (.lst (l1 ++ ([.agg [.int .i64 1, .int .i64 0, .str [], .lst []]] : List PV)))]).bind retPV).bind fun r3 =>
                (bif (Sh.lst).fits r3 then
                  ((V 17 [.pv (.lst r3.toLst), .pv (.int .i64 (l.length : Int))]).bind retPV).bind fun r4 =>
                    (bif (Sh.bool).fits r4 then
                      some (.pv (.bool r4.toBool), [])
                    else none)
                else none)
            else none))
      else (V 10 [.pv (.lst l)]).bind fun r5 =>
        ((retB 4 r5).bind fun l2 =>
          (bif small (l2.length) 1 56 then
            ((V 9 [.pv (.agg [.str v, .int .i64 v1, .lst v2, .lst v3, .lst v4, .lst v5, .lst v6, .lst v7]), .pv (.lst (l2 ++ ([.agg [.int .i64 (((r1.r 0).c 0).toInt), .int .i64 (((r1.r 0).c 1).toInt), .str (((r1.r 0).c 2).toStr), .lst (((r1.r 0).c 3).toLst)]] : List PV)))]).bind retPV).bind fun r6 =>
              (bif (Sh.tup [Sh.agg [Sh.int .i64, Sh.int .i64, Sh.str, Sh.lst], Sh.bool]).fits r6 then
                ((V 11 [.pv (.agg [.str v, .int .i64 v1, .lst v2, .lst v3, .lst v4, .lst v5, .lst v6, .lst v7]), .pv (.lst (l2 ++ ([.agg [.int .i64 (((r1.r 0).c 0).toInt), .int .i64 (((r1.r 0).c 1).toInt), .str (((r1.r 0).c 2).toStr), .lst (((r1.r 0).c 3).toLst)]] : List PV)))]).bind retPV).bind fun r7 =>
                  (bif (Sh.lst).fits r7 then
                    ((V 17 [.pv (.lst r7.toLst), .pv (.int .i64 (l.length : Int))]).bind retPV).bind fun r8 =>
                      (bif (Sh.bool).fits r8 then
                        bif (!r8.toBool) then
                          bif (!(r6.r 1).toBool) then
                            some (.pv (.bool true), [])
                          else ((V 18 [.pv (.agg [.int .i64 (((r6.r 0).c 0).toInt), .int .i64 (((r6.r 0).c 1).toInt), .str (((r6.r 0).c 2).toStr), .lst (((r6.r 0).c 3).toLst)]), .pv (.agg [.int .i64 (((r1.r 0).c 0).toInt), .int .i64 (((r1.r 0).c 1).toInt), .str (((r1.r 0).c 2).toStr), .lst (((r1.r 0).c 3).toLst)])]).bind retPV).bind fun r9 =>
                            (bif (Sh.bool).fits r9 then
                              some (.pv (.bool (!r9.toBool)), [])
                            else none)
                        else some (.pv (.bool false), [])
                      else none)
                  else none)
              else none)
          else none))
    else none) :=
  (LV_eq pa 5 _ _).trans (f5_1111014 l ks i v v1 v2 v3 v4 v5 v6 v7 V (LV Pr T 5))
end Go.AL.S11
