/- Equations of functions in the abstract machine: printed by gen.py. -/
import Derived.Test.YtofjejdlggmcjaaS1T
set_option linter.unusedVariables false
set_option maxRecDepth 100000
namespace Go.AL.S1
open Go Go.AL
/-! 9 roadstead/roadkeep2.SessionOrder -/
def st9_111111016 (v : Bool) (v1 : Int) (v2 : Bool) (v3 : Int) (v4 : Bool) (v5 : Int) (v6 : Bool) (v7 : Int) (b : Bool) : AS :=
  ⟨[.any, .any, .any, .any, .any, .any, .any, .pv (.bool v), .pv (.int .i64 v1), .pv (.bool v2), .pv (.int .i64 v3), .pv (.bool v4), .pv (.int .i64 v5), .pv (.bool v6), .pv (.int .i64 v7), .any, .any, .any, .any, .any, .any, .any, .any, .any, .any, .any, .any, .any, .any, .any, .any, .any, .any, .any, .any, .any, .any, .any, .any, .any, .any, .any, .any, .any, .any, .any, .any, .any, .any, .any, .any, .any, .any, .pv (.bool b), .any, .any, .any, .any, .any, .any, .any, .any, .any, .any, .any, .any, .any, .any, .any, .any, .any, .any, .any, .any, .any, .any, .any, .any, .any, .any, .any, .any, .any, .any, .any, .any, .any, .any, .any, .any, .any, .any, .any, .any, .any, .any], ⟨[], [], [], 0, 0⟩⟩
noncomputable def L9_111111016 (v : Bool) (v1 : Int) (v2 : Bool) (v3 : Int) (v4 : Bool) (v5 : Int) (v6 : Bool) (v7 : Int) (b : Bool) : Option Out := LV Pr T 9 [1, 1, 1, 1, 1, 1, 0, 1, 6] (st9_111111016 v v1 v2 v3 v4 v5 v6 v7 b)
theorem e9 (a : List PV) (b : List PV) (c : List PV) : V 9 [.pv (.lst a), .pv (.lst b), .pv (.lst c)] =
  ((V 24 []).bind retPV).bind fun r =>
    (bif (Sh.bool).fits r then
      bif (!r.toBool) then
        some (.pv (.bool false), [])
      else ((V 32 [.pv (.lst a), .pv (.lst b)]).bind retPV).bind fun r1 =>
        (bif (Sh.tup [Sh.bool, Sh.int .i64]).fits r1 then
          ((V 32 [.pv (.lst b), .pv (.lst c)]).bind retPV).bind fun r2 =>
            (bif (Sh.tup [Sh.bool, Sh.int .i64]).fits r2 then
              ((V 32 [.pv (.lst a), .pv (.lst c)]).bind retPV).bind fun r3 =>
                (bif (Sh.tup [Sh.bool, Sh.int .i64]).fits r3 then
                  ((V 33 [.pv (.lst a), .pv (.lst a)]).bind retPV).bind fun r4 =>
                    (bif (Sh.tup [Sh.bool, Sh.int .i64]).fits r4 then
                      ((V 34 [.pv (.lst a)]).bind retPV).bind fun r5 =>
                        (bif (Sh.int .i64).fits r5 then
                          bif ((r5.toInt) != (0 : Int)) then
                            L9_111111016 ((r1.r 0).toBool) ((r1.r 1).toInt) ((r2.r 0).toBool) ((r2.r 1).toInt) ((r3.r 0).toBool) ((r3.r 1).toInt) ((r4.r 0).toBool) ((r4.r 1).toInt) true
                          else ((V 34 [.pv (.lst b)]).bind retPV).bind fun r6 =>
                            (bif (Sh.int .i64).fits r6 then
                              bif ((r6.toInt) != (0 : Int)) then
                                L9_111111016 ((r1.r 0).toBool) ((r1.r 1).toInt) ((r2.r 0).toBool) ((r2.r 1).toInt) ((r3.r 0).toBool) ((r3.r 1).toInt) ((r4.r 0).toBool) ((r4.r 1).toInt) true
                              else ((V 34 [.pv (.lst c)]).bind retPV).bind fun r7 =>
                                (bif (Sh.int .i64).fits r7 then
                                  L9_111111016 ((r1.r 0).toBool) ((r1.r 1).toInt) ((r2.r 0).toBool) ((r2.r 1).toInt) ((r3.r 0).toBool) ((r3.r 1).toInt) ((r4.r 0).toBool) ((r4.r 1).toInt) ((r7.toInt) != (0 : Int))
                                else none)
                            else none)
                        else none)
                    else none)
                else none)
            else none)
        else none)
    else none) :=
  (V_eq pa rfl _).trans (by kernel_rfl)
theorem e9_111111016 (v : Bool) (v1 : Int) (v2 : Bool) (v3 : Int) (v4 : Bool) (v5 : Int) (v6 : Bool) (v7 : Int) (b : Bool) : L9_111111016 v v1 v2 v3 v4 v5 v6 v7 b =
  bif b then
    bif v then
      bif (!(v1 != (0 : Int))) then
        bif v2 then
          some (.pv (.bool (!(v3 != (0 : Int)))), [])
        else some (.pv (.bool true), [])
      else some (.pv (.bool false), [])
    else bif v2 then
      some (.pv (.bool (!(v3 != (0 : Int)))), [])
    else some (.pv (.bool true), [])
  else bif (v1 == (0 : Int)) then
    bif (v3 == (0 : Int)) then
      bif (v5 == (0 : Int)) then
        bif (v7 == (0 : Int)) then
          bif v6 then
            bif (!v) then
              some (.pv (.bool true), [])
            else bif (!v2) then
              some (.pv (.bool true), [])
            else some (.pv (.bool v4), [])
          else some (.pv (.bool false), [])
        else some (.pv (.bool false), [])
      else some (.pv (.bool false), [])
    else some (.pv (.bool false), [])
  else some (.pv (.bool false), []) :=
  (LV_eq pa 9 _ _).trans (by kernel_rfl)
/-! 10 roadstead/roadkeep2.SessionDual -/
def st10_1111016 (a : List PV) (b : List PV) (v : List PV) (v1 : Int) (v2 : List PV) (v3 : Int) (b1 : Bool) : AS :=
  ⟨[.pv (.lst a), .pv (.lst b), .any, .any, .any, .pv (.lst v), .pv (.int .i64 v1), .pv (.lst v2), .pv (.int .i64 v3), .any, .any, .any, .any, .any, .any, .any, .any, .any, .any, .any, .any, .any, .any, .any, .any, .any, .any, .any, .any, .any, .any, .any, .pv (.bool b1), .any, .any, .any, .any, .any, .any, .any, .any, .any, .any, .any, .any, .any, .any, .any, .any, .any, .any, .any, .any, .any, .any, .any, .any, .any, .any, .any, .any, .any, .any, .any, .any, .any, .any, .any, .any, .any, .any, .any, .any, .any, .any, .any, .any, .any, .any, .any, .any, .any, .any, .any, .any, .any], ⟨[], [], [], 0, 0⟩⟩
noncomputable def L10_1111016 (a : List PV) (b : List PV) (v : List PV) (v1 : Int) (v2 : List PV) (v3 : Int) (b1 : Bool) : Option Out := LV Pr T 10 [1, 1, 1, 1, 0, 1, 6] (st10_1111016 a b v v1 v2 v3 b1)
theorem e10 (a : List PV) (b : List PV) : V 10 [.pv (.lst a), .pv (.lst b)] =
  ((V 24 []).bind retPV).bind fun r =>
    (bif (Sh.bool).fits r then
      bif (!r.toBool) then
        some (.pv (.bool false), [])
      else ((V 25 [.pv (.lst a)]).bind retPV).bind fun r1 =>
        (bif (Sh.tup [Sh.lst, Sh.int .i64]).fits r1 then
          ((V 25 [.pv (.lst b)]).bind retPV).bind fun r2 =>
            (bif (Sh.tup [Sh.lst, Sh.int .i64]).fits r2 then
              bif (((r1.r 1).toInt) != (0 : Int)) then
                L10_1111016 a b ((r1.r 0).toLst) ((r1.r 1).toInt) ((r2.r 0).toLst) ((r2.r 1).toInt) true
              else L10_1111016 a b ((r1.r 0).toLst) ((r1.r 1).toInt) ((r2.r 0).toLst) ((r2.r 1).toInt) (((r2.r 1).toInt) != (0 : Int))
            else none)
        else none)
    else none) :=
  (V_eq pa rfl _).trans (by kernel_rfl)
theorem e10_1111016 (a : List PV) (b : List PV) (v : List PV) (v1 : Int) (v2 : List PV) (v3 : Int) (b1 : Bool) : L10_1111016 a b v v1 v2 v3 b1 =
  bif b1 then
    bif (v1 != (0 : Int)) then
      bif ((v.length : Int) == (0 : Int)) then
        some (.pv (.bool true), [])
      else bif (v3 != (0 : Int)) then
        some (.pv (.bool ((v2.length : Int) == (0 : Int))), [])
      else some (.pv (.bool false), [])
    else bif (v3 != (0 : Int)) then
      some (.pv (.bool ((v2.length : Int) == (0 : Int))), [])
    else some (.pv (.bool false), [])
  else ((V 25 [.pv (.lst v)]).bind retPV).bind fun r =>
    (bif (Sh.tup [Sh.lst, Sh.int .i64]).fits r then
      ((V 32 [.pv (.lst a), .pv (.lst b)]).bind retPV).bind fun r1 =>
        (bif (Sh.tup [Sh.bool, Sh.int .i64]).fits r1 then
          ((V 32 [.pv (.lst v2), .pv (.lst v)]).bind retPV).bind fun r2 =>
            (bif (Sh.tup [Sh.bool, Sh.int .i64]).fits r2 then
              bif (((r.r 1).toInt) == (0 : Int)) then
                bif (((r1.r 1).toInt) == (0 : Int)) then
                  bif (((r2.r 1).toInt) == (0 : Int)) then
                    ((V 35 [.pv (.lst ((r.r 0).toLst)), .pv (.lst a)]).bind retPV).bind fun r3 =>
                      (bif (Sh.bool).fits r3 then
                        bif r3.toBool then
                          some (.pv (.bool ((r1.r 0).toBool == (r2.r 0).toBool)), [])
                        else some (.pv (.bool false), [])
                      else none)
                  else some (.pv (.bool false), [])
                else some (.pv (.bool false), [])
              else some (.pv (.bool false), [])
            else none)
        else none)
    else none) :=
  (LV_eq pa 10 _ _).trans (by kernel_rfl)
/-! 32 roadstead/session.Sub -/
def st32_111104 (a : List PV) (b : List PV) (m1 : List (PV × PV)) (l : List PV) : AS :=
  ⟨[.pv (.lst a), .pv (.lst b), .any, .any, .any, .any, .any, .mp 0, .vec 0 0, .any, .any, .any, .any, .any, .any, .any, .any, .any, .any, .any, .any, .any, .any, .any, .any, .any, .any, .any, .any, .any, .any, .any, .any, .any, .any, .any, .any, .any, .any, .any, .any, .any, .any, .any, .any, .any, .any, .any, .any, .any, .any, .any, .any, .any, .any, .any, .any, .any, .any, .any, .any, .any, .any, .any, .any, .any, .any, .any, .any, .any, .any, .any, .any, .any, .any, .any, .any, .any, .any, .any, .any, .any, .any, .any, .any, .any, .any, .any, .any, .any, .any, .any, .any, .any, .any, .any, .any, .any, .any, .any, .any, .any, .any, .any, .any, .any, .any, .any, .any], ⟨[(false, [.ment m1])], [some (0, 2, l)], [], 0, 0⟩⟩
noncomputable def L32_111104 (a : List PV) (b : List PV) (m1 : List (PV × PV)) (l : List PV) : Option Out := LV Pr T 32 [1, 1, 1, 1, 0, 4] (st32_111104 a b m1 l)
def st32_111104514111111116 (a : List PV) (b : List PV) (m : List (PV × PV)) (i2 : Int) (i3 : Int) (v : Int) (v1 : List PV) (v2 : Int) (v3 : List PV) (i : Int) (l : List PV) (i1 : Int) (l1 : List PV) (l2 : List PV) : AS :=
  ⟨[.pv (.lst a), .pv (.lst b), .any, .any, .any, .any, .any, .mp 0, .vec 0 0, .any, .box 12 0, .box 13 0, .box 18 0, .box 19 0, .any, .any, .any, .any, .any, .any, .any, .any, .any, .any, .any, .any, .any, .any, .any, .any, .any, .any, .any, .any, .any, .any, .any, .any, .any, .any, .any, .any, .any, .any, .any, .any, .any, .any, .any, .any, .any, .any, .any, .any, .any, .any, .any, .any, .any, .any, .any, .any, .any, .any, .any, .any, .any, .any, .any, .any, .any, .any, .any, .any, .any, .any, .any, .any, .any, .any, .any, .any, .any, .any, .any, .any, .any, .any, .any, .any, .any, .any, .any, .any, .any, .any, .any, .any, .any, .any, .any, .any, .any, .any, .any, .any, .any, .any, .any], ⟨[(false, [.ment m]), (false, [.pv (.int .i64 i2), .pv (.int .i64 i3)]), (true, []), (true, []), (true, []), (true, []), (true, []), (true, []), (true, []), (true, []), (true, []), (true, []), (false, [.pv (.int .i64 v), .pv (.lst v1)]), (false, [.pv (.int .i64 v2), .pv (.lst v3)]), (true, []), (true, []), (true, []), (true, []), (false, [.pv (.int .i64 i), .pv (.lst l)]), (false, [.pv (.int .i64 i1), .pv (.lst l1)])], [some (0, 2, l2)], [], 0, 0⟩⟩
noncomputable def L32_111104514111111116 (a : List PV) (b : List PV) (m : List (PV × PV)) (i2 : Int) (i3 : Int) (v : Int) (v1 : List PV) (v2 : Int) (v3 : List PV) (i : Int) (l : List PV) (i1 : Int) (l1 : List PV) (l2 : List PV) : Option Out := LV Pr T 32 [1, 1, 1, 1, 0, 4, 5, 1, 4, 1, 1, 1, 1, 1, 1, 1, 1, 6] (st32_111104514111111116 a b m i2 i3 v v1 v2 v3 i l i1 l1 l2)
def st32_1111045141111111114 (a : List PV) (b : List PV) (l : List PV) (i4 : Int) (m : List (PV × PV)) (i2 : Int) (i3 : Int) (v : Int) (v1 : List PV) (v2 : Int) (v3 : List PV) (i : Int) (i1 : Int) (l1 : List PV) (l2 : List PV) : AS :=
  ⟨[.pv (.lst a), .pv (.lst b), .any, .any, .any, .any, .any, .mp 0, .vec 0 0, .any, .box 12 0, .box 13 0, .any, .box 19 0, .any, .any, .any, .any, .any, .any, .any, .any, .any, .any, .any, .any, .any, .any, .any, .any, .any, .any, .any, .any, .any, .any, .any, .any, .any, .any, .any, .any, .any, .any, .any, .any, .any, .any, .any, .any, .any, .any, .any, .any, .any, .any, .any, .any, .any, .any, .any, .any, .any, .any, .any, .any, .any, .any, .any, .any, .any, .any, .any, .pv (.lst l), .pv (.int .i64 (l.length : Int)), .pv (.int .i64 i4), .any, .any, .any, .any, .any, .any, .any, .any, .any, .any, .any, .any, .any, .any, .any, .any, .any, .any, .any, .any, .any, .any, .any, .any, .any, .any, .any, .any, .any, .any, .any, .any, .any], ⟨[(false, [.ment m]), (false, [.pv (.int .i64 i2), .pv (.int .i64 i3)]), (true, []), (true, []), (true, []), (true, []), (true, []), (true, []), (true, []), (true, []), (true, []), (true, []), (false, [.pv (.int .i64 v), .pv (.lst v1)]), (false, [.pv (.int .i64 v2), .pv (.lst v3)]), (true, []), (true, []), (true, []), (true, []), (false, [.pv (.int .i64 i), .pv (.lst l)]), (false, [.pv (.int .i64 i1), .pv (.lst l1)])], [some (0, 2, l2)], [], 0, 0⟩⟩
noncomputable def L32_1111045141111111114 (a : List PV) (b : List PV) (l : List PV) (i4 : Int) (m : List (PV × PV)) (i2 : Int) (i3 : Int) (v : Int) (v1 : List PV) (v2 : Int) (v3 : List PV) (i : Int) (i1 : Int) (l1 : List PV) (l2 : List PV) : Option Out := LV Pr T 32 [1, 1, 1, 1, 0, 4, 5, 1, 4, 1, 1, 1, 1, 1, 1, 1, 1, 1, 4] (st32_1111045141111111114 a b l i4 m i2 i3 v v1 v2 v3 i i1 l1 l2)
theorem e32 (a : List PV) (b : List PV) : V 32 [.pv (.lst a), .pv (.lst b)] =
  ((V 74 [.pv (.lst a), .pv (.lst b)]).bind retPV).bind fun r =>
    (bif (Sh.int .i64).fits r then
      bif ((r.toInt) != (0 : Int)) then
        some (.pv (.tup [.bool false, .int .i64 r.toInt]), [])
      else L32_111104 a b [] [.agg [.int .i64 0, .int .i64 0]]
    else none) :=
  (V_eq pa rfl _).trans (by kernel_rfl)
theorem e32_111104 (a : List PV) (b : List PV) (m1 : List (PV × PV)) (l : List PV) : L32_111104 a b m1 l =
  bif decide ((l.length : Int) > (0 : Int)) then
    bif (decide (0 ≤ (IntKind.i64.wrap ((l.length : Int) - (1 : Int)))) && decide ((IntKind.i64.wrap ((l.length : Int) - (1 : Int))) < (l.length : Int))) then
      (l[(IntKind.i64.wrap ((l.length : Int) - (1 : Int))).toNat]?).bind fun y =>
        (bif (Sh.agg [Sh.int .i64, Sh.int .i64]).fits y then
          bif (decide (0 ≤ (IntKind.i64.wrap ((l.length : Int) - (1 : Int)))) && decide ((IntKind.i64.wrap ((l.length : Int) - (1 : Int))) ≤ (l.length : Int))) then
            (mget (.agg [.int, .int]) m1 (.agg [.int .i64 ((y.c 0).toInt), .int .i64 ((y.c 1).toInt)])).bind fun o =>
              (bif (Sh.bool).fits (o.getD (.bool false)) then
                bif (o.getD (.bool false)).toBool then
                  L32_111104 a b m1 (l.take (IntKind.i64.wrap ((l.length : Int) - (1 : Int))).toNat)
                else (mset (.agg [.int, .int]) m1 (.agg [.int .i64 ((y.c 0).toInt), .int .i64 ((y.c 1).toInt)]) (.bool true)).bind fun m =>
                  (bif decide (0 ≤ ((y.c 0).toInt)) then
                    (a[((y.c 0).toInt).toNat]?).bind fun x =>
                      (bif (Sh.agg [Sh.int .i64, Sh.lst]).fits x then
                        bif decide (0 ≤ ((y.c 1).toInt)) then
                          (b[((y.c 1).toInt).toNat]?).bind fun x1 =>
                            (bif (Sh.agg [Sh.int .i64, Sh.lst]).fits x1 then
                              bif (((x.c 0).toInt) != ((x1.c 0).toInt)) then
                                some (.pv (.tup [.bool false, .int .i64 0]), [])
                              else bif (((x.c 0).toInt) == (2 : Int)) then
                                L32_111104514111111116 a b m ((y.c 0).toInt) ((y.c 1).toInt) ((x.c 0).toInt) ((x.c 1).toLst) ((x1.c 0).toInt) ((x1.c 1).toLst) ((x1.c 0).toInt) ((x1.c 1).toLst) ((x.c 0).toInt) ((x.c 1).toLst) (l.take (IntKind.i64.wrap ((l.length : Int) - (1 : Int))).toNat)
                              else L32_111104514111111116 a b m ((y.c 0).toInt) ((y.c 1).toInt) ((x.c 0).toInt) ((x.c 1).toLst) ((x1.c 0).toInt) ((x1.c 1).toLst) ((x.c 0).toInt) ((x.c 1).toLst) ((x1.c 0).toInt) ((x1.c 1).toLst) (l.take (IntKind.i64.wrap ((l.length : Int) - (1 : Int))).toNat)
                            else none)
                        else none
                      else none)
                  else none)
              else none)
          else none
        else none)
    else none
  else some (.pv (.tup [.bool true, .int .i64 0]), []) :=
  (LV_eq pa 32 _ _).trans (by kernel_rfl)
theorem e32_111104514111111116 (a : List PV) (b : List PV) (m : List (PV × PV)) (i2 : Int) (i3 : Int) (v : Int) (v1 : List PV) (v2 : Int) (v3 : List PV) (i : Int) (l : List PV) (i1 : Int) (l1 : List PV) (l2 : List PV) : L32_111104514111111116 a b m i2 i3 v v1 v2 v3 i l i1 l1 l2 =
  L32_1111045141111111114 a b l 0 m i2 i3 v v1 v2 v3 i i1 l1 l2 :=
  (LV_eq pa 32 _ _).trans (by kernel_rfl)
theorem e32_1111045141111111114 (a : List PV) (b : List PV) (l : List PV) (i4 : Int) (m : List (PV × PV)) (i2 : Int) (i3 : Int) (v : Int) (v1 : List PV) (v2 : Int) (v3 : List PV) (i : Int) (i1 : Int) (l1 : List PV) (l2 : List PV) : L32_1111045141111111114 a b l i4 m i2 i3 v v1 v2 v3 i i1 l1 l2 =
  bif decide (i4 < (l.length : Int)) then
    bif decide (0 ≤ i4) then
      (l[i4.toNat]?).bind fun x =>
        (bif (Sh.agg [Sh.int .i64, Sh.int .i64]).fits x then
          ((V 66 [.pv (.agg [.int .i64 i1, .lst l1]), .pv (.int .i64 ((x.c 0).toInt))]).bind retPV).bind fun r =>
            (bif (Sh.tup [Sh.int .i64, Sh.bool]).fits r then
              bif (!(r.r 1).toBool) then
                some (.pv (.tup [.bool false, .int .i64 0]), [])
              else ((V 66 [.pv (.agg [.int .i64 v, .lst v1]), .pv (.int .i64 ((x.c 0).toInt))]).bind retPV).bind fun r1 =>
                (bif (Sh.tup [Sh.int .i64, Sh.bool]).fits r1 then
                  ((V 66 [.pv (.agg [.int .i64 v2, .lst v3]), .pv (.int .i64 ((x.c 0).toInt))]).bind retPV).bind fun r2 =>
                    (bif (Sh.tup [Sh.int .i64, Sh.bool]).fits r2 then
                      bif small (l2.length) 1 16 then
                        L32_1111045141111111114 a b l (IntKind.i64.wrap (i4 + (1 : Int))) m i2 i3 v v1 v2 v3 i i1 l1 (l2 ++ [.agg [.int .i64 ((r1.r 0).toInt), .int .i64 ((r2.r 0).toInt)]])
                      else none
                    else none)
                else none)
            else none)
        else none)
    else none
  else L32_111104 a b m l2 :=
  (LV_eq pa 32 _ _).trans (by kernel_rfl)
/-! 33 roadstead/session.Same -/
theorem e33 (a : List PV) (b : List PV) : V 33 [.pv (.lst a), .pv (.lst b)] =
  ((V 32 [.pv (.lst a), .pv (.lst b)]).bind retPV).bind fun r =>
    (bif (Sh.tup [Sh.bool, Sh.int .i64]).fits r then
      bif (((r.r 1).toInt) != (0 : Int)) then
        some (.pv (.tup [.bool false, .int .i64 ((r.r 1).toInt)]), [])
      else ((V 32 [.pv (.lst b), .pv (.lst a)]).bind retPV).bind fun r1 =>
        (bif (Sh.tup [Sh.bool, Sh.int .i64]).fits r1 then
          bif (r.r 0).toBool then
            some (.pv (.tup [.bool ((r1.r 0).toBool), .int .i64 0]), [])
          else some (.pv (.tup [.bool false, .int .i64 0]), [])
        else none)
    else none) :=
  (V_eq pa rfl _).trans (by kernel_rfl)
/-! 35 roadstead/roadkeep2.sameSession -/
theorem e35 (a : List PV) (b : List PV) : V 35 [.pv (.lst a), .pv (.lst b)] =
  ((V 75 [.pv (.lst a), .pv (.lst b), .pv (.fn 76 [])]).bind retPV).bind fun r =>
    (bif (Sh.bool).fits r then
      some (.pv (.bool r.toBool), [])
    else none) :=
  (V_eq pa rfl _).trans (by kernel_rfl)
/-! 74 roadstead/session.both -/
theorem e74 (a : List PV) (b : List PV) : V 74 [.pv (.lst a), .pv (.lst b)] =
  ((V 34 [.pv (.lst a)]).bind retPV).bind fun r =>
    (bif (Sh.int .i64).fits r then
      bif ((r.toInt) != (0 : Int)) then
        some (.pv (.int .i64 r.toInt), [])
      else ((V 34 [.pv (.lst b)]).bind retPV).bind fun r1 =>
        (bif (Sh.int .i64).fits r1 then
          some (.pv (.int .i64 r1.toInt), [])
        else none)
    else none) :=
  (V_eq pa rfl _).trans (by kernel_rfl)
/-! 75 slices.EqualFunc[[]roadstead/session.State,[]roadstead/session.State,roadstead/session.State,roadstead/session.State] -/
def st75_11014 (s2 : List PV) (eq_f : FuncId) (eq_c : List PV) (s1 : List PV) (i : Int) : AS :=
  ⟨[.any, .pv (.lst s2), .pv (.fn eq_f eq_c), .any, .any, .any, .any, .any, .any, .any, .any, .any, .any, .any, .any, .pv (.lst s1), .pv (.int .i64 (s1.length : Int)), .pv (.int .i64 i), .any, .any, .any, .any, .any, .any, .any, .any, .any, .any, .any, .any, .any, .any], ⟨[], [], [], 0, 0⟩⟩
noncomputable def L75_11014 (s2 : List PV) (eq_f : FuncId) (eq_c : List PV) (s1 : List PV) (i : Int) : Option Out := LV Pr T 75 [1, 1, 0, 1, 4] (st75_11014 s2 eq_f eq_c s1 i)
theorem e75 (s1 : List PV) (s2 : List PV) (eq_f : FuncId) (eq_c : List PV) : V 75 [.pv (.lst s1), .pv (.lst s2), .pv (.fn eq_f eq_c)] =
  bif ((s1.length : Int) != (s2.length : Int)) then
    some (.pv (.bool false), [])
  else L75_11014 s2 eq_f eq_c s1 0 :=
  (V_eq pa rfl _).trans (by kernel_rfl)
theorem e75_11014 (s2 : List PV) (eq_f : FuncId) (eq_c : List PV) (s1 : List PV) (i : Int) : L75_11014 s2 eq_f eq_c s1 i =
  bif decide (i < (s1.length : Int)) then
    bif decide (0 ≤ i) then
      (s1[i.toNat]?).bind fun x =>
        (bif (Sh.agg [Sh.int .i64, Sh.lst]).fits x then
          bif decide (0 ≤ i) then
            (s2[i.toNat]?).bind fun x1 =>
              (bif (Sh.agg [Sh.int .i64, Sh.lst]).fits x1 then
                ((V eq_f ((([.agg [.int .i64 ((x.c 0).toInt), .lst ((x.c 1).toLst)], .agg [.int .i64 ((x1.c 0).toInt), .lst ((x1.c 1).toLst)]] : List PV) ++ eq_c).map .pv)).bind retPV).bind fun r =>
                  (bif (Sh.bool).fits r then
                    bif (!r.toBool) then
                      some (.pv (.bool false), [])
                    else L75_11014 s2 eq_f eq_c s1 (IntKind.i64.wrap (i + (1 : Int)))
                  else none)
              else none)
          else none
        else none)
    else none
  else some (.pv (.bool true), []) :=
  (LV_eq pa 75 _ _).trans (by kernel_rfl)
/-! 76 roadstead/roadkeep2.sameSession$1 -/
theorem e76 (x_Kind : Int) (x_Branches : List PV) (y_Kind : Int) (y_Branches : List PV) : V 76 [.pv (.agg [.int .i64 x_Kind, .lst x_Branches]), .pv (.agg [.int .i64 y_Kind, .lst y_Branches])] =
  bif (x_Kind == y_Kind) then
    ((V 77 [.pv (.lst x_Branches), .pv (.lst y_Branches)]).bind retPV).bind fun r =>
      (bif (Sh.bool).fits r then
        some (.pv (.bool r.toBool), [])
      else none)
  else some (.pv (.bool false), []) :=
  (V_eq pa rfl _).trans (by kernel_rfl)
/-! 77 slices.Equal[[]roadstead/session.Branch,roadstead/session.Branch] -/
def st77_11014 (s1 : List PV) (s2 : List PV) (i : Int) : AS :=
  ⟨[.pv (.lst s1), .pv (.lst s2), .any, .any, .any, .any, .any, .any, .any, .any, .any, .any, .pv (.int .i64 (s1.length : Int)), .pv (.int .i64 i), .any, .any, .any, .any, .any, .any, .any, .any, .any, .any, .any, .any], ⟨[], [], [], 0, 0⟩⟩
noncomputable def L77_11014 (s1 : List PV) (s2 : List PV) (i : Int) : Option Out := LV Pr T 77 [1, 1, 0, 1, 4] (st77_11014 s1 s2 i)
theorem e77 (s1 : List PV) (s2 : List PV) : V 77 [.pv (.lst s1), .pv (.lst s2)] =
  bif ((s1.length : Int) != (s2.length : Int)) then
    some (.pv (.bool false), [])
  else L77_11014 s1 s2 0 :=
  (V_eq pa rfl _).trans (by kernel_rfl)
theorem e77_11014 (s1 : List PV) (s2 : List PV) (i : Int) : L77_11014 s1 s2 i =
  bif decide (i < (s1.length : Int)) then
    bif decide (0 ≤ i) then
      (s1[i.toNat]?).bind fun x =>
        (bif (Sh.agg [Sh.int .i64, Sh.int .i64]).fits x then
          bif decide (0 ≤ i) then
            (s2[i.toNat]?).bind fun x1 =>
              (bif (Sh.agg [Sh.int .i64, Sh.int .i64]).fits x1 then
                bif (!((((x.c 0).toInt) == ((x1.c 0).toInt)) && ((((x.c 1).toInt) == ((x1.c 1).toInt)) && true))) then
                  some (.pv (.bool false), [])
                else L77_11014 s1 s2 (IntKind.i64.wrap (i + (1 : Int)))
              else none)
          else none
        else none)
    else none
  else some (.pv (.bool true), []) :=
  (LV_eq pa 77 _ _).trans (by kernel_rfl)
end Go.AL.S1
