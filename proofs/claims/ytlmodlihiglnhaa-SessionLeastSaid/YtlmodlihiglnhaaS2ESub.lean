/- Equations of functions in the abstract machine: printed by gen.py. -/
import Derived.Test.YtlmodlihiglnhaaS2T
set_option linter.unusedVariables false
set_option maxRecDepth 100000
namespace Go.AL.S2
open Go Go.AL
/-! 32 roadstead/session.Sub -/
def st32_111104 (a : List PV) (b : List PV) (m1 : List (PV × PV)) (l : List PV) : AS :=
  ⟨[.pv (.lst a), .pv (.lst b), .any, .any, .any, .any, .any, .mp 0, .vec 0 0, .any, .any, .any, .any, .any, .any, .any, .any, .any, .any, .any, .any, .any, .any, .any, .any, .any, .any, .any, .any, .any, .any, .any, .any, .any, .any, .any, .any, .any, .any, .any, .any, .any, .any, .any, .any, .any, .any, .any, .any, .any, .any, .any, .any, .any, .any, .any, .any, .any, .any, .any, .any, .any, .any, .any, .any, .any, .any, .any, .any, .any, .any, .any, .any, .any, .any, .any, .any, .any, .any, .any, .any, .any, .any, .any, .any, .any, .any, .any, .any, .any, .any, .any, .any, .any, .any, .any, .any, .any, .any, .any, .any, .any, .any, .any, .any, .any, .any, .any, .any], ⟨[(false, [.ment m1])], [some (0, 2, l)], [], 0, 0⟩⟩
noncomputable def L32_111104 (a : List PV) (b : List PV) (m1 : List (PV × PV)) (l : List PV) : Option Out := LV Pr T 32 [1, 1, 1, 1, 0, 4] (st32_111104 a b m1 l)
def st32_111104514111111116 (a : List PV) (b : List PV) (m : List (PV × PV)) (i2 : Int) (i3 : Int) (v : Int) (v1 : List PV) (v2 : Int) (v3 : List PV) (i : Int) (l : List PV) (i1 : Int) (l1 : List PV) (l2 : List PV) : AS :=
  ⟨[.pv (.lst a), .pv (.lst b), .any, .any, .any, .any, .any, .mp 0, .vec 0 0, .any, .box 12 0, .box 13 0, .box 18 0, .box 19 0, .any, .any, .any, .any, .any, .any, .any, .any, .any, .any, .any, .any, .any, .any, .any, .any, .any, .any, .any, .any, .any, .any, .any, .any, .any, .any, .any, .any, .any, .any, .any, .any, .any, .any, .any, .any, .any, .any, .any, .any, .any, .any, .any, .any, .any, .any, .any, .any, .any, .any, .any, .any, .any, .any, .any, .any, .any, .any, .any, .any, .any, .any, .any, .any, .any, .any, .any, .any, .any, .any, .any, .any, .any, .any, .any, .any, .any, .any, .any, .any, .any, .any, .any, .any, .any, .any, .any, .any, .any, .any, .any, .any, .any, .any, .any], ⟨[(false, [.ment m]), (false, [.pv (.int .i64 i2), .pv (.int .i64 i3)]), (true, []), (true, []), (true, []), (true, []), (true, []), (true, []), (true, []), (true, []), (true, []), (true, []), (false, [.pv (.int .i64 v), .pv (.lst v1)]), (false, [.pv (.int .i64 v2), .pv (.lst v3)]), (true, []), (true, []), (true, []), (true, []), (false, [.pv (.int .i64 i), .pv (.lst l)]), (false, [.pv (.int .i64 i1), .pv (.lst l1)])], [some (0, 2, l2)], [], 0, 0⟩⟩
noncomputable def L32_111104514111111116 (a : List PV) (b : List PV) (m : List (PV × PV)) (i2 : Int) (i3 : Int) (v : Int) (v1 : List PV) (v2 : Int) (v3 : List PV) (i : Int) (l : List PV) (i1 : Int) (l1 : List PV) (l2 : List PV) : Option Out := LV Pr T 32 [1, 1, 1, 1, 0, 4, 5, 1, 4, 1, 1, 1, 1, 1, 1, 1, 1, 6] (st32_111104514111111116 a b m i2 i3 v v1 v2 v3 i l i1 l1 l2)
def st32_1111045141111111114 (a : List PV) (b : List PV) (l : List PV) (i4 : Int) (m : List (PV × PV)) (i2 : Int) (i3 : Int) (v : Int) (v1 : List PV) (v2 : Int) (v3 : List PV) (i : Int) (i1 : Int) (l1 : List PV) (l2 : List PV) : AS :=
  ⟨[.pv (.lst a), .pv (.lst b), .any, .any, .any, .any, .any, .mp 0, .vec 0 0, .any, .box 12 0, .box 13 0, .any, .box 19 0, .any, .any, .any, .any, .any, .any, .any, .any, .any, .any, .any, .any, .any, .any, .any, .any, .any, .any, .any, .any, .any, .any, .any, .any, .any, .any, .any, .any, .any, .any, .any, .any, .any, .any, .any, .any, .any, .any, .any, .any, .any, .any, .any, .any, .any, .any, .any, .any, .any, .any, .any, .any, .any, .any, .any, .any, .any, .any, .any, .pv (.lst l), .pv (.int .i64 (l.length : Int)), .pv (.int .i64 i4), .any, .any, .any, .any, .any, .any, .any, .any, .any, .any, .any, .any, .any, .any, .any, .any, .any, .any, .any, .any, .any, .any, .any, .any, .any, .any, .any, .any, .any, .any, .any, .any, .any], ⟨[(false, [.ment m]), (false, [.pv (.int .i64 i2), .pv (.int .i64 i3)]), (true, []), (true, []), (true, []), (true, []), (true, []), (true, []), (true, []), (true, []), (true, []), (true, []), (false, [.pv (.int .i64 v), .pv (.lst v1)]), (false, [.pv (.int .i64 v2), .pv (.lst v3)]), (true, []), (true, []), (true, []), (true, []), (false, [.pv (.int .i64 i), .pv (.lst l)]), (false, [.pv (.int .i64 i1), .pv (.lst l1)])], [some (0, 2, l2)], [], 0, 0⟩⟩
noncomputable def L32_1111045141111111114 (a : List PV) (b : List PV) (l : List PV) (i4 : Int) (m : List (PV × PV)) (i2 : Int) (i3 : Int) (v : Int) (v1 : List PV) (v2 : Int) (v3 : List PV) (i : Int) (i1 : Int) (l1 : List PV) (l2 : List PV) : Option Out := LV Pr T 32 [1, 1, 1, 1, 0, 4, 5, 1, 4, 1, 1, 1, 1, 1, 1, 1, 1, 1, 4] (st32_1111045141111111114 a b l i4 m i2 i3 v v1 v2 v3 i i1 l1 l2)
theorem e32 (a : List PV) (b : List PV) : V 32 [.pv (.lst a), .pv (.lst b)] =
  ((V 73 [.pv (.lst a), .pv (.lst b)]).bind retPV).bind fun r =>
    (bif (Sh.int .i64).fits r then
      bif ((r.toInt) != (0 : Int)) then
        some (.pv (.tup [.bool false, .int .i64 r.toInt]), [])
      else L32_111104 a b [] [.agg [.int .i64 0, .int .i64 0]]
    else none) :=
  (V_eq pa rfl _).trans (by kernel_rfl)
theorem e32_111104 (a : List PV) (b : List PV) (m1 : List (PV × PV)) (l : List PV) : L32_111104 a b m1 l =
  bif decide ((l.length : Int) > (0 : Int)) then
    bif (decide (0 ≤ (IntKind.i64.wrap ((l.length : Int) - (1 : Int)))) && decide ((IntKind.i64.wrap ((l.length : Int) - (1 : Int))) < (l.length : Int))) then
      (l[(IntKind.i64.wrap ((l.length : Int) - (1 : Int))).toNat]?).bind fun y =>
        (bif (Sh.agg [Sh.int .i64, Sh.int .i64]).fits y then
          bif (decide (0 ≤ (IntKind.i64.wrap ((l.length : Int) - (1 : Int)))) && decide ((IntKind.i64.wrap ((l.length : Int) - (1 : Int))) ≤ (l.length : Int))) then
            (mget (.agg [.int, .int]) m1 (.agg [.int .i64 ((y.c 0).toInt), .int .i64 ((y.c 1).toInt)])).bind fun o =>
              (bif (Sh.bool).fits (o.getD (.bool false)) then
                bif (o.getD (.bool false)).toBool then
                  L32_111104 a b m1 (l.take (IntKind.i64.wrap ((l.length : Int) - (1 : Int))).toNat)
                else (mset (.agg [.int, .int]) m1 (.agg [.int .i64 ((y.c 0).toInt), .int .i64 ((y.c 1).toInt)]) (.bool true)).bind fun m =>
                  (bif decide (0 ≤ ((y.c 0).toInt)) then
                    (a[((y.c 0).toInt).toNat]?).bind fun x =>
                      (bif (Sh.agg [Sh.int .i64, Sh.lst]).fits x then
                        bif decide (0 ≤ ((y.c 1).toInt)) then
                          (b[((y.c 1).toInt).toNat]?).bind fun x1 =>
                            (bif (Sh.agg [Sh.int .i64, Sh.lst]).fits x1 then
                              bif (((x.c 0).toInt) != ((x1.c 0).toInt)) then
                                some (.pv (.tup [.bool false, .int .i64 0]), [])
                              else bif (((x.c 0).toInt) == (2 : Int)) then
                                L32_111104514111111116 a b m ((y.c 0).toInt) ((y.c 1).toInt) ((x.c 0).toInt) ((x.c 1).toLst) ((x1.c 0).toInt) ((x1.c 1).toLst) ((x1.c 0).toInt) ((x1.c 1).toLst) ((x.c 0).toInt) ((x.c 1).toLst) (l.take (IntKind.i64.wrap ((l.length : Int) - (1 : Int))).toNat)
                              else L32_111104514111111116 a b m ((y.c 0).toInt) ((y.c 1).toInt) ((x.c 0).toInt) ((x.c 1).toLst) ((x1.c 0).toInt) ((x1.c 1).toLst) ((x.c 0).toInt) ((x.c 1).toLst) ((x1.c 0).toInt) ((x1.c 1).toLst) (l.take (IntKind.i64.wrap ((l.length : Int) - (1 : Int))).toNat)
                            else none)
                        else none
                      else none)
                  else none)
              else none)
          else none
        else none)
    else none
  else some (.pv (.tup [.bool true, .int .i64 0]), []) :=
  (LV_eq pa 32 _ _).trans (by kernel_rfl)
theorem e32_111104514111111116 (a : List PV) (b : List PV) (m : List (PV × PV)) (i2 : Int) (i3 : Int) (v : Int) (v1 : List PV) (v2 : Int) (v3 : List PV) (i : Int) (l : List PV) (i1 : Int) (l1 : List PV) (l2 : List PV) : L32_111104514111111116 a b m i2 i3 v v1 v2 v3 i l i1 l1 l2 =
  L32_1111045141111111114 a b l 0 m i2 i3 v v1 v2 v3 i i1 l1 l2 :=
  (LV_eq pa 32 _ _).trans (by kernel_rfl)
theorem e32_1111045141111111114 (a : List PV) (b : List PV) (l : List PV) (i4 : Int) (m : List (PV × PV)) (i2 : Int) (i3 : Int) (v : Int) (v1 : List PV) (v2 : Int) (v3 : List PV) (i : Int) (i1 : Int) (l1 : List PV) (l2 : List PV) : L32_1111045141111111114 a b l i4 m i2 i3 v v1 v2 v3 i i1 l1 l2 =
  bif decide (i4 < (l.length : Int)) then
    bif decide (0 ≤ i4) then
      (l[i4.toNat]?).bind fun x =>
        (bif (Sh.agg [Sh.int .i64, Sh.int .i64]).fits x then
          ((V 74 [.pv (.agg [.int .i64 i1, .lst l1]), .pv (.int .i64 ((x.c 0).toInt))]).bind retPV).bind fun r =>
            (bif (Sh.tup [Sh.int .i64, Sh.bool]).fits r then
              bif (!(r.r 1).toBool) then
                some (.pv (.tup [.bool false, .int .i64 0]), [])
              else ((V 74 [.pv (.agg [.int .i64 v, .lst v1]), .pv (.int .i64 ((x.c 0).toInt))]).bind retPV).bind fun r1 =>
                (bif (Sh.tup [Sh.int .i64, Sh.bool]).fits r1 then
                  ((V 74 [.pv (.agg [.int .i64 v2, .lst v3]), .pv (.int .i64 ((x.c 0).toInt))]).bind retPV).bind fun r2 =>
                    (bif (Sh.tup [Sh.int .i64, Sh.bool]).fits r2 then
                      bif small (l2.length) 1 16 then
                        L32_1111045141111111114 a b l (IntKind.i64.wrap (i4 + (1 : Int))) m i2 i3 v v1 v2 v3 i i1 l1 (l2 ++ [.agg [.int .i64 ((r1.r 0).toInt), .int .i64 ((r2.r 0).toInt)]])
                      else none
                    else none)
                else none)
            else none)
        else none)
    else none
  else L32_111104 a b m l2 :=
  (LV_eq pa 32 _ _).trans (by kernel_rfl)
/-! 73 roadstead/session.both -/
theorem e73 (a : List PV) (b : List PV) : V 73 [.pv (.lst a), .pv (.lst b)] =
  ((V 28 [.pv (.lst a)]).bind retPV).bind fun r =>
    (bif (Sh.int .i64).fits r then
      bif ((r.toInt) != (0 : Int)) then
        some (.pv (.int .i64 r.toInt), [])
      else ((V 28 [.pv (.lst b)]).bind retPV).bind fun r1 =>
        (bif (Sh.int .i64).fits r1 then
          some (.pv (.int .i64 r1.toInt), [])
        else none)
    else none) :=
  (V_eq pa rfl _).trans (by kernel_rfl)
/-! 11 roadstead/session.Same -/
theorem e11 (a : List PV) (b : List PV) : V 11 [.pv (.lst a), .pv (.lst b)] =
  ((V 32 [.pv (.lst a), .pv (.lst b)]).bind retPV).bind fun r =>
    (bif (Sh.tup [Sh.bool, Sh.int .i64]).fits r then
      bif (((r.r 1).toInt) != (0 : Int)) then
        some (.pv (.tup [.bool false, .int .i64 ((r.r 1).toInt)]), [])
      else ((V 32 [.pv (.lst b), .pv (.lst a)]).bind retPV).bind fun r1 =>
        (bif (Sh.tup [Sh.bool, Sh.int .i64]).fits r1 then
          bif (r.r 0).toBool then
            some (.pv (.tup [.bool ((r1.r 0).toBool), .int .i64 0]), [])
          else some (.pv (.tup [.bool false, .int .i64 0]), [])
        else none)
    else none) :=
  (V_eq pa rfl _).trans (by kernel_rfl)
end Go.AL.S2
