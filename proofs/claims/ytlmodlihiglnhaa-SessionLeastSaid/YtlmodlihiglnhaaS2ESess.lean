/- Equations of functions in the abstract machine: printed by gen.py. -/
import Derived.Test.YtlmodlihiglnhaaS2T
set_option linter.unusedVariables false
set_option maxRecDepth 100000
namespace Go.AL.S2
open Go Go.AL
/-! 9 roadstead/roadkeep2.sessions -/
theorem e9  : V 9 [] =
  ((V 27 [.pv (.lst [.agg [.int .i64 1, .lst [.agg [.int .i64 1, .int .i64 1]]], .agg [.int .i64 3, .lst []]])]).bind retPV).bind fun r =>
    (bif (Sh.tup [Sh.lst, Sh.int .i64]).fits r then
      bif (((r.r 1).toInt) == (0 : Int)) then
        bif (((r.r 0).toLst.length : Int) == (2 : Int)) then
          ((r.r 0).toLst[(0 : Int).toNat]?).bind fun x =>
            (bif (Sh.agg [Sh.int .i64, Sh.lst]).fits x then
              some (.pv (.bool (((x.c 0).toInt) == (2 : Int))), [])
            else none)
        else some (.pv (.bool false), [])
      else some (.pv (.bool false), [])
    else none) :=
  (V_eq pa rfl _).trans (by kernel_rfl)
/-! 27 roadstead/session.Dual -/
def st27_111014 (l1 : List PV) (l : List PV) (i1 : Int) : AS :=
  ⟨[.any, .any, .any, .any, .any, .bld 0 0 l1, .any, .any, .any, .any, .any, .any, .any, .pv (.lst l), .pv (.int .i64 (l.length : Int)), .pv (.int .i64 i1), .any, .any, .any, .any, .any, .any, .any, .any, .any, .any, .any, .any, .any, .any, .any, .any, .any, .any, .any, .any, .any], ⟨[], [], [(0, 2)], 0, 0⟩⟩
noncomputable def L27_111014 (l1 : List PV) (l : List PV) (i1 : Int) : Option Out := LV Pr T 27 [1, 1, 1, 0, 1, 4] (st27_111014 l1 l i1)
def st27_11101451104116 (l2 : List PV) (l : List PV) (i2 : Int) (i : Int) (v : List PV) : AS :=
  ⟨[.any, .any, .any, .any, .any, .bld 0 0 l2, .any, .box 0 0, .any, .any, .any, .any, .any, .pv (.lst l), .pv (.int .i64 (l.length : Int)), .pv (.int .i64 i2), .any, .any, .any, .any, .any, .any, .any, .any, .any, .any, .any, .any, .any, .any, .any, .any, .any, .any, .any, .any, .any], ⟨[(false, [.pv (.int .i64 i), .pv (.lst v)])], [], [(0, 2)], 0, 0⟩⟩
noncomputable def L27_11101451104116 (l2 : List PV) (l : List PV) (i2 : Int) (i : Int) (v : List PV) : Option Out := LV Pr T 27 [1, 1, 1, 0, 1, 4, 5, 1, 1, 0, 4, 1, 1, 6] (st27_11101451104116 l2 l i2 i v)
theorem e27 (l : List PV) : V 27 [.pv (.lst l)] =
  ((V 28 [.pv (.lst l)]).bind retPV).bind fun r =>
    (bif (Sh.int .i64).fits r then
      bif ((r.toInt) != (0 : Int)) then
        some (.pv (.tup [.lst [], .int .i64 r.toInt]), [])
      else L27_111014 [] l 0
    else none) :=
  (V_eq pa rfl _).trans (by kernel_rfl)
theorem e27_111014 (l1 : List PV) (l : List PV) (i1 : Int) : L27_111014 l1 l i1 =
  bif decide (i1 < (l.length : Int)) then
    bif decide (0 ≤ i1) then
      (l[i1.toNat]?).bind fun x =>
        (bif (Sh.agg [Sh.int .i64, Sh.lst]).fits x then
          bif (((x.c 0).toInt) == (1 : Int)) then
            L27_11101451104116 l1 l i1 2 ((x.c 1).toLst)
          else bif (((x.c 0).toInt) == (2 : Int)) then
            L27_11101451104116 l1 l i1 1 ((x.c 1).toLst)
          else L27_11101451104116 l1 l i1 ((x.c 0).toInt) ((x.c 1).toLst)
        else none)
    else none
  else some (.pv (.tup [.lst l1, .int .i64 0]), []) :=
  (LV_eq pa 27 _ _).trans (by kernel_rfl)
theorem e27_11101451104116 (l2 : List PV) (l : List PV) (i2 : Int) (i : Int) (v : List PV) : L27_11101451104116 l2 l i2 i v =
  ((V 70 [.pv (.lst v)]).bind retPV).bind fun r =>
    (bif (Sh.lst).fits r then
      bif small (l2.length) 1 32 then
        L27_111014 (l2 ++ [.agg [.int .i64 i, .lst r.toLst]]) l (IntKind.i64.wrap (i2 + (1 : Int)))
      else none
    else none) :=
  (LV_eq pa 27 _ _).trans (by kernel_rfl)
/-! 28 roadstead/session.Check -/
def st28_11014 (l : List PV) (i : Int) : AS :=
  ⟨[.pv (.lst l), .any, .any, .any, .any, .any, .any, .any, .any, .any, .any, .any, .any, .any, .any, .pv (.lst l), .pv (.int .i64 (l.length : Int)), .pv (.int .i64 i), .any, .any, .any, .any, .any, .any, .any, .any, .any, .any, .any, .any, .any, .any, .any, .any, .any, .any, .any, .any, .any, .any, .any, .any, .any, .any, .any, .any, .any, .any, .any, .any, .any, .any, .any, .any, .any, .any, .any, .any, .any, .any, .any, .any, .any, .any, .any, .any, .any, .any, .any, .any, .any, .any, .any, .any, .any, .any, .any, .any, .any, .any, .any, .any, .any, .any, .any, .any, .any], ⟨[], [], [], 0, 0⟩⟩
noncomputable def L28_11014 (l : List PV) (i : Int) : Option Out := LV Pr T 28 [1, 1, 0, 1, 4] (st28_11014 l i)
def st28_110145110411114 (l : List PV) (i1 : Int) (v : List PV) (i : Int) (v1 : Int) : AS :=
  ⟨[.pv (.lst l), .any, .any, .any, .box 0 0, .any, .any, .any, .any, .any, .any, .any, .any, .any, .any, .pv (.lst l), .pv (.int .i64 (l.length : Int)), .pv (.int .i64 i1), .any, .any, .any, .any, .any, .any, .any, .any, .any, .any, .any, .any, .any, .any, .any, .any, .any, .any, .any, .any, .any, .any, .any, .any, .any, .any, .pv (.lst v), .pv (.int .i64 (v.length : Int)), .pv (.int .i64 i), .any, .any, .any, .any, .any, .any, .any, .any, .any, .any, .any, .any, .any, .any, .any, .any, .any, .any, .any, .any, .any, .any, .any, .any, .any, .any, .any, .any, .any, .any, .any, .any, .any, .any, .any, .any, .any, .any, .any, .any], ⟨[(false, [.pv (.int .i64 v1), .pv (.lst v)])], [], [], 0, 0⟩⟩
noncomputable def L28_110145110411114 (l : List PV) (i1 : Int) (v : List PV) (i : Int) (v1 : Int) : Option Out := LV Pr T 28 [1, 1, 0, 1, 4, 5, 1, 1, 0, 4, 1, 1, 1, 1, 4] (st28_110145110411114 l i1 v i v1)
theorem e28 (l : List PV) : V 28 [.pv (.lst l)] =
  bif ((l.length : Int) == (0 : Int)) then
    some (.pv (.int .i64 2), [])
  else bif decide ((l.length : Int) > (16 : Int)) then
    some (.pv (.int .i64 2), [])
  else L28_11014 l 0 :=
  (V_eq pa rfl _).trans (by kernel_rfl)
theorem e28_11014 (l : List PV) (i : Int) : L28_11014 l i =
  bif decide (i < (l.length : Int)) then
    bif decide (0 ≤ i) then
      (l[i.toNat]?).bind fun x =>
        (bif (Sh.agg [Sh.int .i64, Sh.lst]).fits x then
          bif decide (((x.c 0).toInt) < (1 : Int)) then
            some (.pv (.int .i64 3), [])
          else bif decide (((x.c 0).toInt) > (3 : Int)) then
            some (.pv (.int .i64 3), [])
          else bif (!((((x.c 0).toInt) == (3 : Int)) == (((x.c 1).toLst.length : Int) == (0 : Int)))) then
            some (.pv (.int .i64 3), [])
          else bif decide (((x.c 1).toLst.length : Int) > (6 : Int)) then
            some (.pv (.int .i64 2), [])
          else L28_110145110411114 l i ((x.c 1).toLst) 0 ((x.c 0).toInt)
        else none)
    else none
  else some (.pv (.int .i64 0), []) :=
  (LV_eq pa 28 _ _).trans (by kernel_rfl)
theorem e28_110145110411114 (l : List PV) (i1 : Int) (v : List PV) (i : Int) (v1 : Int) : L28_110145110411114 l i1 v i v1 =
  bif decide (i < (v.length : Int)) then
    bif decide (0 ≤ i) then
      (v[i.toNat]?).bind fun x =>
        (bif (Sh.agg [Sh.int .i64, Sh.int .i64]).fits x then
          bif decide (((x.c 0).toInt) < (0 : Int)) then
            some (.pv (.int .i64 1), [])
          else bif decide (((x.c 0).toInt) > (20 : Int)) then
            some (.pv (.int .i64 1), [])
          else bif decide (((x.c 1).toInt) < (0 : Int)) then
            some (.pv (.int .i64 1), [])
          else bif decide (((x.c 1).toInt) ≥ (l.length : Int)) then
            some (.pv (.int .i64 1), [])
          else bif decide (i > (0 : Int)) then
            bif decide (0 ≤ (IntKind.i64.wrap (i - (1 : Int)))) then
              (v[(IntKind.i64.wrap (i - (1 : Int))).toNat]?).bind fun x1 =>
                (bif (Sh.agg [Sh.int .i64, Sh.int .i64]).fits x1 then
                  bif decide (((x1.c 0).toInt) ≥ ((x.c 0).toInt)) then
                    some (.pv (.int .i64 3), [])
                  else L28_110145110411114 l i1 v (IntKind.i64.wrap (i + (1 : Int))) v1
                else none)
            else none
          else L28_110145110411114 l i1 v (IntKind.i64.wrap (i + (1 : Int))) v1
        else none)
    else none
  else L28_11014 l (IntKind.i64.wrap (i1 + (1 : Int))) :=
  (LV_eq pa 28 _ _).trans (by kernel_rfl)
/-! 74 roadstead/session.next -/
def st74_1014 (msg : Int) (s_Branches : List PV) (i : Int) : AS :=
  ⟨[.any, .pv (.int .i64 msg), .any, .any, .any, .any, .any, .any, .any, .pv (.lst s_Branches), .pv (.int .i64 (s_Branches.length : Int)), .pv (.int .i64 i), .any, .any, .any, .any, .any, .any, .any, .any, .any, .any], ⟨[], [], [], 0, 0⟩⟩
noncomputable def L74_1014 (msg : Int) (s_Branches : List PV) (i : Int) : Option Out := LV Pr T 74 [1, 0, 1, 4] (st74_1014 msg s_Branches i)
theorem e74 (s_Kind : Int) (s_Branches : List PV) (msg : Int) : V 74 [.pv (.agg [.int .i64 s_Kind, .lst s_Branches]), .pv (.int .i64 msg)] =
  L74_1014 msg s_Branches 0 :=
  (V_eq pa rfl _).trans (by kernel_rfl)
theorem e74_1014 (msg : Int) (s_Branches : List PV) (i : Int) : L74_1014 msg s_Branches i =
  bif decide (i < (s_Branches.length : Int)) then
    bif decide (0 ≤ i) then
      (s_Branches[i.toNat]?).bind fun x =>
        (bif (Sh.agg [Sh.int .i64, Sh.int .i64]).fits x then
          bif (((x.c 0).toInt) == msg) then
            some (.pv (.tup [.int .i64 ((x.c 1).toInt), .bool true]), [])
          else L74_1014 msg s_Branches (IntKind.i64.wrap (i + (1 : Int)))
        else none)
    else none
  else some (.pv (.tup [.int .i64 0, .bool false]), []) :=
  (LV_eq pa 74 _ _).trans (by kernel_rfl)
end Go.AL.S2
