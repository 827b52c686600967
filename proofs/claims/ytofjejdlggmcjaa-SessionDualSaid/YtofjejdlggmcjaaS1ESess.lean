/- Equations of functions in the abstract machine: printed by gen.py. -/
import Derived.Test.YtofjejdlggmcjaaS1T
set_option linter.unusedVariables false
set_option maxRecDepth 100000
namespace Go.AL.S1
open Go Go.AL
/-! 5 roadstead/roadkeep2.SessionAfter -/
def st5_11111014 (a : List PV) (words : List PV) (v : List PV) (l : List PV) (i : Int) : AS :=
  ⟨[.pv (.lst a), .pv (.lst words), .any, .any, .any, .pv (.lst v), .any, .bld 0 0 l, .any, .any, .any, .any, .any, .any, .any, .any, .any, .any, .any, .any, .any, .any, .any, .any, .any, .any, .pv (.lst words), .pv (.int .i64 (words.length : Int)), .pv (.int .i64 i), .any, .any, .any, .any, .any, .any, .any, .any, .any, .any, .any, .any, .any, .any, .any, .any, .any, .any, .any, .any, .any, .any, .any, .any, .any, .any, .any, .any, .any, .any, .any, .any, .any], ⟨[], [], [(0, 2)], 0, 0⟩⟩
noncomputable def L5_11111014 (a : List PV) (words : List PV) (v : List PV) (l : List PV) (i : Int) : Option Out := LV Pr T 5 [1, 1, 1, 1, 1, 0, 1, 4] (st5_11111014 a words v l i)
theorem e5 (a : List PV) (words : List PV) : V 5 [.pv (.lst a), .pv (.lst words)] =
  ((V 24 []).bind retPV).bind fun r =>
    (bif (Sh.bool).fits r then
      bif (!r.toBool) then
        some (.pv (.bool false), [])
      else ((V 25 [.pv (.lst a)]).bind retPV).bind fun r1 =>
        (bif (Sh.tup [Sh.lst, Sh.int .i64]).fits r1 then
          bif (((r1.r 1).toInt) != (0 : Int)) then
            some (.pv (.bool (((r1.r 0).toLst.length : Int) == (0 : Int))), [])
          else L5_11111014 a words ((r1.r 0).toLst) [] 0
        else none)
    else none) :=
  (V_eq pa rfl _).trans (by kernel_rfl)
theorem e5_11111014 (a : List PV) (words : List PV) (v : List PV) (l : List PV) (i : Int) : L5_11111014 a words v l i =
  bif decide (i < (words.length : Int)) then
    bif decide (0 ≤ i) then
      (words[i.toNat]?).bind fun x =>
        (bif (Sh.agg [Sh.bool, Sh.int .i64]).fits x then
          bif small (l.length) 1 16 then
            L5_11111014 a words v (l ++ [.agg [.bool (!(x.c 0).toBool), .int .i64 ((x.c 1).toInt)]]) (IntKind.i64.wrap (i + (1 : Int)))
          else none
        else none)
    else none
  else ((V 26 [.pv (.lst a), .pv (.lst words)]).bind retPV).bind fun r =>
    (bif (Sh.tup [Sh.int .i64, Sh.int .i64]).fits r then
      ((V 26 [.pv (.lst v), .pv (.lst l)]).bind retPV).bind fun r1 =>
        (bif (Sh.tup [Sh.int .i64, Sh.int .i64]).fits r1 then
          bif (((r.r 1).toInt) == ((r1.r 1).toInt)) then
            some (.pv (.bool (((r.r 0).toInt) == ((r1.r 0).toInt))), [])
          else some (.pv (.bool false), [])
        else none)
    else none) :=
  (LV_eq pa 5 _ _).trans (by kernel_rfl)
/-! 24 roadstead/roadkeep2.sessions -/
theorem e24  : V 24 [] =
  ((V 25 [.pv (.lst [.agg [.int .i64 1, .lst [.agg [.int .i64 1, .int .i64 1]]], .agg [.int .i64 3, .lst []]])]).bind retPV).bind fun r =>
    (bif (Sh.tup [Sh.lst, Sh.int .i64]).fits r then
      bif (((r.r 1).toInt) == (0 : Int)) then
        bif (((r.r 0).toLst.length : Int) == (2 : Int)) then
          ((r.r 0).toLst[(0 : Int).toNat]?).bind fun x =>
            (bif (Sh.agg [Sh.int .i64, Sh.lst]).fits x then
              some (.pv (.bool (((x.c 0).toInt) == (2 : Int))), [])
            else none)
        else some (.pv (.bool false), [])
      else some (.pv (.bool false), [])
    else none) :=
  (V_eq pa rfl _).trans (by kernel_rfl)
/-! 25 roadstead/session.Dual -/
def st25_111014 (l1 : List PV) (l : List PV) (i1 : Int) : AS :=
  ⟨[.any, .any, .any, .any, .any, .bld 0 0 l1, .any, .any, .any, .any, .any, .any, .any, .pv (.lst l), .pv (.int .i64 (l.length : Int)), .pv (.int .i64 i1), .any, .any, .any, .any, .any, .any, .any, .any, .any, .any, .any, .any, .any, .any, .any, .any, .any, .any, .any, .any, .any], ⟨[], [], [(0, 2)], 0, 0⟩⟩
noncomputable def L25_111014 (l1 : List PV) (l : List PV) (i1 : Int) : Option Out := LV Pr T 25 [1, 1, 1, 0, 1, 4] (st25_111014 l1 l i1)
def st25_11101451104116 (l2 : List PV) (l : List PV) (i2 : Int) (i : Int) (v : List PV) : AS :=
  ⟨[.any, .any, .any, .any, .any, .bld 0 0 l2, .any, .box 0 0, .any, .any, .any, .any, .any, .pv (.lst l), .pv (.int .i64 (l.length : Int)), .pv (.int .i64 i2), .any, .any, .any, .any, .any, .any, .any, .any, .any, .any, .any, .any, .any, .any, .any, .any, .any, .any, .any, .any, .any], ⟨[(false, [.pv (.int .i64 i), .pv (.lst v)])], [], [(0, 2)], 0, 0⟩⟩
noncomputable def L25_11101451104116 (l2 : List PV) (l : List PV) (i2 : Int) (i : Int) (v : List PV) : Option Out := LV Pr T 25 [1, 1, 1, 0, 1, 4, 5, 1, 1, 0, 4, 1, 1, 6] (st25_11101451104116 l2 l i2 i v)
theorem e25 (l : List PV) : V 25 [.pv (.lst l)] =
  ((V 34 [.pv (.lst l)]).bind retPV).bind fun r =>
    (bif (Sh.int .i64).fits r then
      bif ((r.toInt) != (0 : Int)) then
        some (.pv (.tup [.lst [], .int .i64 r.toInt]), [])
      else L25_111014 [] l 0
    else none) :=
  (V_eq pa rfl _).trans (by kernel_rfl)
theorem e25_111014 (l1 : List PV) (l : List PV) (i1 : Int) : L25_111014 l1 l i1 =
  bif decide (i1 < (l.length : Int)) then
    bif decide (0 ≤ i1) then
      (l[i1.toNat]?).bind fun x =>
        (bif (Sh.agg [Sh.int .i64, Sh.lst]).fits x then
          bif (((x.c 0).toInt) == (1 : Int)) then
            L25_11101451104116 l1 l i1 2 ((x.c 1).toLst)
          else bif (((x.c 0).toInt) == (2 : Int)) then
            L25_11101451104116 l1 l i1 1 ((x.c 1).toLst)
          else L25_11101451104116 l1 l i1 ((x.c 0).toInt) ((x.c 1).toLst)
        else none)
    else none
  else some (.pv (.tup [.lst l1, .int .i64 0]), []) :=
  (LV_eq pa 25 _ _).trans (by kernel_rfl)
theorem e25_11101451104116 (l2 : List PV) (l : List PV) (i2 : Int) (i : Int) (v : List PV) : L25_11101451104116 l2 l i2 i v =
  ((V 65 [.pv (.lst v)]).bind retPV).bind fun r =>
    (bif (Sh.lst).fits r then
      bif small (l2.length) 1 32 then
        L25_111014 (l2 ++ [.agg [.int .i64 i, .lst r.toLst]]) l (IntKind.i64.wrap (i2 + (1 : Int)))
      else none
    else none) :=
  (LV_eq pa 25 _ _).trans (by kernel_rfl)
/-! 26 roadstead/session.After -/
def st26_111014 (l : List PV) (i : Int) (words : List PV) (i1 : Int) : AS :=
  ⟨[.pv (.lst l), .any, .any, .any, .any, .any, .any, .pv (.int .i64 i), .any, .any, .any, .any, .any, .any, .any, .any, .any, .any, .pv (.lst words), .pv (.int .i64 (words.length : Int)), .pv (.int .i64 i1), .any, .any, .any, .any, .any, .any, .any, .any, .any, .any, .any, .any, .any, .any, .any, .any, .any, .any, .any, .any, .any, .any, .any, .any, .any, .any, .any, .any, .any, .any], ⟨[], [], [], 0, 0⟩⟩
noncomputable def L26_111014 (l : List PV) (i : Int) (words : List PV) (i1 : Int) : Option Out := LV Pr T 26 [1, 1, 1, 0, 1, 4] (st26_111014 l i words i1)
theorem e26 (l : List PV) (words : List PV) : V 26 [.pv (.lst l), .pv (.lst words)] =
  ((V 34 [.pv (.lst l)]).bind retPV).bind fun r =>
    (bif (Sh.int .i64).fits r then
      bif ((r.toInt) != (0 : Int)) then
        some (.pv (.tup [.int .i64 0, .int .i64 r.toInt]), [])
      else L26_111014 l 0 words 0
    else none) :=
  (V_eq pa rfl _).trans (by kernel_rfl)
theorem e26_111014 (l : List PV) (i : Int) (words : List PV) (i1 : Int) : L26_111014 l i words i1 =
  bif decide (i1 < (words.length : Int)) then
    bif decide (0 ≤ i1) then
      (words[i1.toNat]?).bind fun x =>
        (bif (Sh.agg [Sh.bool, Sh.int .i64]).fits x then
          bif decide (0 ≤ i) then
            (l[i.toNat]?).bind fun x1 =>
              (bif (Sh.agg [Sh.int .i64, Sh.lst]).fits x1 then
                bif (((x1.c 0).toInt) == (3 : Int)) then
                  some (.pv (.tup [.int .i64 0, .int .i64 8]), [])
                else bif (!((((x1.c 0).toInt) == (1 : Int)) == (x.c 0).toBool)) then
                  some (.pv (.tup [.int .i64 0, .int .i64 8]), [])
                else ((V 66 [.pv (.agg [.int .i64 ((x1.c 0).toInt), .lst ((x1.c 1).toLst)]), .pv (.int .i64 ((x.c 1).toInt))]).bind retPV).bind fun r =>
                  (bif (Sh.tup [Sh.int .i64, Sh.bool]).fits r then
                    bif (!(r.r 1).toBool) then
                      some (.pv (.tup [.int .i64 0, .int .i64 4]), [])
                    else L26_111014 l ((r.r 0).toInt) words (IntKind.i64.wrap (i1 + (1 : Int)))
                  else none)
              else none)
          else none
        else none)
    else none
  else some (.pv (.tup [.int .i64 i, .int .i64 0]), []) :=
  (LV_eq pa 26 _ _).trans (by kernel_rfl)
/-! 34 roadstead/session.Check -/
def st34_11014 (l : List PV) (i : Int) : AS :=
  ⟨[.pv (.lst l), .any, .any, .any, .any, .any, .any, .any, .any, .any, .any, .any, .any, .any, .any, .pv (.lst l), .pv (.int .i64 (l.length : Int)), .pv (.int .i64 i), .any, .any, .any, .any, .any, .any, .any, .any, .any, .any, .any, .any, .any, .any, .any, .any, .any, .any, .any, .any, .any, .any, .any, .any, .any, .any, .any, .any, .any, .any, .any, .any, .any, .any, .any, .any, .any, .any, .any, .any, .any, .any, .any, .any, .any, .any, .any, .any, .any, .any, .any, .any, .any, .any, .any, .any, .any, .any, .any, .any, .any, .any, .any, .any, .any, .any, .any, .any, .any], ⟨[], [], [], 0, 0⟩⟩
noncomputable def L34_11014 (l : List PV) (i : Int) : Option Out := LV Pr T 34 [1, 1, 0, 1, 4] (st34_11014 l i)
def st34_110145110411114 (l : List PV) (i1 : Int) (v : List PV) (i : Int) (v1 : Int) : AS :=
  ⟨[.pv (.lst l), .any, .any, .any, .box 0 0, .any, .any, .any, .any, .any, .any, .any, .any, .any, .any, .pv (.lst l), .pv (.int .i64 (l.length : Int)), .pv (.int .i64 i1), .any, .any, .any, .any, .any, .any, .any, .any, .any, .any, .any, .any, .any, .any, .any, .any, .any, .any, .any, .any, .any, .any, .any, .any, .any, .any, .pv (.lst v), .pv (.int .i64 (v.length : Int)), .pv (.int .i64 i), .any, .any, .any, .any, .any, .any, .any, .any, .any, .any, .any, .any, .any, .any, .any, .any, .any, .any, .any, .any, .any, .any, .any, .any, .any, .any, .any, .any, .any, .any, .any, .any, .any, .any, .any, .any, .any, .any, .any, .any], ⟨[(false, [.pv (.int .i64 v1), .pv (.lst v)])], [], [], 0, 0⟩⟩
noncomputable def L34_110145110411114 (l : List PV) (i1 : Int) (v : List PV) (i : Int) (v1 : Int) : Option Out := LV Pr T 34 [1, 1, 0, 1, 4, 5, 1, 1, 0, 4, 1, 1, 1, 1, 4] (st34_110145110411114 l i1 v i v1)
theorem e34 (l : List PV) : V 34 [.pv (.lst l)] =
  bif ((l.length : Int) == (0 : Int)) then
    some (.pv (.int .i64 2), [])
  else bif decide ((l.length : Int) > (16 : Int)) then
    some (.pv (.int .i64 2), [])
  else L34_11014 l 0 :=
  (V_eq pa rfl _).trans (by kernel_rfl)
theorem e34_11014 (l : List PV) (i : Int) : L34_11014 l i =
  bif decide (i < (l.length : Int)) then
    bif decide (0 ≤ i) then
      (l[i.toNat]?).bind fun x =>
        (bif (Sh.agg [Sh.int .i64, Sh.lst]).fits x then
          bif decide (((x.c 0).toInt) < (1 : Int)) then
            some (.pv (.int .i64 3), [])
          else bif decide (((x.c 0).toInt) > (3 : Int)) then
            some (.pv (.int .i64 3), [])
          else bif (!((((x.c 0).toInt) == (3 : Int)) == (((x.c 1).toLst.length : Int) == (0 : Int)))) then
            some (.pv (.int .i64 3), [])
          else bif decide (((x.c 1).toLst.length : Int) > (6 : Int)) then
            some (.pv (.int .i64 2), [])
          else L34_110145110411114 l i ((x.c 1).toLst) 0 ((x.c 0).toInt)
        else none)
    else none
  else some (.pv (.int .i64 0), []) :=
  (LV_eq pa 34 _ _).trans (by kernel_rfl)
theorem e34_110145110411114 (l : List PV) (i1 : Int) (v : List PV) (i : Int) (v1 : Int) : L34_110145110411114 l i1 v i v1 =
  bif decide (i < (v.length : Int)) then
    bif decide (0 ≤ i) then
      (v[i.toNat]?).bind fun x =>
        (bif (Sh.agg [Sh.int .i64, Sh.int .i64]).fits x then
          bif decide (((x.c 0).toInt) < (0 : Int)) then
            some (.pv (.int .i64 1), [])
          else bif decide (((x.c 0).toInt) > (20 : Int)) then
            some (.pv (.int .i64 1), [])
          else bif decide (((x.c 1).toInt) < (0 : Int)) then
            some (.pv (.int .i64 1), [])
          else bif decide (((x.c 1).toInt) ≥ (l.length : Int)) then
            some (.pv (.int .i64 1), [])
          else bif decide (i > (0 : Int)) then
            bif decide (0 ≤ (IntKind.i64.wrap (i - (1 : Int)))) then
              (v[(IntKind.i64.wrap (i - (1 : Int))).toNat]?).bind fun x1 =>
                (bif (Sh.agg [Sh.int .i64, Sh.int .i64]).fits x1 then
                  bif decide (((x1.c 0).toInt) ≥ ((x.c 0).toInt)) then
                    some (.pv (.int .i64 3), [])
                  else L34_110145110411114 l i1 v (IntKind.i64.wrap (i + (1 : Int))) v1
                else none)
            else none
          else L34_110145110411114 l i1 v (IntKind.i64.wrap (i + (1 : Int))) v1
        else none)
    else none
  else L34_11014 l (IntKind.i64.wrap (i1 + (1 : Int))) :=
  (LV_eq pa 34 _ _).trans (by kernel_rfl)
/-! 66 roadstead/session.next -/
def st66_1014 (msg : Int) (s_Branches : List PV) (i : Int) : AS :=
  ⟨[.any, .pv (.int .i64 msg), .any, .any, .any, .any, .any, .any, .any, .pv (.lst s_Branches), .pv (.int .i64 (s_Branches.length : Int)), .pv (.int .i64 i), .any, .any, .any, .any, .any, .any, .any, .any, .any, .any], ⟨[], [], [], 0, 0⟩⟩
noncomputable def L66_1014 (msg : Int) (s_Branches : List PV) (i : Int) : Option Out := LV Pr T 66 [1, 0, 1, 4] (st66_1014 msg s_Branches i)
theorem e66 (s_Kind : Int) (s_Branches : List PV) (msg : Int) : V 66 [.pv (.agg [.int .i64 s_Kind, .lst s_Branches]), .pv (.int .i64 msg)] =
  L66_1014 msg s_Branches 0 :=
  (V_eq pa rfl _).trans (by kernel_rfl)
theorem e66_1014 (msg : Int) (s_Branches : List PV) (i : Int) : L66_1014 msg s_Branches i =
  bif decide (i < (s_Branches.length : Int)) then
    bif decide (0 ≤ i) then
      (s_Branches[i.toNat]?).bind fun x =>
        (bif (Sh.agg [Sh.int .i64, Sh.int .i64]).fits x then
          bif (((x.c 0).toInt) == msg) then
            some (.pv (.tup [.int .i64 ((x.c 1).toInt), .bool true]), [])
          else L66_1014 msg s_Branches (IntKind.i64.wrap (i + (1 : Int)))
        else none)
    else none
  else some (.pv (.tup [.int .i64 0, .bool false]), []) :=
  (LV_eq pa 66 _ _).trans (by kernel_rfl)
end Go.AL.S1
