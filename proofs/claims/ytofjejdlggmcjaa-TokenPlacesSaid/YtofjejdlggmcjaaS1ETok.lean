/- Equations of functions in the abstract machine: printed by gen.py. -/
import Derived.Test.YtofjejdlggmcjaaS1T
set_option linter.unusedVariables false
set_option maxRecDepth 100000
namespace Go.AL.S1
open Go Go.AL
/-! 12 roadstead/roadkeep2.TokenPlaces -/
def st12_1111014 (s : List UInt8) (v : List PV) (v1 : Int) (v2 : Int) (i : Int) : AS :=
  ⟨[.pv (.str s), .any, .any, .pv (.lst v), .pv (.int .i64 v1), .pv (.int .i64 v2), .any, .any, .any, .any, .any, .any, .any, .any, .any, .any, .any, .any, .any, .any, .any, .any, .any, .any, .pv (.lst v), .pv (.int .i64 (v.length : Int)), .pv (.int .i64 i), .any, .any, .any, .any, .any, .any, .any, .any, .any, .any, .any, .any, .any, .any, .any, .any, .any, .any, .any, .any, .any, .any, .any, .any, .any, .any, .any, .any, .any, .any, .any, .any, .any, .any, .any, .any, .any, .any, .any, .any, .any, .any, .any, .any, .any, .any, .any, .any, .any, .any, .any, .any], ⟨[], [], []⟩⟩
noncomputable def L12_1111014 (s : List UInt8) (v : List PV) (v1 : Int) (v2 : Int) (i : Int) : Option Out := LV Pr T 12 [1, 1, 1, 1, 0, 1, 4] (st12_1111014 s v v1 v2 i)
theorem e12 (s : List UInt8) : V 12 [.pv (.str s)] =
  ((V 41 []).bind retPV).bind fun r =>
    (bif (Sh.bool).fits r then
      bif (!r.toBool) then
        some (.pv (.bool false), [])
      else ((V 42 [.pv (.str s)]).bind retPV).bind fun r1 =>
        (bif (Sh.tup [Sh.lst, Sh.int .i64, Sh.int .i64]).fits r1 then
          bif (((r1.r 2).toInt) == (2 : Int)) then
            some (.pv (.bool (decide ((s.length : Int) > (4000 : Int)))), [])
          else L12_1111014 s ((r1.r 0).toLst) ((r1.r 1).toInt) ((r1.r 2).toInt) 0
        else none)
    else none) :=
  (V_eq pa rfl _).trans (by kernel_rfl)
theorem e12_1111014 (s : List UInt8) (v : List PV) (v1 : Int) (v2 : Int) (i : Int) : L12_1111014 s v v1 v2 i =
  bif decide (i < (v.length : Int)) then
    bif decide (0 ≤ i) then
      (v[i.toNat]?).bind fun x =>
        (bif (Sh.agg [Sh.int .i64, Sh.str, Sh.int .i64]).fits x then
          bif decide (((x.c 2).toInt) < (0 : Int)) then
            some (.pv (.bool false), [])
          else bif decide (((x.c 2).toInt) ≥ (s.length : Int)) then
            some (.pv (.bool false), [])
          else bif decide (i > (0 : Int)) then
            bif decide (0 ≤ (IntKind.i64.wrap (i - (1 : Int)))) then
              (v[(IntKind.i64.wrap (i - (1 : Int))).toNat]?).bind fun x1 =>
                (bif (Sh.agg [Sh.int .i64, Sh.str, Sh.int .i64]).fits x1 then
                  bif decide (((x.c 2).toInt) ≤ ((x1.c 2).toInt)) then
                    some (.pv (.bool false), [])
                  else L12_1111014 s v v1 v2 (IntKind.i64.wrap (i + (1 : Int)))
                else none)
            else none
          else L12_1111014 s v v1 v2 (IntKind.i64.wrap (i + (1 : Int)))
        else none)
    else none
  else bif (v2 == (0 : Int)) then
    some (.pv (.bool (v1 == (0 : Int))), [])
  else bif decide (v1 < (0 : Int)) then
    some (.pv (.bool false), [])
  else bif decide (v1 ≥ (s.length : Int)) then
    some (.pv (.bool false), [])
  else bif (decide (0 ≤ v1) && decide (v1 ≤ (s.length : Int))) then
    ((V 42 [.pv (.str (s.take v1.toNat))]).bind retPV).bind fun r =>
      (bif (Sh.tup [Sh.lst, Sh.int .i64, Sh.int .i64]).fits r then
        some (.pv (.bool (((r.r 2).toInt) == (0 : Int))), [])
      else none)
  else none :=
  (LV_eq pa 12 _ _).trans (by kernel_rfl)
/-! 42 roadstead/token.Read -/
def st42_111014 (s : List UInt8) (l : List PV) (v : Int) : AS :=
  ⟨[.pv (.str s), .any, .any, .any, .any, .bld 0 0 l, .pv (.int .i64 v), .any, .any, .any, .any, .any, .any, .any, .any, .any, .any, .any, .any, .any, .any, .any, .any, .any, .any, .any, .any, .any, .any, .any, .any, .any, .any, .any, .any, .any, .any, .any], ⟨[], [], [(0, 3)]⟩⟩
noncomputable def L42_111014 (s : List UInt8) (l : List PV) (v : Int) : Option Out := LV Pr T 42 [1, 1, 1, 0, 1, 4] (st42_111014 s l v)
theorem e42 (s : List UInt8) : V 42 [.pv (.str s)] =
  bif decide ((s.length : Int) > (4000 : Int)) then
    some (.pv (.tup [.lst [], .int .i64 0, .int .i64 2]), [])
  else ((V 84 [.pv (.str s), .pv (.int .i64 0)]).bind retPV).bind fun r =>
    (bif (Sh.int .i64).fits r then
      L42_111014 s [] r.toInt
    else none) :=
  (V_eq pa rfl _).trans (by kernel_rfl)
theorem e42_111014 (s : List UInt8) (l : List PV) (v : Int) : L42_111014 s l v =
  bif decide (v < (s.length : Int)) then
    ((V 85 [.pv (.str s), .pv (.int .i64 v)]).bind retPV).bind fun r =>
      (bif (Sh.tup [Sh.agg [Sh.int .i64, Sh.str, Sh.int .i64], Sh.int .i64, Sh.bool]).fits r then
        bif (!(r.r 2).toBool) then
          some (.pv (.tup [.lst [], .int .i64 v, .int .i64 10]), [])
        else bif small (l.length) 1 32 then
          ((V 84 [.pv (.str s), .pv (.int .i64 ((r.r 1).toInt))]).bind retPV).bind fun r1 =>
            (bif (Sh.int .i64).fits r1 then
              L42_111014 s (l ++ [.agg [.int .i64 (((r.r 0).c 0).toInt), .str (((r.r 0).c 1).toStr), .int .i64 (((r.r 0).c 2).toInt)]]) r1.toInt
            else none)
        else none
      else none)
  else some (.pv (.tup [.lst l, .int .i64 0, .int .i64 0]), []) :=
  (LV_eq pa 42 _ _).trans (by kernel_rfl)
/-! 84 roadstead/token.skip -/
def st84_104 (s : List UInt8) (i : Int) : AS :=
  ⟨[.pv (.str s), .pv (.int .i64 i), .any, .any, .any, .any, .any, .any, .any, .any, .any, .any, .any, .any, .any, .any, .any, .any, .any, .any, .any, .any, .any, .any, .any, .any, .any, .any, .any, .any, .any, .any, .any, .any], ⟨[], [], []⟩⟩
noncomputable def L84_104 (s : List UInt8) (i : Int) : Option Out := LV Pr T 84 [1, 0, 4] (st84_104 s i)
def st84_1045141416 (s : List UInt8) (i : Int) (c : UInt8) (b : Bool) : AS :=
  ⟨[.pv (.str s), .pv (.int .i64 i), .any, .any, .any, .any, .any, .any, .any, .any, .any, .pv (.int .u8 (c.toNat : Int)), .any, .pv (.bool b), .any, .any, .any, .any, .any, .any, .any, .any, .any, .any, .any, .any, .any, .any, .any, .any, .any, .any, .any, .any], ⟨[], [], []⟩⟩
noncomputable def L84_1045141416 (s : List UInt8) (i : Int) (c : UInt8) (b : Bool) : Option Out := LV Pr T 84 [1, 0, 4, 5, 1, 4, 1, 4, 1, 6] (st84_1045141416 s i c b)
def st84_1045141413124 (s : List UInt8) (i : Int) : AS :=
  ⟨[.pv (.str s), .pv (.int .i64 i), .any, .any, .any, .any, .any, .any, .any, .any, .any, .any, .any, .any, .any, .any, .any, .any, .any, .any, .any, .any, .any, .any, .any, .any, .any, .any, .any, .any, .any, .any, .any, .any], ⟨[], [], []⟩⟩
noncomputable def L84_1045141413124 (s : List UInt8) (i : Int) : Option Out := LV Pr T 84 [1, 0, 4, 5, 1, 4, 1, 4, 1, 3, 1, 2, 4] (st84_1045141413124 s i)
theorem e84 (s : List UInt8) (i : Int) : V 84 [.pv (.str s), .pv (.int .i64 i)] =
  L84_104 s i :=
  (V_eq pa rfl _).trans (by kernel_rfl)
theorem e84_104 (s : List UInt8) (i : Int) : L84_104 s i =
  bif decide (i < (s.length : Int)) then
    bif decide (0 ≤ i) then
      (s[i.toNat]?).bind fun c =>
        (bif ((c.toNat : Int) == (32 : Int)) then
          L84_1045141416 s i c ((c.toNat : Int) == (32 : Int))
        else bif ((c.toNat : Int) == (9 : Int)) then
          L84_1045141416 s i c ((c.toNat : Int) == (9 : Int))
        else L84_1045141416 s i c ((c.toNat : Int) == (10 : Int)))
    else none
  else some (.pv (.int .i64 i), []) :=
  (LV_eq pa 84 _ _).trans (by kernel_rfl)
theorem e84_1045141416 (s : List UInt8) (i : Int) (c : UInt8) (b : Bool) : L84_1045141416 s i c b =
  bif b then
    L84_104 s (IntKind.i64.wrap (i + (1 : Int)))
  else bif ((c.toNat : Int) == (35 : Int)) then
    L84_1045141413124 s i
  else some (.pv (.int .i64 i), []) :=
  (LV_eq pa 84 _ _).trans (by kernel_rfl)
theorem e84_1045141413124 (s : List UInt8) (i : Int) : L84_1045141413124 s i =
  bif decide (i < (s.length : Int)) then
    bif decide (0 ≤ i) then
      (s[i.toNat]?).bind fun c =>
        (bif ((c.toNat : Int) != (10 : Int)) then
          L84_1045141413124 s (IntKind.i64.wrap (i + (1 : Int)))
        else L84_104 s i)
    else none
  else L84_104 s i :=
  (LV_eq pa 84 _ _).trans (by kernel_rfl)
/-! 85 roadstead/token.next -/
def st85_1110416 (s : List UInt8) (i : Int) (c : UInt8) (b : Bool) : AS :=
  ⟨[.pv (.str s), .pv (.int .i64 i), .any, .any, .box 0 0, .any, .any, .pv (.int .u8 (c.toNat : Int)), .pv (.int .i64 i), .any, .any, .any, .any, .any, .any, .any, .any, .any, .pv (.bool b), .any, .any, .any, .any, .any, .any, .any, .any, .any, .any, .any, .any, .any, .any, .any, .any, .any, .any, .any, .any, .any, .any, .any, .any, .any, .any, .any, .any, .any, .any, .any, .any, .any, .any, .any, .any, .any, .any, .any, .any, .any, .any, .any, .any, .any, .any, .any, .any, .any, .any, .any, .any, .any, .any, .any, .any, .any, .any, .any, .any, .any, .any, .any, .any, .any, .any, .any, .any, .any, .any, .any, .any, .any, .any, .any, .any, .any, .any, .any, .any, .any, .any, .any, .any, .any, .any, .any, .any, .any, .any, .any, .any, .any, .any, .any, .any, .any], ⟨[(false, [.pv (.int .i64 0), .pv (.str []), .pv (.int .i64 0)])], [], []⟩⟩
noncomputable def L85_1110416 (s : List UInt8) (i : Int) (c : UInt8) (b : Bool) : Option Out := LV Pr T 85 [1, 1, 1, 0, 4, 1, 6] (st85_1110416 s i c b)
def st85_111041204 (s : List UInt8) (i : Int) (c : UInt8) (i1 : Int) : AS :=
  ⟨[.pv (.str s), .pv (.int .i64 i), .any, .any, .box 0 0, .any, .any, .pv (.int .u8 (c.toNat : Int)), .pv (.int .i64 i1), .any, .any, .any, .any, .any, .any, .any, .any, .any, .any, .any, .any, .any, .any, .any, .any, .any, .any, .any, .any, .any, .any, .any, .any, .any, .any, .any, .any, .any, .any, .any, .any, .any, .any, .any, .any, .any, .any, .any, .any, .any, .any, .any, .any, .any, .any, .any, .any, .any, .any, .any, .any, .any, .any, .any, .any, .any, .any, .any, .any, .any, .any, .any, .any, .any, .any, .any, .any, .any, .any, .any, .any, .any, .any, .any, .any, .any, .any, .any, .any, .any, .any, .any, .any, .any, .any, .any, .any, .any, .any, .any, .any, .any, .any, .any, .any, .any, .any, .any, .any, .any, .any, .any, .any, .any, .any, .any], ⟨[(false, [.pv (.int .i64 0), .pv (.str []), .pv (.int .i64 0)])], [], []⟩⟩
noncomputable def L85_111041204 (s : List UInt8) (i : Int) (c : UInt8) (i1 : Int) : Option Out := LV Pr T 85 [1, 1, 1, 0, 4, 1, 2, 0, 4] (st85_111041204 s i c i1)
def st85_11104131204 (s : List UInt8) (i : Int) (i1 : Int) : AS :=
  ⟨[.pv (.str s), .pv (.int .i64 i), .any, .any, .box 0 0, .any, .any, .any, .pv (.int .i64 i1), .any, .any, .any, .any, .any, .any, .any, .any, .any, .any, .any, .any, .any, .any, .any, .any, .any, .any, .any, .any, .any, .any, .any, .any, .any, .any, .any, .any, .any, .any, .any, .any, .any, .any, .any, .any, .any, .any, .any, .any, .any, .any, .any, .any, .any, .any, .any, .any, .any, .any, .any, .any, .any, .any, .any, .any, .any, .any, .any, .any, .any, .any, .any, .any, .any, .any, .any, .any, .any, .any, .any, .any, .any, .any, .any, .any, .any, .any, .any, .any, .any, .any, .any, .any, .any, .any, .any, .any, .any, .any, .any, .any, .any, .any, .any, .any, .any, .any, .any, .any, .any, .any, .any, .any, .any, .any, .any], ⟨[(false, [.pv (.int .i64 0), .pv (.str []), .pv (.int .i64 0)])], [], []⟩⟩
noncomputable def L85_11104131204 (s : List UInt8) (i : Int) (i1 : Int) : Option Out := LV Pr T 85 [1, 1, 1, 0, 4, 1, 3, 1, 2, 0, 4] (st85_11104131204 s i i1)
def st85_111041216 (s : List UInt8) (i : Int) (c : UInt8) (i2 : Int) : AS :=
  ⟨[.pv (.str s), .pv (.int .i64 i), .any, .any, .box 0 0, .any, .any, .pv (.int .u8 (c.toNat : Int)), .pv (.int .i64 i2), .any, .any, .any, .any, .any, .any, .any, .any, .any, .any, .any, .any, .any, .any, .any, .any, .any, .any, .any, .any, .any, .any, .any, .any, .any, .any, .any, .any, .any, .any, .any, .any, .any, .any, .any, .any, .any, .any, .any, .any, .any, .any, .any, .any, .any, .any, .any, .any, .any, .any, .any, .any, .any, .any, .any, .any, .any, .any, .any, .any, .any, .any, .any, .any, .any, .any, .any, .any, .any, .any, .any, .any, .any, .any, .any, .any, .any, .any, .any, .any, .any, .any, .any, .any, .any, .any, .any, .any, .any, .any, .any, .any, .any, .any, .any, .any, .any, .any, .any, .any, .any, .any, .any, .any, .any, .any, .any], ⟨[(false, [.pv (.int .i64 0), .pv (.str []), .pv (.int .i64 0)])], [], []⟩⟩
noncomputable def L85_111041216 (s : List UInt8) (i : Int) (c : UInt8) (i2 : Int) : Option Out := LV Pr T 85 [1, 1, 1, 0, 4, 1, 2, 1, 6] (st85_111041216 s i c i2)
def st85_11104131216 (s : List UInt8) (i : Int) (i2 : Int) : AS :=
  ⟨[.pv (.str s), .pv (.int .i64 i), .any, .any, .box 0 0, .any, .any, .any, .pv (.int .i64 i2), .any, .any, .any, .any, .any, .any, .any, .any, .any, .any, .any, .any, .any, .any, .any, .any, .any, .any, .any, .any, .any, .any, .any, .any, .any, .any, .any, .any, .any, .any, .any, .any, .any, .any, .any, .any, .any, .any, .any, .any, .any, .any, .any, .any, .any, .any, .any, .any, .any, .any, .any, .any, .any, .any, .any, .any, .any, .any, .any, .any, .any, .any, .any, .any, .any, .any, .any, .any, .any, .any, .any, .any, .any, .any, .any, .any, .any, .any, .any, .any, .any, .any, .any, .any, .any, .any, .any, .any, .any, .any, .any, .any, .any, .any, .any, .any, .any, .any, .any, .any, .any, .any, .any, .any, .any, .any, .any], ⟨[(false, [.pv (.int .i64 0), .pv (.str []), .pv (.int .i64 0)])], [], []⟩⟩
noncomputable def L85_11104131216 (s : List UInt8) (i : Int) (i2 : Int) : Option Out := LV Pr T 85 [1, 1, 1, 0, 4, 1, 3, 1, 2, 1, 6] (st85_11104131216 s i i2)
def st85_11104121116 (i : Int) (i2 : Int) (i1 : Int) (s : List UInt8) : AS :=
  ⟨[.any, .pv (.int .i64 i), .any, .any, .box 0 0, .any, .any, .any, .pv (.int .i64 i2), .box 1 0, .any, .any, .any, .any, .any, .any, .any, .any, .any, .any, .any, .any, .any, .any, .any, .any, .any, .any, .any, .any, .any, .any, .any, .any, .any, .any, .any, .any, .any, .any, .any, .any, .any, .any, .any, .any, .any, .any, .any, .any, .any, .any, .any, .any, .any, .any, .any, .any, .any, .any, .any, .any, .any, .any, .any, .any, .any, .any, .any, .any, .any, .any, .any, .any, .any, .any, .any, .any, .any, .any, .any, .any, .any, .any, .any, .any, .any, .any, .any, .any, .any, .any, .any, .any, .any, .any, .any, .any, .any, .any, .any, .any, .any, .any, .any, .any, .any, .any, .any, .any, .any, .any, .any, .any, .any, .any], ⟨[(false, [.pv (.int .i64 0), .pv (.str []), .pv (.int .i64 0)]), (false, [.pv (.int .i64 i1), .pv (.str ((s.take i2.toNat).drop i.toNat)), .pv (.int .i64 i)])], [], []⟩⟩
noncomputable def L85_11104121116 (i : Int) (i2 : Int) (i1 : Int) (s : List UInt8) : Option Out := LV Pr T 85 [1, 1, 1, 0, 4, 1, 2, 1, 1, 1, 6] (st85_11104121116 i i2 i1 s)
theorem e85 (s : List UInt8) (i : Int) : V 85 [.pv (.str s), .pv (.int .i64 i)] =
  bif decide (0 ≤ i) then
    (s[i.toNat]?).bind fun c =>
      (((V 100 [.pv (.int .u8 (c.toNat : Int))]).bind retPV).bind fun r =>
        (bif (Sh.bool).fits r then
          bif r.toBool then
            L85_1110416 s i c true
          else ((V 101 [.pv (.int .u8 (c.toNat : Int))]).bind retPV).bind fun r1 =>
            (bif (Sh.bool).fits r1 then
              L85_1110416 s i c r1.toBool
            else none)
        else none))
  else none :=
  (V_eq pa rfl _).trans (by kernel_rfl)
theorem e85_1110416 (s : List UInt8) (i : Int) (c : UInt8) (b : Bool) : L85_1110416 s i c b =
  bif b then
    L85_111041204 s i c i
  else ((V 104 [.pv (.int .u8 (c.toNat : Int))]).bind retPV).bind fun r =>
    (bif (Sh.bool).fits r then
      bif r.toBool then
        L85_11104131204 s i i
      else bif ((c.toNat : Int) == (34 : Int)) then
        ((V 105 [.pv (.str s), .pv (.int .i64 i)]).bind retPV).bind fun r1 =>
          (bif (Sh.tup [Sh.str, Sh.int .i64, Sh.bool]).fits r1 then
            some (.pv (.tup [.agg [.int .i64 5, .str ((r1.r 0).toStr), .int .i64 i], .int .i64 ((r1.r 1).toInt), .bool ((r1.r 2).toBool)]), [])
          else none)
      else ((V 106 [.pv (.str s), .pv (.int .i64 i)]).bind retPV).bind fun r2 =>
        (bif (Sh.str).fits r2 then
          some (.pv (.tup [.agg [.int .i64 6, .str r2.toStr, .int .i64 i], .int .i64 (IntKind.i64.wrap (i + (r2.toStr.length : Int))), .bool (!(r2.toStr == ([] : List UInt8)))]), [])
        else none)
    else none) :=
  (LV_eq pa 85 _ _).trans (by kernel_rfl)
theorem e85_111041204 (s : List UInt8) (i : Int) (c : UInt8) (i1 : Int) : L85_111041204 s i c i1 =
  bif decide (i1 < (s.length : Int)) then
    bif decide (0 ≤ i1) then
      (s[i1.toNat]?).bind fun c1 =>
        (((V 102 [.pv (.int .u8 (c1.toNat : Int))]).bind retPV).bind fun r =>
          (bif (Sh.bool).fits r then
            bif r.toBool then
              L85_111041204 s i c (IntKind.i64.wrap (i1 + (1 : Int)))
            else L85_111041216 s i c i1
          else none))
    else none
  else L85_111041216 s i c i1 :=
  (LV_eq pa 85 _ _).trans (by kernel_rfl)
theorem e85_11104131204 (s : List UInt8) (i : Int) (i1 : Int) : L85_11104131204 s i i1 =
  bif decide (i1 < (s.length : Int)) then
    bif decide (0 ≤ i1) then
      (s[i1.toNat]?).bind fun c =>
        (((V 104 [.pv (.int .u8 (c.toNat : Int))]).bind retPV).bind fun r =>
          (bif (Sh.bool).fits r then
            bif r.toBool then
              L85_11104131204 s i (IntKind.i64.wrap (i1 + (1 : Int)))
            else L85_11104131216 s i i1
          else none))
    else none
  else L85_11104131216 s i i1 :=
  (LV_eq pa 85 _ _).trans (by kernel_rfl)
theorem e85_111041216 (s : List UInt8) (i : Int) (c : UInt8) (i2 : Int) : L85_111041216 s i c i2 =
  bif (decide (0 ≤ i) && decide (i ≤ i2) && decide (i2 ≤ (s.length : Int))) then
    ((V 100 [.pv (.int .u8 (c.toNat : Int))]).bind retPV).bind fun r =>
      (bif (Sh.bool).fits r then
        bif r.toBool then
          ((V 103 [.pv (.str ((s.take i2.toNat).drop i.toNat))]).bind retPV).bind fun r1 =>
            (bif (Sh.bool).fits r1 then
              bif r1.toBool then
                L85_11104121116 i i2 3 s
              else L85_11104121116 i i2 1 s
            else none)
        else L85_11104121116 i i2 2 s
      else none)
  else none :=
  (LV_eq pa 85 _ _).trans (by kernel_rfl)
theorem e85_11104131216 (s : List UInt8) (i : Int) (i2 : Int) : L85_11104131216 s i i2 =
  bif (decide (0 ≤ i) && decide (i ≤ i2) && decide (i2 ≤ (s.length : Int))) then
    bif decide (i2 ≥ (s.length : Int)) then
      some (.pv (.tup [.agg [.int .i64 4, .str ((s.take i2.toNat).drop i.toNat), .int .i64 i], .int .i64 i2, .bool true]), [])
    else bif decide (0 ≤ i2) then
      (s[i2.toNat]?).bind fun c =>
        (((V 102 [.pv (.int .u8 (c.toNat : Int))]).bind retPV).bind fun r =>
          (bif (Sh.bool).fits r then
            some (.pv (.tup [.agg [.int .i64 4, .str ((s.take i2.toNat).drop i.toNat), .int .i64 i], .int .i64 i2, .bool (!r.toBool)]), [])
          else none))
    else none
  else none :=
  (LV_eq pa 85 _ _).trans (by kernel_rfl)
theorem e85_11104121116 (i : Int) (i2 : Int) (i1 : Int) (s : List UInt8) : L85_11104121116 i i2 i1 s =
  some (.pv (.tup [.agg [.int .i64 i1, .str ((s.take i2.toNat).drop i.toNat), .int .i64 i], .int .i64 i2, .bool (decide ((IntKind.i64.wrap (i2 - i)) ≤ (16 : Int)))]), []) :=
  (LV_eq pa 85 _ _).trans (by kernel_rfl)
/-! 100 roadstead/token.low -/
theorem e100 (c : Int) : V 100 [.pv (.int .u8 c)] =
  bif decide (c ≥ (97 : Int)) then
    some (.pv (.bool (decide (c ≤ (122 : Int)))), [])
  else some (.pv (.bool false), []) :=
  (V_eq pa rfl _).trans (by kernel_rfl)
/-! 101 roadstead/token.great -/
theorem e101 (c : Int) : V 101 [.pv (.int .u8 c)] =
  bif decide (c ≥ (65 : Int)) then
    some (.pv (.bool (decide (c ≤ (90 : Int)))), [])
  else some (.pv (.bool false), []) :=
  (V_eq pa rfl _).trans (by kernel_rfl)
/-! 102 roadstead/token.inner -/
theorem e102 (c : Int) : V 102 [.pv (.int .u8 c)] =
  ((V 100 [.pv (.int .u8 c)]).bind retPV).bind fun r =>
    (bif (Sh.bool).fits r then
      bif r.toBool then
        some (.pv (.bool true), [])
      else ((V 101 [.pv (.int .u8 c)]).bind retPV).bind fun r1 =>
        (bif (Sh.bool).fits r1 then
          bif r1.toBool then
            some (.pv (.bool true), [])
          else ((V 104 [.pv (.int .u8 c)]).bind retPV).bind fun r2 =>
            (bif (Sh.bool).fits r2 then
              bif r2.toBool then
                some (.pv (.bool true), [])
              else some (.pv (.bool (c == (95 : Int))), [])
            else none)
        else none)
    else none) :=
  (V_eq pa rfl _).trans (by kernel_rfl)
/-! 103 roadstead/token.IsWord -/
def st103_1014 (s : List UInt8) (v : List PV) (i : Int) : AS :=
  ⟨[.pv (.str s), .any, .any, .any, .any, .pv (.lst v), .pv (.int .i64 (v.length : Int)), .pv (.int .i64 i), .any, .any, .any, .any, .any, .any, .any], ⟨[], [], []⟩⟩
noncomputable def L103_1014 (s : List UInt8) (v : List PV) (i : Int) : Option Out := LV Pr T 103 [1, 0, 1, 4] (st103_1014 s v i)
theorem e103 (s : List UInt8) : V 103 [.pv (.str s)] =
  ((V 111 []).bind retPV).bind fun r =>
    (bif (Sh.lst).fits r then
      L103_1014 s r.toLst 0
    else none) :=
  (V_eq pa rfl _).trans (by kernel_rfl)
theorem e103_1014 (s : List UInt8) (v : List PV) (i : Int) : L103_1014 s v i =
  bif decide (i < (v.length : Int)) then
    bif decide (0 ≤ i) then
      (v[i.toNat]?).bind fun x =>
        (bif (Sh.str).fits x then
          bif (x.toStr == s) then
            some (.pv (.bool true), [])
          else L103_1014 s v (IntKind.i64.wrap (i + (1 : Int)))
        else none)
    else none
  else some (.pv (.bool false), []) :=
  (LV_eq pa 103 _ _).trans (by kernel_rfl)
/-! 104 roadstead/token.digit -/
theorem e104 (c : Int) : V 104 [.pv (.int .u8 c)] =
  bif decide (c ≥ (48 : Int)) then
    some (.pv (.bool (decide (c ≤ (57 : Int)))), [])
  else some (.pv (.bool false), []) :=
  (V_eq pa rfl _).trans (by kernel_rfl)
/-! 105 roadstead/token.text -/
def st105_11014 (s : List UInt8) (i1 : Int) (l : List PV) : AS :=
  ⟨[.pv (.str s), .pv (.int .i64 i1), .any, .any, .any, .any, .any, .bld 0 0 l, .any, .any, .any, .any, .any, .any, .any, .any, .any, .any, .any, .any, .any, .any, .any, .any, .any, .any, .any, .any, .any, .any, .any, .any, .any, .any, .any, .any, .any, .any, .any, .any, .any, .any, .any, .any, .any, .any, .any, .any, .any, .any, .any, .any, .any, .any, .any, .any, .any, .any, .any, .any, .any, .any, .any, .any, .any, .any, .any, .any, .any, .any, .any, .any, .any, .any, .any, .any, .any, .any, .any, .any, .any, .any, .any, .any, .any, .any, .any, .any, .any, .any, .any, .any, .any, .any, .any, .any, .any, .any, .any, .any, .any, .any, .any, .any, .any, .any, .any, .any, .any, .any, .any, .any, .any, .any, .any, .any, .any], ⟨[], [], [(0, 1)]⟩⟩
noncomputable def L105_11014 (s : List UInt8) (i1 : Int) (l : List PV) : Option Out := LV Pr T 105 [1, 1, 0, 1, 4] (st105_11014 s i1 l)
def st105_110145141110141316 (s : List UInt8) (i2 : Int) (l1 : List PV) (c1 : UInt8) (b : Bool) : AS :=
  ⟨[.pv (.str s), .pv (.int .i64 i2), .any, .any, .any, .any, .any, .bld 0 0 l1, .any, .any, .any, .any, .any, .any, .any, .any, .any, .any, .any, .any, .any, .any, .any, .any, .any, .any, .any, .any, .any, .any, .any, .any, .any, .any, .any, .any, .any, .any, .any, .any, .any, .any, .any, .any, .any, .any, .any, .any, .any, .any, .any, .any, .any, .any, .any, .pv (.int .u8 (c1.toNat : Int)), .any, .any, .any, .any, .any, .any, .pv (.bool b), .any, .any, .any, .any, .any, .any, .any, .any, .any, .any, .any, .any, .any, .any, .any, .any, .any, .any, .any, .any, .any, .any, .any, .any, .any, .any, .any, .any, .any, .any, .any, .any, .any, .any, .any, .any, .any, .any, .any, .any, .any, .any, .any, .any, .any, .any, .any, .any, .any, .any, .any, .any, .any, .any], ⟨[], [], [(0, 1)]⟩⟩
noncomputable def L105_110145141110141316 (s : List UInt8) (i2 : Int) (l1 : List PV) (c1 : UInt8) (b : Bool) : Option Out := LV Pr T 105 [1, 1, 0, 1, 4, 5, 1, 4, 1, 1, 1, 0, 1, 4, 1, 3, 1, 6] (st105_110145141110141316 s i2 l1 c1 b)
theorem e105 (s : List UInt8) (i : Int) : V 105 [.pv (.str s), .pv (.int .i64 i)] =
  L105_11014 s (IntKind.i64.wrap (i + (1 : Int))) [] :=
  (V_eq pa rfl _).trans (by kernel_rfl)
theorem e105_11014 (s : List UInt8) (i1 : Int) (l : List PV) : L105_11014 s i1 l =
  bif decide (i1 < (s.length : Int)) then
    bif decide (0 ≤ i1) then
      (s[i1.toNat]?).bind fun c =>
        (bif ((c.toNat : Int) == (34 : Int)) then
          bif l.all isByte then
            some (.pv (.tup [.str (l.map toByte), .int .i64 (IntKind.i64.wrap (i1 + (1 : Int))), .bool (decide ((l.length : Int) ≤ (64 : Int)))]), [])
          else none
        else bif decide ((c.toNat : Int) < (32 : Int)) then
          some (.pv (.tup [.str [], .int .i64 i1, .bool false]), [])
        else bif ((c.toNat : Int) != (92 : Int)) then
          bif small (l.length) 1 1 then
            L105_11014 s (IntKind.i64.wrap (i1 + (1 : Int))) (l ++ [.int .u8 (c.toNat : Int)])
          else none
        else bif decide ((IntKind.i64.wrap (i1 + (1 : Int))) ≥ (s.length : Int)) then
          some (.pv (.tup [.str [], .int .i64 (s.length : Int), .bool false]), [])
        else bif decide (0 ≤ (IntKind.i64.wrap (i1 + (1 : Int)))) then
          (s[(IntKind.i64.wrap (i1 + (1 : Int))).toNat]?).bind fun c1 =>
            (bif ((c1.toNat : Int) == (110 : Int)) then
              bif small (l.length) 1 1 then
                L105_11014 s (IntKind.i64.wrap (i1 + (2 : Int))) (l ++ [.int .u8 10])
              else none
            else bif ((c1.toNat : Int) == (34 : Int)) then
              L105_110145141110141316 s i1 l c1 ((c1.toNat : Int) == (34 : Int))
            else L105_110145141110141316 s i1 l c1 ((c1.toNat : Int) == (92 : Int)))
        else none)
    else none
  else some (.pv (.tup [.str [], .int .i64 (s.length : Int), .bool false]), []) :=
  (LV_eq pa 105 _ _).trans (by kernel_rfl)
theorem e105_110145141110141316 (s : List UInt8) (i2 : Int) (l1 : List PV) (c1 : UInt8) (b : Bool) : L105_110145141110141316 s i2 l1 c1 b =
  bif b then
    bif decide (0 ≤ (IntKind.i64.wrap (i2 + (1 : Int)))) then
      (s[(IntKind.i64.wrap (i2 + (1 : Int))).toNat]?).bind fun c =>
        (bif small (l1.length) 1 1 then
          L105_11014 s (IntKind.i64.wrap (i2 + (2 : Int))) (l1 ++ [.int .u8 (c.toNat : Int)])
        else none)
    else none
  else bif ((c1.toNat : Int) == (120 : Int)) then
    bif decide ((IntKind.i64.wrap (i2 + (3 : Int))) ≥ (s.length : Int)) then
      some (.pv (.tup [.str [], .int .i64 (s.length : Int), .bool false]), [])
    else bif decide (0 ≤ (IntKind.i64.wrap (i2 + (2 : Int)))) then
      (s[(IntKind.i64.wrap (i2 + (2 : Int))).toNat]?).bind fun c2 =>
        (((V 112 [.pv (.int .u8 (c2.toNat : Int))]).bind retPV).bind fun r =>
          (bif (Sh.tup [Sh.int .u8, Sh.bool]).fits r then
            bif decide (0 ≤ (IntKind.i64.wrap (i2 + (3 : Int)))) then
              (s[(IntKind.i64.wrap (i2 + (3 : Int))).toNat]?).bind fun c3 =>
                (((V 112 [.pv (.int .u8 (c3.toNat : Int))]).bind retPV).bind fun r1 =>
                  (bif (Sh.tup [Sh.int .u8, Sh.bool]).fits r1 then
                    bif (!(r.r 1).toBool) then
                      some (.pv (.tup [.str [], .int .i64 i2, .bool false]), [])
                    else bif (!(r1.r 1).toBool) then
                      some (.pv (.tup [.str [], .int .i64 i2, .bool false]), [])
                    else bif small (l1.length) 1 1 then
                      L105_11014 s (IntKind.i64.wrap ((IntKind.i64.wrap (i2 + (2 : Int))) + (2 : Int))) (l1 ++ [.int .u8 (IntKind.u8.wrap (BitVec.ofInt (IntKind.bits .u8) (IntKind.u8.wrap (((r.r 0).toInt) * 2 ^ (min (4 : Int).toNat (IntKind.bits .u8)))) ||| BitVec.ofInt (IntKind.bits .u8) ((r1.r 0).toInt)).toNat)])
                    else none
                  else none))
            else none
          else none))
    else none
  else some (.pv (.tup [.str [], .int .i64 i2, .bool false]), []) :=
  (LV_eq pa 105 _ _).trans (by kernel_rfl)
/-! 106 roadstead/token.sign -/
def st106_1016 (s : List UInt8) (i : Int) (b : Bool) : AS :=
  ⟨[.pv (.str s), .pv (.int .i64 i), .any, .any, .any, .any, .any, .any, .any, .any, .any, .any, .any, .any, .any, .any, .any, .any, .any, .any, .any, .any, .any, .any, .any, .pv (.bool b), .any, .any, .any, .any, .any, .any, .any, .any, .any, .any, .any, .any, .any, .any, .any, .any, .any, .any, .any, .any, .any, .any, .any, .any, .any, .any, .any, .any, .any, .any, .any, .any, .any], ⟨[], [], []⟩⟩
noncomputable def L106_1016 (s : List UInt8) (i : Int) (b : Bool) : Option Out := LV Pr T 106 [1, 0, 1, 6] (st106_1016 s i b)
def st106_1101416 (s : List UInt8) (i : Int) (b : Bool) : AS :=
  ⟨[.pv (.str s), .pv (.int .i64 i), .any, .any, .any, .any, .any, .any, .any, .any, .any, .any, .any, .any, .any, .any, .any, .any, .any, .any, .any, .any, .any, .any, .any, .any, .any, .any, .any, .any, .any, .any, .any, .any, .pv (.bool b), .any, .any, .any, .any, .any, .any, .any, .any, .any, .any, .any, .any, .any, .any, .any, .any, .any, .any, .any, .any, .any, .any, .any, .any], ⟨[], [], []⟩⟩
noncomputable def L106_1101416 (s : List UInt8) (i : Int) (b : Bool) : Option Out := LV Pr T 106 [1, 1, 0, 1, 4, 1, 6] (st106_1101416 s i b)
theorem e106 (s : List UInt8) (i : Int) : V 106 [.pv (.str s), .pv (.int .i64 i)] =
  bif decide ((IntKind.i64.wrap (i + (1 : Int))) < (s.length : Int)) then
    bif (decide (0 ≤ i) && decide (i ≤ (IntKind.i64.wrap (i + (2 : Int)))) && decide ((IntKind.i64.wrap (i + (2 : Int))) ≤ (s.length : Int))) then
      bif (((s.take (IntKind.i64.wrap (i + (2 : Int))).toNat).drop i.toNat) == ([61, 62] : List UInt8)) then
        L106_1016 s i true
      else bif (decide (0 ≤ i) && decide (i ≤ (IntKind.i64.wrap (i + (2 : Int)))) && decide ((IntKind.i64.wrap (i + (2 : Int))) ≤ (s.length : Int))) then
        L106_1016 s i (((s.take (IntKind.i64.wrap (i + (2 : Int))).toNat).drop i.toNat) == ([45, 62] : List UInt8))
      else none
    else none
  else L106_1016 s i false :=
  (V_eq pa rfl _).trans (by kernel_rfl)
theorem e106_1016 (s : List UInt8) (i : Int) (b : Bool) : L106_1016 s i b =
  bif b then
    bif (decide (0 ≤ i) && decide (i ≤ (IntKind.i64.wrap (i + (2 : Int)))) && decide ((IntKind.i64.wrap (i + (2 : Int))) ≤ (s.length : Int))) then
      some (.pv (.str ((s.take (IntKind.i64.wrap (i + (2 : Int))).toNat).drop i.toNat)), [])
    else none
  else bif decide (0 ≤ i) then
    (s[i.toNat]?).bind fun c =>
      (bif ((c.toNat : Int) == (40 : Int)) then
        L106_1101416 s i ((c.toNat : Int) == (40 : Int))
      else bif ((c.toNat : Int) == (41 : Int)) then
        L106_1101416 s i ((c.toNat : Int) == (41 : Int))
      else bif ((c.toNat : Int) == (91 : Int)) then
        L106_1101416 s i ((c.toNat : Int) == (91 : Int))
      else bif ((c.toNat : Int) == (93 : Int)) then
        L106_1101416 s i ((c.toNat : Int) == (93 : Int))
      else bif ((c.toNat : Int) == (123 : Int)) then
        L106_1101416 s i ((c.toNat : Int) == (123 : Int))
      else bif ((c.toNat : Int) == (125 : Int)) then
        L106_1101416 s i ((c.toNat : Int) == (125 : Int))
      else bif ((c.toNat : Int) == (44 : Int)) then
        L106_1101416 s i ((c.toNat : Int) == (44 : Int))
      else bif ((c.toNat : Int) == (59 : Int)) then
        L106_1101416 s i ((c.toNat : Int) == (59 : Int))
      else bif ((c.toNat : Int) == (58 : Int)) then
        L106_1101416 s i ((c.toNat : Int) == (58 : Int))
      else bif ((c.toNat : Int) == (61 : Int)) then
        L106_1101416 s i ((c.toNat : Int) == (61 : Int))
      else bif ((c.toNat : Int) == (43 : Int)) then
        L106_1101416 s i ((c.toNat : Int) == (43 : Int))
      else bif ((c.toNat : Int) == (45 : Int)) then
        L106_1101416 s i ((c.toNat : Int) == (45 : Int))
      else bif ((c.toNat : Int) == (42 : Int)) then
        L106_1101416 s i ((c.toNat : Int) == (42 : Int))
      else bif ((c.toNat : Int) == (47 : Int)) then
        L106_1101416 s i ((c.toNat : Int) == (47 : Int))
      else bif ((c.toNat : Int) == (37 : Int)) then
        L106_1101416 s i ((c.toNat : Int) == (37 : Int))
      else bif ((c.toNat : Int) == (60 : Int)) then
        L106_1101416 s i ((c.toNat : Int) == (60 : Int))
      else bif ((c.toNat : Int) == (94 : Int)) then
        L106_1101416 s i ((c.toNat : Int) == (94 : Int))
      else bif ((c.toNat : Int) == (124 : Int)) then
        L106_1101416 s i ((c.toNat : Int) == (124 : Int))
      else L106_1101416 s i ((c.toNat : Int) == (95 : Int)))
  else none :=
  (LV_eq pa 106 _ _).trans (by kernel_rfl)
theorem e106_1101416 (s : List UInt8) (i : Int) (b : Bool) : L106_1101416 s i b =
  bif b then
    bif (decide (0 ≤ i) && decide (i ≤ (IntKind.i64.wrap (i + (1 : Int)))) && decide ((IntKind.i64.wrap (i + (1 : Int))) ≤ (s.length : Int))) then
      some (.pv (.str ((s.take (IntKind.i64.wrap (i + (1 : Int))).toNat).drop i.toNat)), [])
    else none
  else some (.pv (.str []), []) :=
  (LV_eq pa 106 _ _).trans (by kernel_rfl)
/-! 111 roadstead/token.Words -/
theorem e111  : V 111 [] =
  some (.pv (.lst [.str [97, 99, 116, 111, 114], .str [97, 102, 116, 101, 114], .str [97, 110, 100], .str [97, 112, 112, 108, 121], .str [98, 101, 99, 111, 109, 101], .str [98, 111, 111, 108], .str [99, 101, 108, 108], .str [100, 97, 116, 97], .str [101, 108, 115, 101], .str [102, 97, 105, 108], .str [102, 97, 108, 115, 101], .str [102, 110], .str [102, 111, 114], .str [102, 117, 110], .str [103, 101, 116], .str [105, 102], .str [105, 109, 112, 108], .str [105, 110], .str [105, 110, 116], .str [108, 101, 116], .str [108, 105, 110, 107], .str [109, 97, 116, 99, 104], .str [109, 111, 100, 117, 108, 101], .str [110, 111, 116], .str [111, 114], .str [112, 117, 116], .str [114, 101, 99, 101, 105, 118, 101], .str [115, 97, 121], .str [115, 101, 108, 102], .str [115, 101, 110, 100], .str [115, 112, 97, 119, 110], .str [116, 101, 120, 116], .str [116, 104, 101, 110], .str [116, 114, 97, 105, 116], .str [116, 114, 117, 101], .str [117, 110, 105, 116], .str [117, 115, 101], .str [119, 97, 116, 99, 104]]), []) :=
  (V_eq pa rfl _).trans (by kernel_rfl)
/-! 112 roadstead/token.hex -/
def st112_1041316 (c : Int) (b : Bool) : AS :=
  ⟨[.pv (.int .u8 c), .any, .any, .any, .any, .any, .any, .any, .any, .pv (.bool b), .any, .any, .any, .any, .any, .any, .any, .any, .any], ⟨[], [], []⟩⟩
noncomputable def L112_1041316 (c : Int) (b : Bool) : Option Out := LV Pr T 112 [1, 0, 4, 1, 3, 1, 6] (st112_1041316 c b)
theorem e112 (c : Int) : V 112 [.pv (.int .u8 c)] =
  ((V 104 [.pv (.int .u8 c)]).bind retPV).bind fun r =>
    (bif (Sh.bool).fits r then
      bif r.toBool then
        some (.pv (.tup [.int .u8 (IntKind.u8.wrap (c - (48 : Int))), .bool true]), [])
      else bif decide (c ≥ (97 : Int)) then
        L112_1041316 c (decide (c ≤ (102 : Int)))
      else L112_1041316 c false
    else none) :=
  (V_eq pa rfl _).trans (by kernel_rfl)
theorem e112_1041316 (c : Int) (b : Bool) : L112_1041316 c b =
  bif b then
    some (.pv (.tup [.int .u8 (IntKind.u8.wrap ((IntKind.u8.wrap (c - (97 : Int))) + (10 : Int))), .bool true]), [])
  else some (.pv (.tup [.int .u8 0, .bool false]), []) :=
  (LV_eq pa 112 _ _).trans (by kernel_rfl)
end Go.AL.S1
