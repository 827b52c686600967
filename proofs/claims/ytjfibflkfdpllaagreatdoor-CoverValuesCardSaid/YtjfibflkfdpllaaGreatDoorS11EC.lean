/- Equations of functions in the abstract machine: printed by gen.py. -/
import Derived.Test.YtjfibflkfdpllaaGreatDoorS11T
set_option linter.unusedVariables false
set_option maxRecDepth 100000
namespace Go.AL.S11
open Go Go.AL
/-! 22 roadstead/cover.missing -/
def st22_1116 (t : List PV) (n : Int) (p_Name : List UInt8) (p_Version : Int) (p_Uses : List PV) (p_Datas : List PV) (p_Traits : List PV) (p_Impls : List PV) (p_Funcs : List PV) (p_Actors : List PV) : AS :=
  ⟨[.any, .pv (.lst t), .pv (.int .i64 n), .box 0 0, .any, .any, .any, .any, .pv .nils, .any, .any, .any, .any, .any, .any, .any, .any, .any, .any, .any, .any, .any, .any, .any, .any, .any, .any, .any, .any, .any, .any, .any, .any, .any, .any, .any, .any, .any, .any, .any, .any, .any, .any, .any, .any, .any, .any, .any, .any, .any, .any, .any, .any, .any, .any, .any, .any, .any, .any, .any, .any, .any, .any, .any, .any, .any, .any, .any, .any, .any, .any, .any, .any, .any, .any, .any, .any, .any], ⟨[(false, [.pv (.str p_Name), .pv (.int .i64 p_Version), .pv (.lst p_Uses), .pv (.lst p_Datas), .pv (.lst p_Traits), .pv (.lst p_Impls), .pv (.lst p_Funcs), .pv (.lst p_Actors)])], [], [], 0, 0⟩⟩
noncomputable def L22_1116 (t : List PV) (n : Int) (p_Name : List UInt8) (p_Version : Int) (p_Uses : List PV) (p_Datas : List PV) (p_Traits : List PV) (p_Impls : List PV) (p_Funcs : List PV) (p_Actors : List PV) : Option Out := LV Pr T 22 [1, 1, 1, 6] (st22_1116 t n p_Name p_Version p_Uses p_Datas p_Traits p_Impls p_Funcs p_Actors)
def st22_1116v1 (t : List PV) (n : Int) (v : List PV) (p_Name : List UInt8) (p_Version : Int) (p_Uses : List PV) (p_Datas : List PV) (p_Traits : List PV) (p_Impls : List PV) (p_Funcs : List PV) (p_Actors : List PV) : AS :=
  ⟨[.any, .pv (.lst t), .pv (.int .i64 n), .box 0 0, .any, .any, .any, .any, .pv (.lst v), .any, .any, .any, .any, .any, .any, .any, .any, .any, .any, .any, .any, .any, .any, .any, .any, .any, .any, .any, .any, .any, .any, .any, .any, .any, .any, .any, .any, .any, .any, .any, .any, .any, .any, .any, .any, .any, .any, .any, .any, .any, .any, .any, .any, .any, .any, .any, .any, .any, .any, .any, .any, .any, .any, .any, .any, .any, .any, .any, .any, .any, .any, .any, .any, .any, .any, .any, .any, .any], ⟨[(false, [.pv (.str p_Name), .pv (.int .i64 p_Version), .pv (.lst p_Uses), .pv (.lst p_Datas), .pv (.lst p_Traits), .pv (.lst p_Impls), .pv (.lst p_Funcs), .pv (.lst p_Actors)])], [], [], 0, 0⟩⟩
noncomputable def L22_1116v1 (t : List PV) (n : Int) (v : List PV) (p_Name : List UInt8) (p_Version : Int) (p_Uses : List PV) (p_Datas : List PV) (p_Traits : List PV) (p_Impls : List PV) (p_Funcs : List PV) (p_Actors : List PV) : Option Out := LV Pr T 22 [1, 1, 1, 6] (st22_1116v1 t n v p_Name p_Version p_Uses p_Datas p_Traits p_Impls p_Funcs p_Actors)
def st22_1111014 (t : List PV) (n : Int) (v : List PV) (i : Int) (p_Name : List UInt8) (p_Version : Int) (p_Uses : List PV) (p_Datas : List PV) (p_Traits : List PV) (p_Impls : List PV) (p_Funcs : List PV) (p_Actors : List PV) : AS :=
  ⟨[.any, .pv (.lst t), .pv (.int .i64 n), .box 0 0, .any, .any, .any, .any, .any, .any, .any, .any, .any, .any, .any, .any, .any, .any, .any, .any, .any, .any, .any, .any, .any, .any, .any, .any, .any, .any, .any, .any, .any, .any, .any, .any, .any, .any, .any, .any, .any, .any, .any, .any, .pv (.lst v), .pv (.int .i64 (v.length : Int)), .pv (.int .i64 i), .any, .any, .any, .any, .any, .any, .any, .any, .any, .any, .any, .any, .any, .any, .any, .any, .any, .any, .any, .any, .any, .any, .any, .any, .any, .any, .any, .any, .any, .any, .any], ⟨[(false, [.pv (.str p_Name), .pv (.int .i64 p_Version), .pv (.lst p_Uses), .pv (.lst p_Datas), .pv (.lst p_Traits), .pv (.lst p_Impls), .pv (.lst p_Funcs), .pv (.lst p_Actors)])], [], [], 0, 0⟩⟩
noncomputable def L22_1111014 (t : List PV) (n : Int) (v : List PV) (i : Int) (p_Name : List UInt8) (p_Version : Int) (p_Uses : List PV) (p_Datas : List PV) (p_Traits : List PV) (p_Impls : List PV) (p_Funcs : List PV) (p_Actors : List PV) : Option Out := LV Pr T 22 [1, 1, 1, 1, 0, 1, 4] (st22_1111014 t n v i p_Name p_Version p_Uses p_Datas p_Traits p_Impls p_Funcs p_Actors)
theorem f22 (p_Name : List UInt8) (p_Version : Int) (p_Uses : List PV) (p_Datas : List PV) (p_Traits : List PV) (p_Impls : List PV) (p_Funcs : List PV) (p_Actors : List PV) (t : List PV) (n : Int) (cl_ : FuncId → List Arg → Option Out) (lp_ : List Nat → AS → Option Out) : runW Pr T cl_ lp_ 22 [.pv (.agg [.str p_Name, .int .i64 p_Version, .lst p_Uses, .lst p_Datas, .lst p_Traits, .lst p_Impls, .lst p_Funcs, .lst p_Actors]), .pv (.lst t), .pv (.int .i64 n)] =
  bif (n == (0 : Int)) then
    some (.pv (.tup [.lst [], .bool ((t.length : Int) == (0 : Int))]), [])
  else ((cl_ 32 [.pv (.lst t)]).bind retPV).bind fun r =>
    (bif (Sh.lst).fits r then
      ((cl_ 31 [.pv (.agg [.str p_Name, .int .i64 p_Version, .lst p_Uses, .lst p_Datas, .lst p_Traits, .lst p_Impls, .lst p_Funcs, .lst p_Actors]), .pv (.lst r.toLst)]).bind retPV).bind fun r1 =>
        (bif r1.isNils then
          lp_ [1, 1, 1, 6] (st22_1116 t n p_Name p_Version p_Uses p_Datas p_Traits p_Impls p_Funcs p_Actors)
        else bif (Sh.lst).fits r1 then
          lp_ [1, 1, 1, 6] (st22_1116v1 t n r1.toLst p_Name p_Version p_Uses p_Datas p_Traits p_Impls p_Funcs p_Actors)
        else none)
    else none) := by kernel_rfl
theorem e22 (p_Name : List UInt8) (p_Version : Int) (p_Uses : List PV) (p_Datas : List PV) (p_Traits : List PV) (p_Impls : List PV) (p_Funcs : List PV) (p_Actors : List PV) (t : List PV) (n : Int) : V 22 [.pv (.agg [.str p_Name, .int .i64 p_Version, .lst p_Uses, .lst p_Datas, .lst p_Traits, .lst p_Impls, .lst p_Funcs, .lst p_Actors]), .pv (.lst t), .pv (.int .i64 n)] =
  bif (n == (0 : Int)) then
    some (.pv (.tup [.lst [], .bool ((t.length : Int) == (0 : Int))]), [])
  else ((V 32 [.pv (.lst t)]).bind retPV).bind fun r =>
    (bif (Sh.lst).fits r then
      ((V 31 [.pv (.agg [.str p_Name, .int .i64 p_Version, .lst p_Uses, .lst p_Datas, .lst p_Traits, .lst p_Impls, .lst p_Funcs, .lst p_Actors]), .pv (.lst r.toLst)]).bind retPV).bind fun r1 =>
        (bif r1.isNils then
          L22_1116 t n p_Name p_Version p_Uses p_Datas p_Traits p_Impls p_Funcs p_Actors
        else bif (Sh.lst).fits r1 then
          L22_1116v1 t n r1.toLst p_Name p_Version p_Uses p_Datas p_Traits p_Impls p_Funcs p_Actors
        else none)
    else none) :=
  (V_eq pa rfl _).trans (f22 p_Name p_Version p_Uses p_Datas p_Traits p_Impls p_Funcs p_Actors t n V (LV Pr T 22))
theorem f22_1116 (t : List PV) (n : Int) (p_Name : List UInt8) (p_Version : Int) (p_Uses : List PV) (p_Datas : List PV) (p_Traits : List PV) (p_Impls : List PV) (p_Funcs : List PV) (p_Actors : List PV) (cl_ : FuncId → List Arg → Option Out) (lp_ : List Nat → AS → Option Out) : stepW Pr T cl_ lp_ 22 [1, 1, 1, 6] (st22_1116 t n p_Name p_Version p_Uses p_Datas p_Traits p_Impls p_Funcs p_Actors) =
  ((cl_ 33 [.pv (.lst t)]).bind retPV).bind fun r =>
    (bif (Sh.lst).fits r then
      ((cl_ 22 [.pv (.agg [.str p_Name, .int .i64 p_Version, .lst p_Uses, .lst p_Datas, .lst p_Traits, .lst p_Impls, .lst p_Funcs, .lst p_Actors]), .pv (.lst r.toLst), .pv (.int .i64 (IntKind.i64.wrap (n - (1 : Int))))]).bind retPV).bind fun r1 =>
        (bif (Sh.tup [Sh.lst, Sh.bool]).fits r1 then
          bif (!(r1.r 1).toBool) then
            some (.pv (.tup [.lst [], .bool false]), [])
          else ((cl_ 32 [.pv (.lst t)]).bind retPV).bind fun r2 =>
            (bif (Sh.lst).fits r2 then
              ((cl_ 34 [.pv (.lst r2.toLst)]).bind retPV).bind fun r3 =>
                (bif (Sh.agg [Sh.int .i64, Sh.int .i64, Sh.str, Sh.lst]).fits r3 then
                  bif headOk 4 (r1.r 0).toLst then
                    bif small 1 ((r1.r 0).toLst.length) 56 then
                      some (.pv (.tup [.lst (([.agg [.int .i64 ((r3.c 0).toInt), .int .i64 ((r3.c 1).toInt), .str ((r3.c 2).toStr), .lst ((r3.c 3).toLst)]] : List PV) ++ (r1.r 0).toLst), .bool true]), [])
                    else none
                  else none
                else none)
            else none)
        else none)
    else none) := by kernel_rfl
theorem e22_1116 (t : List PV) (n : Int) (p_Name : List UInt8) (p_Version : Int) (p_Uses : List PV) (p_Datas : List PV) (p_Traits : List PV) (p_Impls : List PV) (p_Funcs : List PV) (p_Actors : List PV) : L22_1116 t n p_Name p_Version p_Uses p_Datas p_Traits p_Impls p_Funcs p_Actors =
  ((V 33 [.pv (.lst t)]).bind retPV).bind fun r =>
    (bif (Sh.lst).fits r then
      ((V 22 [.pv (.agg [.str p_Name, .int .i64 p_Version, .lst p_Uses, .lst p_Datas, .lst p_Traits, .lst p_Impls, .lst p_Funcs, .lst p_Actors]), .pv (.lst r.toLst), .pv (.int .i64 (IntKind.i64.wrap (n - (1 : Int))))]).bind retPV).bind fun r1 =>
        (bif (Sh.tup [Sh.lst, Sh.bool]).fits r1 then
          bif (!(r1.r 1).toBool) then
            some (.pv (.tup [.lst [], .bool false]), [])
          else ((V 32 [.pv (.lst t)]).bind retPV).bind fun r2 =>
            (bif (Sh.lst).fits r2 then
              ((V 34 [.pv (.lst r2.toLst)]).bind retPV).bind fun r3 =>
                (bif (Sh.agg [Sh.int .i64, Sh.int .i64, Sh.str, Sh.lst]).fits r3 then
                  bif headOk 4 (r1.r 0).toLst then
                    bif small 1 ((r1.r 0).toLst.length) 56 then
                      some (.pv (.tup [.lst (([.agg [.int .i64 ((r3.c 0).toInt), .int .i64 ((r3.c 1).toInt), .str ((r3.c 2).toStr), .lst ((r3.c 3).toLst)]] : List PV) ++ (r1.r 0).toLst), .bool true]), [])
                    else none
                  else none
                else none)
            else none)
        else none)
    else none) :=
  (LV_eq pa 22 _ _).trans (f22_1116 t n p_Name p_Version p_Uses p_Datas p_Traits p_Impls p_Funcs p_Actors V (LV Pr T 22))
theorem f22_1116v1 (t : List PV) (n : Int) (v : List PV) (p_Name : List UInt8) (p_Version : Int) (p_Uses : List PV) (p_Datas : List PV) (p_Traits : List PV) (p_Impls : List PV) (p_Funcs : List PV) (p_Actors : List PV) (cl_ : FuncId → List Arg → Option Out) (lp_ : List Nat → AS → Option Out) : stepW Pr T cl_ lp_ 22 [1, 1, 1, 6] (st22_1116v1 t n v p_Name p_Version p_Uses p_Datas p_Traits p_Impls p_Funcs p_Actors) =
  (some? v).bind fun _ =>
    (lp_ [1, 1, 1, 1, 0, 1, 4] (st22_1111014 t n v 0 p_Name p_Version p_Uses p_Datas p_Traits p_Impls p_Funcs p_Actors)) := by kernel_rfl
theorem e22_1116v1 (t : List PV) (n : Int) (v : List PV) (p_Name : List UInt8) (p_Version : Int) (p_Uses : List PV) (p_Datas : List PV) (p_Traits : List PV) (p_Impls : List PV) (p_Funcs : List PV) (p_Actors : List PV) : L22_1116v1 t n v p_Name p_Version p_Uses p_Datas p_Traits p_Impls p_Funcs p_Actors =
  (some? v).bind fun _ =>
    (L22_1111014 t n v 0 p_Name p_Version p_Uses p_Datas p_Traits p_Impls p_Funcs p_Actors) :=
  (LV_eq pa 22 _ _).trans (f22_1116v1 t n v p_Name p_Version p_Uses p_Datas p_Traits p_Impls p_Funcs p_Actors V (LV Pr T 22))
theorem f22_1111014 (t : List PV) (n : Int) (v : List PV) (i : Int) (p_Name : List UInt8) (p_Version : Int) (p_Uses : List PV) (p_Datas : List PV) (p_Traits : List PV) (p_Impls : List PV) (p_Funcs : List PV) (p_Actors : List PV) (cl_ : FuncId → List Arg → Option Out) (lp_ : List Nat → AS → Option Out) : stepW Pr T cl_ lp_ 22 [1, 1, 1, 1, 0, 1, 4] (st22_1111014 t n v i p_Name p_Version p_Uses p_Datas p_Traits p_Impls p_Funcs p_Actors) =
  bif decide (i < (v.length : Int)) then
    bif decide (0 ≤ i) then
      (v[i.toNat]?).bind fun x =>
        (bif (Sh.agg [Sh.int .i64, Sh.int .i64, Sh.str, Sh.lst]).fits x then
          ((cl_ 35 [.pv (.lst t), .pv (.agg [.int .i64 ((x.c 0).toInt), .int .i64 ((x.c 1).toInt), .str ((x.c 2).toStr), .lst ((x.c 3).toLst)])]).bind retPV).bind fun r =>
            (bif (Sh.lst).fits r then
              ((cl_ 22 [.pv (.agg [.str p_Name, .int .i64 p_Version, .lst p_Uses, .lst p_Datas, .lst p_Traits, .lst p_Impls, .lst p_Funcs, .lst p_Actors]), .pv (.lst r.toLst), .pv (.int .i64 (IntKind.i64.wrap ((IntKind.i64.wrap (((x.c 3).toLst.length : Int) + n)) - (1 : Int))))]).bind retPV).bind fun r1 =>
                (bif (Sh.tup [Sh.lst, Sh.bool]).fits r1 then
                  bif (r1.r 1).toBool then
                    bif headOk 4 (r1.r 0).toLst then
                      bif (decide (0 ≤ ((x.c 3).toLst.length : Int)) && decide (((x.c 3).toLst.length : Int) ≤ ((r1.r 0).toLst.length : Int))) then
                        ((cl_ 10 [.pv (.lst ((r1.r 0).toLst.take ((x.c 3).toLst.length : Int).toNat))]).bind retPV).bind fun r2 =>
                          (bif (Sh.lst).fits r2 then
                            bif headOk 4 (r1.r 0).toLst then
                              bif (decide (0 ≤ ((x.c 3).toLst.length : Int)) && decide (((x.c 3).toLst.length : Int) ≤ ((r1.r 0).toLst.length : Int))) then
                                bif headOk 4 ((r1.r 0).toLst.drop ((x.c 3).toLst.length : Int).toNat) then
                                  bif small 1 (((r1.r 0).toLst.drop ((x.c 3).toLst.length : Int).toNat).length) 56 then
                                    some (.pv (.tup [.lst (([.agg [.int .i64 ((x.c 0).toInt), .int .i64 ((x.c 1).toInt), .str ((x.c 2).toStr), .lst r2.toLst]] : List PV) ++ ((r1.r 0).toLst.drop ((x.c 3).toLst.length : Int).toNat)), .bool true]), [])
                                  else none
                                else none
                              else none
                            else none
                          else none)
                      else none
                    else none
                  else lp_ [1, 1, 1, 1, 0, 1, 4] (st22_1111014 t n v (IntKind.i64.wrap (i + (1 : Int))) p_Name p_Version p_Uses p_Datas p_Traits p_Impls p_Funcs p_Actors)
                else none)
            else none)
        else none)
    else none
  else some (.pv (.tup [.lst [], .bool false]), []) := by kernel_rfl
theorem e22_1111014 (t : List PV) (n : Int) (v : List PV) (i : Int) (p_Name : List UInt8) (p_Version : Int) (p_Uses : List PV) (p_Datas : List PV) (p_Traits : List PV) (p_Impls : List PV) (p_Funcs : List PV) (p_Actors : List PV) : L22_1111014 t n v i p_Name p_Version p_Uses p_Datas p_Traits p_Impls p_Funcs p_Actors =
  bif decide (i < (v.length : Int)) then
    bif decide (0 ≤ i) then
      (v[i.toNat]?).bind fun x =>
        (bif (Sh.agg [Sh.int .i64, Sh.int .i64, Sh.str, Sh.lst]).fits x then
          ((V 35 [.pv (.lst t), .pv (.agg [.int .i64 ((x.c 0).toInt), .int .i64 ((x.c 1).toInt), .str ((x.c 2).toStr), .lst ((x.c 3).toLst)])]).bind retPV).bind fun r =>
            (bif (Sh.lst).fits r then
              ((V 22 [.pv (.agg [.str p_Name, .int .i64 p_Version, .lst p_Uses, .lst p_Datas, .lst p_Traits, .lst p_Impls, .lst p_Funcs, .lst p_Actors]), .pv (.lst r.toLst), .pv (.int .i64 (IntKind.i64.wrap ((IntKind.i64.wrap (((x.c 3).toLst.length : Int) + n)) - (1 : Int))))]).bind retPV).bind fun r1 =>
                (bif (Sh.tup [Sh.lst, Sh.bool]).fits r1 then
                  bif (r1.r 1).toBool then
                    bif headOk 4 (r1.r 0).toLst then
                      bif (decide (0 ≤ ((x.c 3).toLst.length : Int)) && decide (((x.c 3).toLst.length : Int) ≤ ((r1.r 0).toLst.length : Int))) then
                        ((V 10 [.pv (.lst ((r1.r 0).toLst.take ((x.c 3).toLst.length : Int).toNat))]).bind retPV).bind fun r2 =>
                          (bif (Sh.lst).fits r2 then
                            bif headOk 4 (r1.r 0).toLst then
                              bif (decide (0 ≤ ((x.c 3).toLst.length : Int)) && decide (((x.c 3).toLst.length : Int) ≤ ((r1.r 0).toLst.length : Int))) then
                                bif headOk 4 ((r1.r 0).toLst.drop ((x.c 3).toLst.length : Int).toNat) then
                                  bif small 1 (((r1.r 0).toLst.drop ((x.c 3).toLst.length : Int).toNat).length) 56 then
                                    some (.pv (.tup [.lst (([.agg [.int .i64 ((x.c 0).toInt), .int .i64 ((x.c 1).toInt), .str ((x.c 2).toStr), .lst r2.toLst]] : List PV) ++ ((r1.r 0).toLst.drop ((x.c 3).toLst.length : Int).toNat)), .bool true]), [])
                                  else none
                                else none
                              else none
                            else none
                          else none)
                      else none
                    else none
                  else L22_1111014 t n v (IntKind.i64.wrap (i + (1 : Int))) p_Name p_Version p_Uses p_Datas p_Traits p_Impls p_Funcs p_Actors
                else none)
            else none)
        else none)
    else none
  else some (.pv (.tup [.lst [], .bool false]), []) :=
  (LV_eq pa 22 _ _).trans (f22_1111014 t n v i p_Name p_Version p_Uses p_Datas p_Traits p_Impls p_Funcs p_Actors V (LV Pr T 22))
/-! 23 roadstead/cover.useful -/
def st23_11116 (t : List PV) (l : List PV) (p_Name : List UInt8) (p_Version : Int) (p_Uses : List PV) (p_Datas : List PV) (p_Traits : List PV) (p_Impls : List PV) (p_Funcs : List PV) (p_Actors : List PV) : AS :=
  ⟨[.any, .pv (.lst t), .pv (.lst l), .box 0 0, .any, .any, .any, .any, .any, .pv .nils, .any, .any, .any, .any, .any, .any, .any, .any, .any, .any, .any, .any, .any, .any, .any, .any, .any, .any, .any, .any, .any, .any, .any, .any, .any, .any, .any, .any, .any, .any, .any, .any, .any, .any, .any, .any, .any, .any, .any, .any, .any, .any, .any, .any, .any, .any, .any, .any, .any, .any, .any, .any, .any, .any, .any, .any, .any, .any, .any, .any, .any, .any], ⟨[(false, [.pv (.str p_Name), .pv (.int .i64 p_Version), .pv (.lst p_Uses), .pv (.lst p_Datas), .pv (.lst p_Traits), .pv (.lst p_Impls), .pv (.lst p_Funcs), .pv (.lst p_Actors)])], [], [], 0, 0⟩⟩
noncomputable def L23_11116 (t : List PV) (l : List PV) (p_Name : List UInt8) (p_Version : Int) (p_Uses : List PV) (p_Datas : List PV) (p_Traits : List PV) (p_Impls : List PV) (p_Funcs : List PV) (p_Actors : List PV) : Option Out := LV Pr T 23 [1, 1, 1, 1, 6] (st23_11116 t l p_Name p_Version p_Uses p_Datas p_Traits p_Impls p_Funcs p_Actors)
def st23_11116v1 (t : List PV) (l : List PV) (v : List PV) (p_Name : List UInt8) (p_Version : Int) (p_Uses : List PV) (p_Datas : List PV) (p_Traits : List PV) (p_Impls : List PV) (p_Funcs : List PV) (p_Actors : List PV) : AS :=
  ⟨[.any, .pv (.lst t), .pv (.lst l), .box 0 0, .any, .any, .any, .any, .any, .pv (.lst v), .any, .any, .any, .any, .any, .any, .any, .any, .any, .any, .any, .any, .any, .any, .any, .any, .any, .any, .any, .any, .any, .any, .any, .any, .any, .any, .any, .any, .any, .any, .any, .any, .any, .any, .any, .any, .any, .any, .any, .any, .any, .any, .any, .any, .any, .any, .any, .any, .any, .any, .any, .any, .any, .any, .any, .any, .any, .any, .any, .any, .any, .any], ⟨[(false, [.pv (.str p_Name), .pv (.int .i64 p_Version), .pv (.lst p_Uses), .pv (.lst p_Datas), .pv (.lst p_Traits), .pv (.lst p_Impls), .pv (.lst p_Funcs), .pv (.lst p_Actors)])], [], [], 0, 0⟩⟩
noncomputable def L23_11116v1 (t : List PV) (l : List PV) (v : List PV) (p_Name : List UInt8) (p_Version : Int) (p_Uses : List PV) (p_Datas : List PV) (p_Traits : List PV) (p_Impls : List PV) (p_Funcs : List PV) (p_Actors : List PV) : Option Out := LV Pr T 23 [1, 1, 1, 1, 6] (st23_11116v1 t l v p_Name p_Version p_Uses p_Datas p_Traits p_Impls p_Funcs p_Actors)
def st23_11111014 (t : List PV) (l : List PV) (v : List PV) (i : Int) (p_Name : List UInt8) (p_Version : Int) (p_Uses : List PV) (p_Datas : List PV) (p_Traits : List PV) (p_Impls : List PV) (p_Funcs : List PV) (p_Actors : List PV) : AS :=
  ⟨[.any, .pv (.lst t), .pv (.lst l), .box 0 0, .any, .any, .any, .any, .any, .any, .any, .any, .any, .any, .any, .any, .any, .any, .any, .any, .any, .any, .any, .any, .any, .any, .any, .any, .any, .any, .any, .any, .any, .any, .any, .any, .any, .any, .any, .any, .any, .any, .any, .any, .any, .any, .any, .any, .any, .any, .any, .any, .any, .pv (.lst v), .pv (.int .i64 (v.length : Int)), .pv (.int .i64 i), .any, .any, .any, .any, .any, .any, .any, .any, .any, .any, .any, .any, .any, .any, .any, .any], ⟨[(false, [.pv (.str p_Name), .pv (.int .i64 p_Version), .pv (.lst p_Uses), .pv (.lst p_Datas), .pv (.lst p_Traits), .pv (.lst p_Impls), .pv (.lst p_Funcs), .pv (.lst p_Actors)])], [], [], 0, 0⟩⟩
noncomputable def L23_11111014 (t : List PV) (l : List PV) (v : List PV) (i : Int) (p_Name : List UInt8) (p_Version : Int) (p_Uses : List PV) (p_Datas : List PV) (p_Traits : List PV) (p_Impls : List PV) (p_Funcs : List PV) (p_Actors : List PV) : Option Out := LV Pr T 23 [1, 1, 1, 1, 1, 0, 1, 4] (st23_11111014 t l v i p_Name p_Version p_Uses p_Datas p_Traits p_Impls p_Funcs p_Actors)
theorem f23 (p_Name : List UInt8) (p_Version : Int) (p_Uses : List PV) (p_Datas : List PV) (p_Traits : List PV) (p_Impls : List PV) (p_Funcs : List PV) (p_Actors : List PV) (t : List PV) (l : List PV) (cl_ : FuncId → List Arg → Option Out) (lp_ : List Nat → AS → Option Out) : runW Pr T cl_ lp_ 23 [.pv (.agg [.str p_Name, .int .i64 p_Version, .lst p_Uses, .lst p_Datas, .lst p_Traits, .lst p_Impls, .lst p_Funcs, .lst p_Actors]), .pv (.lst t), .pv (.lst l)] =
  bif ((l.length : Int) == (0 : Int)) then
    some (.pv (.bool ((t.length : Int) == (0 : Int))), [])
  else (l[(0 : Int).toNat]?).bind fun x =>
    (bif (Sh.agg [Sh.int .i64, Sh.int .i64, Sh.str, Sh.lst]).fits x then
      ((cl_ 36 [.pv (.agg [.int .i64 ((x.c 0).toInt), .int .i64 ((x.c 1).toInt), .str ((x.c 2).toStr), .lst ((x.c 3).toLst)])]).bind retPV).bind fun r =>
        (bif (Sh.bool).fits r then
          bif (!r.toBool) then
            (l[(0 : Int).toNat]?).bind fun x1 =>
              (bif (Sh.agg [Sh.int .i64, Sh.int .i64, Sh.str, Sh.lst]).fits x1 then
                ((cl_ 37 [.pv (.lst l), .pv (.agg [.int .i64 ((x1.c 0).toInt), .int .i64 ((x1.c 1).toInt), .str ((x1.c 2).toStr), .lst ((x1.c 3).toLst)])]).bind retPV).bind fun r1 =>
                  (bif (Sh.tup [Sh.lst, Sh.bool]).fits r1 then
                    (l[(0 : Int).toNat]?).bind fun x2 =>
                      (bif (Sh.agg [Sh.int .i64, Sh.int .i64, Sh.str, Sh.lst]).fits x2 then
                        ((cl_ 35 [.pv (.lst t), .pv (.agg [.int .i64 ((x2.c 0).toInt), .int .i64 ((x2.c 1).toInt), .str ((x2.c 2).toStr), .lst ((x2.c 3).toLst)])]).bind retPV).bind fun r2 =>
                          (bif (Sh.lst).fits r2 then
                            ((cl_ 23 [.pv (.agg [.str p_Name, .int .i64 p_Version, .lst p_Uses, .lst p_Datas, .lst p_Traits, .lst p_Impls, .lst p_Funcs, .lst p_Actors]), .pv (.lst r2.toLst), .pv (.lst ((r1.r 0).toLst))]).bind retPV).bind fun r3 =>
                              (bif (Sh.bool).fits r3 then
                                some (.pv (.bool r3.toBool), [])
                              else none)
                          else none)
                      else none)
                  else none)
              else none)
          else ((cl_ 32 [.pv (.lst t)]).bind retPV).bind fun r4 =>
            (bif (Sh.lst).fits r4 then
              ((cl_ 31 [.pv (.agg [.str p_Name, .int .i64 p_Version, .lst p_Uses, .lst p_Datas, .lst p_Traits, .lst p_Impls, .lst p_Funcs, .lst p_Actors]), .pv (.lst r4.toLst)]).bind retPV).bind fun r5 =>
                (bif r5.isNils then
                  lp_ [1, 1, 1, 1, 6] (st23_11116 t l p_Name p_Version p_Uses p_Datas p_Traits p_Impls p_Funcs p_Actors)
                else bif (Sh.lst).fits r5 then
                  lp_ [1, 1, 1, 1, 6] (st23_11116v1 t l r5.toLst p_Name p_Version p_Uses p_Datas p_Traits p_Impls p_Funcs p_Actors)
                else none)
            else none)
        else none)
    else none) := by kernel_rfl
theorem e23 (p_Name : List UInt8) (p_Version : Int) (p_Uses : List PV) (p_Datas : List PV) (p_Traits : List PV) (p_Impls : List PV) (p_Funcs : List PV) (p_Actors : List PV) (t : List PV) (l : List PV) : V 23 [.pv (.agg [.str p_Name, .int .i64 p_Version, .lst p_Uses, .lst p_Datas, .lst p_Traits, .lst p_Impls, .lst p_Funcs, .lst p_Actors]), .pv (.lst t), .pv (.lst l)] =
  bif ((l.length : Int) == (0 : Int)) then
    some (.pv (.bool ((t.length : Int) == (0 : Int))), [])
  else (l[(0 : Int).toNat]?).bind fun x =>
    (bif (Sh.agg [Sh.int .i64, Sh.int .i64, Sh.str, Sh.lst]).fits x then
      ((V 36 [.pv (.agg [.int .i64 ((x.c 0).toInt), .int .i64 ((x.c 1).toInt), .str ((x.c 2).toStr), .lst ((x.c 3).toLst)])]).bind retPV).bind fun r =>
        (bif (Sh.bool).fits r then
          bif (!r.toBool) then
            (l[(0 : Int).toNat]?).bind fun x1 =>
              (bif (Sh.agg [Sh.int .i64, Sh.int .i64, Sh.str, Sh.lst]).fits x1 then
                ((V 37 [.pv (.lst l), .pv (.agg [.int .i64 ((x1.c 0).toInt), .int .i64 ((x1.c 1).toInt), .str ((x1.c 2).toStr), .lst ((x1.c 3).toLst)])]).bind retPV).bind fun r1 =>
                  (bif (Sh.tup [Sh.lst, Sh.bool]).fits r1 then
                    (l[(0 : Int).toNat]?).bind fun x2 =>
                      (bif (Sh.agg [Sh.int .i64, Sh.int .i64, Sh.str, Sh.lst]).fits x2 then
                        ((V 35 [.pv (.lst t), .pv (.agg [.int .i64 ((x2.c 0).toInt), .int .i64 ((x2.c 1).toInt), .str ((x2.c 2).toStr), .lst ((x2.c 3).toLst)])]).bind retPV).bind fun r2 =>
                          (bif (Sh.lst).fits r2 then
                            ((V 23 [.pv (.agg [.str p_Name, .int .i64 p_Version, .lst p_Uses, .lst p_Datas, .lst p_Traits, .lst p_Impls, .lst p_Funcs, .lst p_Actors]), .pv (.lst r2.toLst), .pv (.lst ((r1.r 0).toLst))]).bind retPV).bind fun r3 =>
                              (bif (Sh.bool).fits r3 then
                                some (.pv (.bool r3.toBool), [])
                              else none)
                          else none)
                      else none)
                  else none)
              else none)
          else ((V 32 [.pv (.lst t)]).bind retPV).bind fun r4 =>
            (bif (Sh.lst).fits r4 then
              ((V 31 [.pv (.agg [.str p_Name, .int .i64 p_Version, .lst p_Uses, .lst p_Datas, .lst p_Traits, .lst p_Impls, .lst p_Funcs, .lst p_Actors]), .pv (.lst r4.toLst)]).bind retPV).bind fun r5 =>
                (bif r5.isNils then
                  L23_11116 t l p_Name p_Version p_Uses p_Datas p_Traits p_Impls p_Funcs p_Actors
                else bif (Sh.lst).fits r5 then
                  L23_11116v1 t l r5.toLst p_Name p_Version p_Uses p_Datas p_Traits p_Impls p_Funcs p_Actors
                else none)
            else none)
        else none)
    else none) :=
  (V_eq pa rfl _).trans (f23 p_Name p_Version p_Uses p_Datas p_Traits p_Impls p_Funcs p_Actors t l V (LV Pr T 23))
theorem f23_11116 (t : List PV) (l : List PV) (p_Name : List UInt8) (p_Version : Int) (p_Uses : List PV) (p_Datas : List PV) (p_Traits : List PV) (p_Impls : List PV) (p_Funcs : List PV) (p_Actors : List PV) (cl_ : FuncId → List Arg → Option Out) (lp_ : List Nat → AS → Option Out) : stepW Pr T cl_ lp_ 23 [1, 1, 1, 1, 6] (st23_11116 t l p_Name p_Version p_Uses p_Datas p_Traits p_Impls p_Funcs p_Actors) =
  ((cl_ 33 [.pv (.lst t)]).bind retPV).bind fun r =>
    (bif (Sh.lst).fits r then
      bif headOk 4 l then
        bif (decide (0 ≤ (1 : Int)) && decide ((1 : Int) ≤ (l.length : Int))) then
          ((cl_ 23 [.pv (.agg [.str p_Name, .int .i64 p_Version, .lst p_Uses, .lst p_Datas, .lst p_Traits, .lst p_Impls, .lst p_Funcs, .lst p_Actors]), .pv (.lst r.toLst), .pv (.lst (l.drop (1 : Int).toNat))]).bind retPV).bind fun r1 =>
            (bif (Sh.bool).fits r1 then
              some (.pv (.bool r1.toBool), [])
            else none)
        else none
      else none
    else none) := by kernel_rfl
theorem e23_11116 (t : List PV) (l : List PV) (p_Name : List UInt8) (p_Version : Int) (p_Uses : List PV) (p_Datas : List PV) (p_Traits : List PV) (p_Impls : List PV) (p_Funcs : List PV) (p_Actors : List PV) : L23_11116 t l p_Name p_Version p_Uses p_Datas p_Traits p_Impls p_Funcs p_Actors =
  ((V 33 [.pv (.lst t)]).bind retPV).bind fun r =>
    (bif (Sh.lst).fits r then
      bif headOk 4 l then
        bif (decide (0 ≤ (1 : Int)) && decide ((1 : Int) ≤ (l.length : Int))) then
          ((V 23 [.pv (.agg [.str p_Name, .int .i64 p_Version, .lst p_Uses, .lst p_Datas, .lst p_Traits, .lst p_Impls, .lst p_Funcs, .lst p_Actors]), .pv (.lst r.toLst), .pv (.lst (l.drop (1 : Int).toNat))]).bind retPV).bind fun r1 =>
            (bif (Sh.bool).fits r1 then
              some (.pv (.bool r1.toBool), [])
            else none)
        else none
      else none
    else none) :=
  (LV_eq pa 23 _ _).trans (f23_11116 t l p_Name p_Version p_Uses p_Datas p_Traits p_Impls p_Funcs p_Actors V (LV Pr T 23))
theorem f23_11116v1 (t : List PV) (l : List PV) (v : List PV) (p_Name : List UInt8) (p_Version : Int) (p_Uses : List PV) (p_Datas : List PV) (p_Traits : List PV) (p_Impls : List PV) (p_Funcs : List PV) (p_Actors : List PV) (cl_ : FuncId → List Arg → Option Out) (lp_ : List Nat → AS → Option Out) : stepW Pr T cl_ lp_ 23 [1, 1, 1, 1, 6] (st23_11116v1 t l v p_Name p_Version p_Uses p_Datas p_Traits p_Impls p_Funcs p_Actors) =
  (some? v).bind fun _ =>
    (lp_ [1, 1, 1, 1, 1, 0, 1, 4] (st23_11111014 t l v 0 p_Name p_Version p_Uses p_Datas p_Traits p_Impls p_Funcs p_Actors)) := by kernel_rfl
theorem e23_11116v1 (t : List PV) (l : List PV) (v : List PV) (p_Name : List UInt8) (p_Version : Int) (p_Uses : List PV) (p_Datas : List PV) (p_Traits : List PV) (p_Impls : List PV) (p_Funcs : List PV) (p_Actors : List PV) : L23_11116v1 t l v p_Name p_Version p_Uses p_Datas p_Traits p_Impls p_Funcs p_Actors =
  (some? v).bind fun _ =>
    (L23_11111014 t l v 0 p_Name p_Version p_Uses p_Datas p_Traits p_Impls p_Funcs p_Actors) :=
  (LV_eq pa 23 _ _).trans (f23_11116v1 t l v p_Name p_Version p_Uses p_Datas p_Traits p_Impls p_Funcs p_Actors V (LV Pr T 23))
theorem f23_11111014 (t : List PV) (l : List PV) (v : List PV) (i : Int) (p_Name : List UInt8) (p_Version : Int) (p_Uses : List PV) (p_Datas : List PV) (p_Traits : List PV) (p_Impls : List PV) (p_Funcs : List PV) (p_Actors : List PV) (cl_ : FuncId → List Arg → Option Out) (lp_ : List Nat → AS → Option Out) : stepW Pr T cl_ lp_ 23 [1, 1, 1, 1, 1, 0, 1, 4] (st23_11111014 t l v i p_Name p_Version p_Uses p_Datas p_Traits p_Impls p_Funcs p_Actors) =
  bif decide (i < (v.length : Int)) then
    bif decide (0 ≤ i) then
      (v[i.toNat]?).bind fun x =>
        (bif (Sh.agg [Sh.int .i64, Sh.int .i64, Sh.str, Sh.lst]).fits x then
          ((cl_ 37 [.pv (.lst l), .pv (.agg [.int .i64 ((x.c 0).toInt), .int .i64 ((x.c 1).toInt), .str ((x.c 2).toStr), .lst ((x.c 3).toLst)])]).bind retPV).bind fun r =>
            (bif (Sh.tup [Sh.lst, Sh.bool]).fits r then
              ((cl_ 35 [.pv (.lst t), .pv (.agg [.int .i64 ((x.c 0).toInt), .int .i64 ((x.c 1).toInt), .str ((x.c 2).toStr), .lst ((x.c 3).toLst)])]).bind retPV).bind fun r1 =>
                (bif (Sh.lst).fits r1 then
                  ((cl_ 23 [.pv (.agg [.str p_Name, .int .i64 p_Version, .lst p_Uses, .lst p_Datas, .lst p_Traits, .lst p_Impls, .lst p_Funcs, .lst p_Actors]), .pv (.lst r1.toLst), .pv (.lst ((r.r 0).toLst))]).bind retPV).bind fun r2 =>
                    (bif (Sh.bool).fits r2 then
                      bif r2.toBool then
                        some (.pv (.bool true), [])
                      else lp_ [1, 1, 1, 1, 1, 0, 1, 4] (st23_11111014 t l v (IntKind.i64.wrap (i + (1 : Int))) p_Name p_Version p_Uses p_Datas p_Traits p_Impls p_Funcs p_Actors)
                    else none)
                else none)
            else none)
        else none)
    else none
  else some (.pv (.bool false), []) := by kernel_rfl
theorem e23_11111014 (t : List PV) (l : List PV) (v : List PV) (i : Int) (p_Name : List UInt8) (p_Version : Int) (p_Uses : List PV) (p_Datas : List PV) (p_Traits : List PV) (p_Impls : List PV) (p_Funcs : List PV) (p_Actors : List PV) : L23_11111014 t l v i p_Name p_Version p_Uses p_Datas p_Traits p_Impls p_Funcs p_Actors =
  bif decide (i < (v.length : Int)) then
    bif decide (0 ≤ i) then
      (v[i.toNat]?).bind fun x =>
        (bif (Sh.agg [Sh.int .i64, Sh.int .i64, Sh.str, Sh.lst]).fits x then
          ((V 37 [.pv (.lst l), .pv (.agg [.int .i64 ((x.c 0).toInt), .int .i64 ((x.c 1).toInt), .str ((x.c 2).toStr), .lst ((x.c 3).toLst)])]).bind retPV).bind fun r =>
            (bif (Sh.tup [Sh.lst, Sh.bool]).fits r then
              ((V 35 [.pv (.lst t), .pv (.agg [.int .i64 ((x.c 0).toInt), .int .i64 ((x.c 1).toInt), .str ((x.c 2).toStr), .lst ((x.c 3).toLst)])]).bind retPV).bind fun r1 =>
                (bif (Sh.lst).fits r1 then
                  ((V 23 [.pv (.agg [.str p_Name, .int .i64 p_Version, .lst p_Uses, .lst p_Datas, .lst p_Traits, .lst p_Impls, .lst p_Funcs, .lst p_Actors]), .pv (.lst r1.toLst), .pv (.lst ((r.r 0).toLst))]).bind retPV).bind fun r2 =>
                    (bif (Sh.bool).fits r2 then
                      bif r2.toBool then
                        some (.pv (.bool true), [])
                      else L23_11111014 t l v (IntKind.i64.wrap (i + (1 : Int))) p_Name p_Version p_Uses p_Datas p_Traits p_Impls p_Funcs p_Actors
                    else none)
                else none)
            else none)
        else none)
    else none
  else some (.pv (.bool false), []) :=
  (LV_eq pa 23 _ _).trans (f23_11111014 t l v i p_Name p_Version p_Uses p_Datas p_Traits p_Impls p_Funcs p_Actors V (LV Pr T 23))
/-! 34 roadstead/cover.other -/
def st34_114 (col : List PV) (i : Int) : AS :=
  ⟨[.pv (.lst col), .any, .box 0 0, .pv (.int .i64 i), .any, .any, .any, .any, .any, .any, .any, .any, .any, .any, .any, .any, .any, .any, .any, .any, .any, .any, .any, .any, .any, .any, .any, .any, .any, .any, .any, .any, .any, .any, .any, .any, .any, .any, .any, .any, .any, .any, .any, .any, .any, .any, .any, .any, .any, .any, .any, .any, .any, .any, .any, .any, .any, .any, .any, .any, .any, .any, .any, .any, .any, .any, .any, .any, .any], ⟨[(false, [.pv (.int .i64 0), .pv (.int .i64 0), .pv (.str []), .pv .nils])], [], [], 0, 0⟩⟩
noncomputable def L34_114 (col : List PV) (i : Int) : Option Out := LV Pr T 34 [1, 1, 4] (st34_114 col i)
def st34_11450411014 (col : List PV) (i1 : Int) (i : Int) (s : List UInt8) : AS :=
  ⟨[.pv (.lst col), .any, .box 0 0, .pv (.int .i64 i1), .box 1 0, .box 2 0, .any, .any, .any, .any, .any, .any, .any, .any, .any, .pv (.int .i64 i1), .pv (.int .i64 i), .any, .any, .any, .any, .any, .any, .any, .any, .any, .any, .any, .any, .any, .any, .any, .any, .any, .any, .any, .any, .any, .any, .any, .any, .any, .any, .any, .any, .any, .any, .any, .any, .any, .any, .any, .any, .any, .any, .any, .any, .any, .any, .any, .any, .any, .any, .any, .any, .any, .any, .any, .any], ⟨[(false, [.pv (.int .i64 0), .pv (.int .i64 0), .pv (.str []), .pv .nils]), (false, [.pv (.int .i64 3), .pv (.int .i64 i1), .pv (.str []), .pv (.lst [])]), (false, [.pv (.int .i64 5), .pv (.int .i64 0), .pv (.str s), .pv (.lst [])])], [], [], 0, 0⟩⟩
noncomputable def L34_11450411014 (col : List PV) (i1 : Int) (i : Int) (s : List UInt8) : Option Out := LV Pr T 34 [1, 1, 4, 5, 0, 4, 1, 1, 0, 1, 4] (st34_11450411014 col i1 i s)
def st34_1145041111014 (col : List PV) (i2 : Int) (b : Bool) (b1 : Bool) (i : Int) (s1 : List UInt8) : AS :=
  ⟨[.pv (.lst col), .any, .box 0 0, .pv (.int .i64 i2), .box 1 0, .box 2 0, .pv (.bool b), .pv (.bool b1), .any, .any, .any, .any, .any, .any, .any, .any, .any, .any, .any, .any, .any, .any, .any, .pv (.lst col), .pv (.int .i64 (col.length : Int)), .pv (.int .i64 i), .any, .any, .any, .any, .any, .any, .any, .any, .any, .any, .any, .any, .any, .any, .any, .any, .any, .any, .any, .any, .any, .any, .any, .any, .any, .any, .any, .any, .any, .any, .any, .any, .any, .any, .any, .any, .any, .any, .any, .any, .any, .any, .any], ⟨[(false, [.pv (.int .i64 0), .pv (.int .i64 0), .pv (.str []), .pv .nils]), (false, [.pv (.int .i64 3), .pv (.int .i64 i2), .pv (.str []), .pv (.lst [])]), (false, [.pv (.int .i64 5), .pv (.int .i64 0), .pv (.str s1), .pv (.lst [])])], [], [], 0, 0⟩⟩
noncomputable def L34_1145041111014 (col : List PV) (i2 : Int) (b : Bool) (b1 : Bool) (i : Int) (s1 : List UInt8) : Option Out := LV Pr T 34 [1, 1, 4, 5, 0, 4, 1, 1, 1, 1, 0, 1, 4] (st34_1145041111014 col i2 b b1 i s1)
def st34_11450411111416 (col : List PV) (i : Int) (b2 : Bool) (b3 : Bool) (s : List UInt8) : AS :=
  ⟨[.pv (.lst col), .any, .box 0 0, .pv (.int .i64 i), .box 1 0, .box 2 0, .pv (.bool b2), .any, .any, .any, .any, .any, .any, .any, .any, .any, .any, .any, .any, .any, .any, .any, .any, .any, .any, .any, .any, .any, .any, .any, .any, .any, .any, .any, .any, .any, .any, .any, .any, .any, .any, .any, .pv (.bool b3), .any, .any, .any, .any, .any, .any, .any, .any, .any, .any, .any, .any, .any, .any, .any, .any, .any, .any, .any, .any, .any, .any, .any, .any, .any, .any], ⟨[(false, [.pv (.int .i64 0), .pv (.int .i64 0), .pv (.str []), .pv .nils]), (false, [.pv (.int .i64 3), .pv (.int .i64 i), .pv (.str []), .pv (.lst [])]), (false, [.pv (.int .i64 5), .pv (.int .i64 0), .pv (.str s), .pv (.lst [])])], [], [], 0, 0⟩⟩
noncomputable def L34_11450411111416 (col : List PV) (i : Int) (b2 : Bool) (b3 : Bool) (s : List UInt8) : Option Out := LV Pr T 34 [1, 1, 4, 5, 0, 4, 1, 1, 1, 1, 1, 4, 1, 6] (st34_11450411111416 col i b2 b3 s)
def st34_1145041111141316 (col : List PV) (i1 : Int) (b2 : Bool) (v : Bool) (s1 : List UInt8) : AS :=
  ⟨[.pv (.lst col), .any, .box 0 0, .pv (.int .i64 i1), .box 1 0, .box 2 0, .pv (.bool b2), .any, .any, .any, .any, .any, .any, .any, .any, .any, .any, .any, .any, .any, .any, .any, .any, .any, .any, .any, .any, .any, .any, .any, .any, .any, .any, .any, .any, .any, .any, .any, .any, .any, .any, .any, .any, .any, .any, .any, .any, .any, .any, .any, .pv (.bool (!v)), .any, .any, .any, .any, .any, .any, .any, .any, .any, .any, .any, .any, .any, .any, .any, .any, .any, .any], ⟨[(false, [.pv (.int .i64 0), .pv (.int .i64 0), .pv (.str []), .pv .nils]), (true, [.pv (.int .i64 3), .pv (.int .i64 i1), .pv (.str []), .pv (.lst [])]), (false, [.pv (.int .i64 5), .pv (.int .i64 0), .pv (.str s1), .pv (.lst [])])], [], [], 0, 0⟩⟩
noncomputable def L34_1145041111141316 (col : List PV) (i1 : Int) (b2 : Bool) (v : Bool) (s1 : List UInt8) : Option Out := LV Pr T 34 [1, 1, 4, 5, 0, 4, 1, 1, 1, 1, 1, 4, 1, 3, 1, 6] (st34_1145041111141316 col i1 b2 v s1)
def st34_1145041111141316v1 (col : List PV) (i1 : Int) (b2 : Bool) (s1 : List UInt8) : AS :=
  ⟨[.pv (.lst col), .any, .box 0 0, .pv (.int .i64 i1), .box 1 0, .box 2 0, .pv (.bool b2), .any, .any, .any, .any, .any, .any, .any, .any, .any, .any, .any, .any, .any, .any, .any, .any, .any, .any, .any, .any, .any, .any, .any, .any, .any, .any, .any, .any, .any, .any, .any, .any, .any, .any, .any, .any, .any, .any, .any, .any, .any, .any, .any, .pv (.bool false), .any, .any, .any, .any, .any, .any, .any, .any, .any, .any, .any, .any, .any, .any, .any, .any, .any, .any], ⟨[(false, [.pv (.int .i64 0), .pv (.int .i64 0), .pv (.str []), .pv .nils]), (false, [.pv (.int .i64 3), .pv (.int .i64 i1), .pv (.str []), .pv (.lst [])]), (false, [.pv (.int .i64 5), .pv (.int .i64 0), .pv (.str s1), .pv (.lst [])])], [], [], 0, 0⟩⟩
noncomputable def L34_1145041111141316v1 (col : List PV) (i1 : Int) (b2 : Bool) (s1 : List UInt8) : Option Out := LV Pr T 34 [1, 1, 4, 5, 0, 4, 1, 1, 1, 1, 1, 4, 1, 3, 1, 6] (st34_1145041111141316v1 col i1 b2 s1)
theorem f34 (col : List PV) (cl_ : FuncId → List Arg → Option Out) (lp_ : List Nat → AS → Option Out) : runW Pr T cl_ lp_ 34 [.pv (.lst col)] =
  lp_ [1, 1, 4] (st34_114 col 0) := by kernel_rfl
theorem e34 (col : List PV) : V 34 [.pv (.lst col)] =
  L34_114 col 0 :=
  (V_eq pa rfl _).trans (f34 col V (LV Pr T 34))
theorem f34_114 (col : List PV) (i : Int) (cl_ : FuncId → List Arg → Option Out) (lp_ : List Nat → AS → Option Out) : stepW Pr T cl_ lp_ 34 [1, 1, 4] (st34_114 col i) =
  lp_ [1, 1, 4, 5, 0, 4, 1, 1, 0, 1, 4] (st34_11450411014 col i 0 []) := by kernel_rfl
theorem e34_114 (col : List PV) (i : Int) : L34_114 col i =
  L34_11450411014 col i 0 [] :=
  (LV_eq pa 34 _ _).trans (f34_114 col i V (LV Pr T 34))
theorem f34_11450411014 (col : List PV) (i1 : Int) (i : Int) (s : List UInt8) (cl_ : FuncId → List Arg → Option Out) (lp_ : List Nat → AS → Option Out) : stepW Pr T cl_ lp_ 34 [1, 1, 4, 5, 0, 4, 1, 1, 0, 1, 4] (st34_11450411014 col i1 i s) =
  bif decide (i < i1) then
    bif decide (s.length + ([97] : List UInt8).length ≤ 2147483648) then
      lp_ [1, 1, 4, 5, 0, 4, 1, 1, 0, 1, 4] (st34_11450411014 col i1 (IntKind.i64.wrap (i + (1 : Int))) (s ++ [97]))
    else none
  else lp_ [1, 1, 4, 5, 0, 4, 1, 1, 1, 1, 0, 1, 4] (st34_1145041111014 col i1 false false 0 s) := by kernel_rfl
theorem e34_11450411014 (col : List PV) (i1 : Int) (i : Int) (s : List UInt8) : L34_11450411014 col i1 i s =
  bif decide (i < i1) then
    bif decide (s.length + ([97] : List UInt8).length ≤ 2147483648) then
      L34_11450411014 col i1 (IntKind.i64.wrap (i + (1 : Int))) (s ++ [97])
    else none
  else L34_1145041111014 col i1 false false 0 s :=
  (LV_eq pa 34 _ _).trans (f34_11450411014 col i1 i s V (LV Pr T 34))
theorem f34_1145041111014 (col : List PV) (i2 : Int) (b : Bool) (b1 : Bool) (i : Int) (s1 : List UInt8) (cl_ : FuncId → List Arg → Option Out) (lp_ : List Nat → AS → Option Out) : stepW Pr T cl_ lp_ 34 [1, 1, 4, 5, 0, 4, 1, 1, 1, 1, 0, 1, 4] (st34_1145041111014 col i2 b b1 i s1) =
  bif decide (i < (col.length : Int)) then
    bif decide (0 ≤ i) then
      (col[i.toNat]?).bind fun x =>
        (bif (Sh.agg [Sh.int .i64, Sh.int .i64, Sh.str, Sh.lst]).fits x then
          bif b then
            bif b1 then
              lp_ [1, 1, 4, 5, 0, 4, 1, 1, 1, 1, 0, 1, 4] (st34_1145041111014 col i2 true true (IntKind.i64.wrap (i + (1 : Int))) s1)
            else lp_ [1, 1, 4, 5, 0, 4, 1, 1, 1, 1, 0, 1, 4] (st34_1145041111014 col i2 true (((x.c 0).toInt) == (5 : Int)) (IntKind.i64.wrap (i + (1 : Int))) s1)
          else bif b1 then
            lp_ [1, 1, 4, 5, 0, 4, 1, 1, 1, 1, 0, 1, 4] (st34_1145041111014 col i2 (((x.c 0).toInt) == (3 : Int)) true (IntKind.i64.wrap (i + (1 : Int))) s1)
          else lp_ [1, 1, 4, 5, 0, 4, 1, 1, 1, 1, 0, 1, 4] (st34_1145041111014 col i2 (((x.c 0).toInt) == (3 : Int)) (((x.c 0).toInt) == (5 : Int)) (IntKind.i64.wrap (i + (1 : Int))) s1)
        else none)
    else none
  else bif (!b) then
    lp_ [1, 1, 4, 5, 0, 4, 1, 1, 1, 1, 1, 4, 1, 6] (st34_11450411111416 col i2 b (!b1) s1)
  else lp_ [1, 1, 4, 5, 0, 4, 1, 1, 1, 1, 1, 4, 1, 6] (st34_11450411111416 col i2 b false s1) := by kernel_rfl
theorem e34_1145041111014 (col : List PV) (i2 : Int) (b : Bool) (b1 : Bool) (i : Int) (s1 : List UInt8) : L34_1145041111014 col i2 b b1 i s1 =
  bif decide (i < (col.length : Int)) then
    bif decide (0 ≤ i) then
      (col[i.toNat]?).bind fun x =>
        (bif (Sh.agg [Sh.int .i64, Sh.int .i64, Sh.str, Sh.lst]).fits x then
          bif b then
            bif b1 then
              L34_1145041111014 col i2 true true (IntKind.i64.wrap (i + (1 : Int))) s1
            else L34_1145041111014 col i2 true (((x.c 0).toInt) == (5 : Int)) (IntKind.i64.wrap (i + (1 : Int))) s1
          else bif b1 then
            L34_1145041111014 col i2 (((x.c 0).toInt) == (3 : Int)) true (IntKind.i64.wrap (i + (1 : Int))) s1
          else L34_1145041111014 col i2 (((x.c 0).toInt) == (3 : Int)) (((x.c 0).toInt) == (5 : Int)) (IntKind.i64.wrap (i + (1 : Int))) s1
        else none)
    else none
  else bif (!b) then
    L34_11450411111416 col i2 b (!b1) s1
  else L34_11450411111416 col i2 b false s1 :=
  (LV_eq pa 34 _ _).trans (f34_1145041111014 col i2 b b1 i s1 V (LV Pr T 34))
theorem f34_11450411111416 (col : List PV) (i : Int) (b2 : Bool) (b3 : Bool) (s : List UInt8) (cl_ : FuncId → List Arg → Option Out) (lp_ : List Nat → AS → Option Out) : stepW Pr T cl_ lp_ 34 [1, 1, 4, 5, 0, 4, 1, 1, 1, 1, 1, 4, 1, 6] (st34_11450411111416 col i b2 b3 s) =
  bif b3 then
    ((cl_ 50 []).bind retPV).bind fun r =>
      (bif (Sh.agg [Sh.int .i64, Sh.int .i64, Sh.str, Sh.lst]).fits r then
        some (.pv (.agg [.int .i64 ((r.c 0).toInt), .int .i64 ((r.c 1).toInt), .str ((r.c 2).toStr), .lst ((r.c 3).toLst)]), [])
      else none)
  else bif b2 then
    ((cl_ 51 [.pv (.lst col), .pv (.fn 52 [.ptr [.int .i64 3, .int .i64 i, .str [], .lst []]])]).bind retPV).bind fun r1 =>
      (bif (Sh.bool).fits r1 then
        lp_ [1, 1, 4, 5, 0, 4, 1, 1, 1, 1, 1, 4, 1, 3, 1, 6] (st34_1145041111141316 col i b2 r1.toBool s)
      else none)
  else lp_ [1, 1, 4, 5, 0, 4, 1, 1, 1, 1, 1, 4, 1, 3, 1, 6] (st34_1145041111141316v1 col i b2 s) := by kernel_rfl
theorem e34_11450411111416 (col : List PV) (i : Int) (b2 : Bool) (b3 : Bool) (s : List UInt8) : L34_11450411111416 col i b2 b3 s =
  bif b3 then
    ((V 50 []).bind retPV).bind fun r =>
      (bif (Sh.agg [Sh.int .i64, Sh.int .i64, Sh.str, Sh.lst]).fits r then
        some (.pv (.agg [.int .i64 ((r.c 0).toInt), .int .i64 ((r.c 1).toInt), .str ((r.c 2).toStr), .lst ((r.c 3).toLst)]), [])
      else none)
  else bif b2 then
    ((V 51 [.pv (.lst col), .pv (.fn 52 [.ptr [.int .i64 3, .int .i64 i, .str [], .lst []]])]).bind retPV).bind fun r1 =>
      (bif (Sh.bool).fits r1 then
        L34_1145041111141316 col i b2 r1.toBool s
      else none)
  else L34_1145041111141316v1 col i b2 s :=
  (LV_eq pa 34 _ _).trans (f34_11450411111416 col i b2 b3 s V (LV Pr T 34))
theorem f34_1145041111141316 (col : List PV) (i1 : Int) (b2 : Bool) (v : Bool) (s1 : List UInt8) (cl_ : FuncId → List Arg → Option Out) (lp_ : List Nat → AS → Option Out) : stepW Pr T cl_ lp_ 34 [1, 1, 4, 5, 0, 4, 1, 1, 1, 1, 1, 4, 1, 3, 1, 6] (st34_1145041111141316 col i1 b2 v s1) =
  bif (!v) then
    some (.pv (.agg [.int .i64 3, .int .i64 i1, .str [], .lst []]), [])
  else bif (!b2) then
    ((cl_ 51 [.pv (.lst col), .pv (.fn 54 [.ptr [.int .i64 5, .int .i64 0, .str s1, .lst []]])]).bind retPV).bind fun r =>
      (bif (Sh.bool).fits r then
        bif (!r.toBool) then
          some (.pv (.agg [.int .i64 5, .int .i64 0, .str s1, .lst []]), [])
        else lp_ [1, 1, 4] (st34_114 col (IntKind.i64.wrap (i1 + (1 : Int))))
      else none)
  else lp_ [1, 1, 4] (st34_114 col (IntKind.i64.wrap (i1 + (1 : Int)))) := by kernel_rfl
theorem e34_1145041111141316 (col : List PV) (i1 : Int) (b2 : Bool) (v : Bool) (s1 : List UInt8) : L34_1145041111141316 col i1 b2 v s1 =
  bif (!v) then
    some (.pv (.agg [.int .i64 3, .int .i64 i1, .str [], .lst []]), [])
  else bif (!b2) then
    ((V 51 [.pv (.lst col), .pv (.fn 54 [.ptr [.int .i64 5, .int .i64 0, .str s1, .lst []]])]).bind retPV).bind fun r =>
      (bif (Sh.bool).fits r then
        bif (!r.toBool) then
          some (.pv (.agg [.int .i64 5, .int .i64 0, .str s1, .lst []]), [])
        else L34_114 col (IntKind.i64.wrap (i1 + (1 : Int)))
      else none)
  else L34_114 col (IntKind.i64.wrap (i1 + (1 : Int))) :=
  (LV_eq pa 34 _ _).trans (f34_1145041111141316 col i1 b2 v s1 V (LV Pr T 34))
theorem f34_1145041111141316v1 (col : List PV) (i1 : Int) (b2 : Bool) (s1 : List UInt8) (cl_ : FuncId → List Arg → Option Out) (lp_ : List Nat → AS → Option Out) : stepW Pr T cl_ lp_ 34 [1, 1, 4, 5, 0, 4, 1, 1, 1, 1, 1, 4, 1, 3, 1, 6] (st34_1145041111141316v1 col i1 b2 s1) =
  bif (!b2) then
    ((cl_ 51 [.pv (.lst col), .pv (.fn 54 [.ptr [.int .i64 5, .int .i64 0, .str s1, .lst []]])]).bind retPV).bind fun r =>
      (bif (Sh.bool).fits r then
        bif (!r.toBool) then
          some (.pv (.agg [.int .i64 5, .int .i64 0, .str s1, .lst []]), [])
        else lp_ [1, 1, 4] (st34_114 col (IntKind.i64.wrap (i1 + (1 : Int))))
      else none)
  else lp_ [1, 1, 4] (st34_114 col (IntKind.i64.wrap (i1 + (1 : Int)))) := by kernel_rfl
theorem e34_1145041111141316v1 (col : List PV) (i1 : Int) (b2 : Bool) (s1 : List UInt8) : L34_1145041111141316v1 col i1 b2 s1 =
  bif (!b2) then
    ((V 51 [.pv (.lst col), .pv (.fn 54 [.ptr [.int .i64 5, .int .i64 0, .str s1, .lst []]])]).bind retPV).bind fun r =>
      (bif (Sh.bool).fits r then
        bif (!r.toBool) then
          some (.pv (.agg [.int .i64 5, .int .i64 0, .str s1, .lst []]), [])
        else L34_114 col (IntKind.i64.wrap (i1 + (1 : Int)))
      else none)
  else L34_114 col (IntKind.i64.wrap (i1 + (1 : Int))) :=
  (LV_eq pa 34 _ _).trans (f34_1145041111141316v1 col i1 b2 s1 V (LV Pr T 34))
end Go.AL.S11
