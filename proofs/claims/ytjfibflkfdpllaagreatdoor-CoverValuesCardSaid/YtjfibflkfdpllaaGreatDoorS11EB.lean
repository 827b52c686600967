/- Equations of functions in the abstract machine: printed by gen.py. -/
import Derived.Test.YtjfibflkfdpllaaGreatDoorS11T
set_option linter.unusedVariables false
set_option maxRecDepth 100000
namespace Go.AL.S11
open Go Go.AL
/-! 9 roadstead/cover.Missing -/
def st9_11014 (l1 : List PV) (l : List PV) (i : Int) (p_Name : List UInt8) (p_Version : Int) (p_Uses : List PV) (p_Datas : List PV) (p_Traits : List PV) (p_Impls : List PV) (p_Funcs : List PV) (p_Actors : List PV) : AS :=
  ⟨[.any, .any, .box 0 0, .any, .box 1 0, .any, .bld 0 0 l1, .any, .any, .any, .any, .pv (.lst l), .pv (.int .i64 (l.length : Int)), .pv (.int .i64 i), .any, .any, .any, .any, .any, .any, .any, .any, .any, .any, .any, .any, .any, .any, .any, .any, .any, .any, .any, .any, .any], ⟨[(false, [.pv (.str p_Name), .pv (.int .i64 p_Version), .pv (.lst p_Uses), .pv (.lst p_Datas), .pv (.lst p_Traits), .pv (.lst p_Impls), .pv (.lst p_Funcs), .pv (.lst p_Actors)]), (false, [.pv (.int .i64 0), .pv (.int .i64 0), .pv (.str []), .pv .nils])], [], [(0, 1)], 0, 0⟩⟩
noncomputable def L9_11014 (l1 : List PV) (l : List PV) (i : Int) (p_Name : List UInt8) (p_Version : Int) (p_Uses : List PV) (p_Datas : List PV) (p_Traits : List PV) (p_Impls : List PV) (p_Funcs : List PV) (p_Actors : List PV) : Option Out := LV Pr T 9 [1, 1, 0, 1, 4] (st9_11014 l1 l i p_Name p_Version p_Uses p_Datas p_Traits p_Impls p_Funcs p_Actors)
theorem f9 (p_Name : List UInt8) (p_Version : Int) (p_Uses : List PV) (p_Datas : List PV) (p_Traits : List PV) (p_Impls : List PV) (p_Funcs : List PV) (p_Actors : List PV) (l : List PV) (cl_ : FuncId → List Arg → Option Out) (lp_ : List Nat → AS → Option Out) : runW Pr T cl_ lp_ 9 [.pv (.agg [.str p_Name, .int .i64 p_Version, .lst p_Uses, .lst p_Datas, .lst p_Traits, .lst p_Impls, .lst p_Funcs, .lst p_Actors]), .pv (.lst l)] =
  lp_ [1, 1, 0, 1, 4] (st9_11014 [] l 0 p_Name p_Version p_Uses p_Datas p_Traits p_Impls p_Funcs p_Actors) := by kernel_rfl
theorem e9 (p_Name : List UInt8) (p_Version : Int) (p_Uses : List PV) (p_Datas : List PV) (p_Traits : List PV) (p_Impls : List PV) (p_Funcs : List PV) (p_Actors : List PV) (l : List PV) : V 9 [.pv (.agg [.str p_Name, .int .i64 p_Version, .lst p_Uses, .lst p_Datas, .lst p_Traits, .lst p_Impls, .lst p_Funcs, .lst p_Actors]), .pv (.lst l)] =
  L9_11014 [] l 0 p_Name p_Version p_Uses p_Datas p_Traits p_Impls p_Funcs p_Actors :=
  (V_eq pa rfl _).trans (f9 p_Name p_Version p_Uses p_Datas p_Traits p_Impls p_Funcs p_Actors l V (LV Pr T 9))
theorem f9_11014 (l1 : List PV) (l : List PV) (i : Int) (p_Name : List UInt8) (p_Version : Int) (p_Uses : List PV) (p_Datas : List PV) (p_Traits : List PV) (p_Impls : List PV) (p_Funcs : List PV) (p_Actors : List PV) (cl_ : FuncId → List Arg → Option Out) (lp_ : List Nat → AS → Option Out) : stepW Pr T cl_ lp_ 9 [1, 1, 0, 1, 4] (st9_11014 l1 l i p_Name p_Version p_Uses p_Datas p_Traits p_Impls p_Funcs p_Actors) =
  bif decide (i < (l.length : Int)) then
    bif decide (0 ≤ i) then
      (l[i.toNat]?).bind fun x =>
        (bif (Sh.agg [Sh.int .i64, Sh.int .i64, Sh.str, Sh.lst]).fits x then
          bif small (l1.length) 1 24 then
            lp_ [1, 1, 0, 1, 4] (st9_11014 (l1 ++ ([.lst [.agg [.int .i64 ((x.c 0).toInt), .int .i64 ((x.c 1).toInt), .str ((x.c 2).toStr), .lst ((x.c 3).toLst)]]] : List PV)) l (IntKind.i64.wrap (i + (1 : Int))) p_Name p_Version p_Uses p_Datas p_Traits p_Impls p_Funcs p_Actors)
          else none
        else none)
    else none
  else ((cl_ 22 [.pv (.agg [.str p_Name, .int .i64 p_Version, .lst p_Uses, .lst p_Datas, .lst p_Traits, .lst p_Impls, .lst p_Funcs, .lst p_Actors]), .pv (.lst l1), .pv (.int .i64 1)]).bind retPV).bind fun r =>
    (bif (Sh.tup [Sh.lst, Sh.bool]).fits r then
      bif (!(r.r 1).toBool) then
        some (.pv (.tup [.agg [.int .i64 0, .int .i64 0, .str [], .lst []], .bool false]), [])
      else ((r.r 0).toLst[(0 : Int).toNat]?).bind fun x1 =>
        (bif (Sh.agg [Sh.int .i64, Sh.int .i64, Sh.str, Sh.lst]).fits x1 then
          some (.pv (.tup [.agg [.int .i64 ((x1.c 0).toInt), .int .i64 ((x1.c 1).toInt), .str ((x1.c 2).toStr), .lst ((x1.c 3).toLst)], .bool true]), [])
        else none)
    else none) := by kernel_rfl
theorem e9_11014 (l1 : List PV) (l : List PV) (i : Int) (p_Name : List UInt8) (p_Version : Int) (p_Uses : List PV) (p_Datas : List PV) (p_Traits : List PV) (p_Impls : List PV) (p_Funcs : List PV) (p_Actors : List PV) : L9_11014 l1 l i p_Name p_Version p_Uses p_Datas p_Traits p_Impls p_Funcs p_Actors =
  bif decide (i < (l.length : Int)) then
    bif decide (0 ≤ i) then
      (l[i.toNat]?).bind fun x =>
        (bif (Sh.agg [Sh.int .i64, Sh.int .i64, Sh.str, Sh.lst]).fits x then
          bif small (l1.length) 1 24 then
            L9_11014 (l1 ++ ([.lst [.agg [.int .i64 ((x.c 0).toInt), .int .i64 ((x.c 1).toInt), .str ((x.c 2).toStr), .lst ((x.c 3).toLst)]]] : List PV)) l (IntKind.i64.wrap (i + (1 : Int))) p_Name p_Version p_Uses p_Datas p_Traits p_Impls p_Funcs p_Actors
          else none
        else none)
    else none
  else ((V 22 [.pv (.agg [.str p_Name, .int .i64 p_Version, .lst p_Uses, .lst p_Datas, .lst p_Traits, .lst p_Impls, .lst p_Funcs, .lst p_Actors]), .pv (.lst l1), .pv (.int .i64 1)]).bind retPV).bind fun r =>
    (bif (Sh.tup [Sh.lst, Sh.bool]).fits r then
      bif (!(r.r 1).toBool) then
        some (.pv (.tup [.agg [.int .i64 0, .int .i64 0, .str [], .lst []], .bool false]), [])
      else ((r.r 0).toLst[(0 : Int).toNat]?).bind fun x1 =>
        (bif (Sh.agg [Sh.int .i64, Sh.int .i64, Sh.str, Sh.lst]).fits x1 then
          some (.pv (.tup [.agg [.int .i64 ((x1.c 0).toInt), .int .i64 ((x1.c 1).toInt), .str ((x1.c 2).toStr), .lst ((x1.c 3).toLst)], .bool true]), [])
        else none)
    else none) :=
  (LV_eq pa 9 _ _).trans (f9_11014 l1 l i p_Name p_Version p_Uses p_Datas p_Traits p_Impls p_Funcs p_Actors V (LV Pr T 9))
/-! 11 roadstead/cover.Useless -/
def st11_111014 (l2 : List PV) (l3 : List PV) (l : List PV) (i : Int) (p_Name : List UInt8) (p_Version : Int) (p_Uses : List PV) (p_Datas : List PV) (p_Traits : List PV) (p_Impls : List PV) (p_Funcs : List PV) (p_Actors : List PV) : AS :=
  ⟨[.any, .any, .box 0 0, .any, .any, .bld 0 0 l2, .bld 1 0 l3, .any, .any, .pv (.lst l), .pv (.int .i64 (l.length : Int)), .pv (.int .i64 i), .any, .any, .any, .any, .any, .any, .any, .any, .any, .any, .any, .any, .any, .any, .any, .any, .any, .any, .any, .any, .any], ⟨[(false, [.pv (.str p_Name), .pv (.int .i64 p_Version), .pv (.lst p_Uses), .pv (.lst p_Datas), .pv (.lst p_Traits), .pv (.lst p_Impls), .pv (.lst p_Funcs), .pv (.lst p_Actors)])], [], [(0, 1), (0, 1)], 0, 0⟩⟩
noncomputable def L11_111014 (l2 : List PV) (l3 : List PV) (l : List PV) (i : Int) (p_Name : List UInt8) (p_Version : Int) (p_Uses : List PV) (p_Datas : List PV) (p_Traits : List PV) (p_Impls : List PV) (p_Funcs : List PV) (p_Actors : List PV) : Option Out := LV Pr T 11 [1, 1, 1, 0, 1, 4] (st11_111014 l2 l3 l i p_Name p_Version p_Uses p_Datas p_Traits p_Impls p_Funcs p_Actors)
def st11_11101451104116 (l4 : List PV) (l1 : List PV) (l : List PV) (i1 : Int) (p_Name : List UInt8) (p_Version : Int) (p_Uses : List PV) (p_Datas : List PV) (p_Traits : List PV) (p_Impls : List PV) (p_Funcs : List PV) (p_Actors : List PV) (v : Int) (v1 : Int) (v2 : List UInt8) (v3 : List PV) : AS :=
  ⟨[.any, .any, .box 0 0, .any, .any, .bld 0 0 l4, .bld 1 0 l1, .any, .box 1 0, .pv (.lst l), .pv (.int .i64 (l.length : Int)), .pv (.int .i64 i1), .any, .any, .any, .any, .any, .any, .any, .any, .any, .any, .any, .any, .any, .any, .any, .any, .any, .any, .any, .any, .any], ⟨[(false, [.pv (.str p_Name), .pv (.int .i64 p_Version), .pv (.lst p_Uses), .pv (.lst p_Datas), .pv (.lst p_Traits), .pv (.lst p_Impls), .pv (.lst p_Funcs), .pv (.lst p_Actors)]), (false, [.pv (.int .i64 v), .pv (.int .i64 v1), .pv (.str v2), .pv (.lst v3)])], [], [(0, 1), (0, 1)], 0, 0⟩⟩
noncomputable def L11_11101451104116 (l4 : List PV) (l1 : List PV) (l : List PV) (i1 : Int) (p_Name : List UInt8) (p_Version : Int) (p_Uses : List PV) (p_Datas : List PV) (p_Traits : List PV) (p_Impls : List PV) (p_Funcs : List PV) (p_Actors : List PV) (v : Int) (v1 : Int) (v2 : List UInt8) (v3 : List PV) : Option Out := LV Pr T 11 [1, 1, 1, 0, 1, 4, 5, 1, 1, 0, 4, 1, 1, 6] (st11_11101451104116 l4 l1 l i1 p_Name p_Version p_Uses p_Datas p_Traits p_Impls p_Funcs p_Actors v v1 v2 v3)
theorem f11 (p_Name : List UInt8) (p_Version : Int) (p_Uses : List PV) (p_Datas : List PV) (p_Traits : List PV) (p_Impls : List PV) (p_Funcs : List PV) (p_Actors : List PV) (l : List PV) (cl_ : FuncId → List Arg → Option Out) (lp_ : List Nat → AS → Option Out) : runW Pr T cl_ lp_ 11 [.pv (.agg [.str p_Name, .int .i64 p_Version, .lst p_Uses, .lst p_Datas, .lst p_Traits, .lst p_Impls, .lst p_Funcs, .lst p_Actors]), .pv (.lst l)] =
  lp_ [1, 1, 1, 0, 1, 4] (st11_111014 [] [] l 0 p_Name p_Version p_Uses p_Datas p_Traits p_Impls p_Funcs p_Actors) := by kernel_rfl
theorem e11 (p_Name : List UInt8) (p_Version : Int) (p_Uses : List PV) (p_Datas : List PV) (p_Traits : List PV) (p_Impls : List PV) (p_Funcs : List PV) (p_Actors : List PV) (l : List PV) : V 11 [.pv (.agg [.str p_Name, .int .i64 p_Version, .lst p_Uses, .lst p_Datas, .lst p_Traits, .lst p_Impls, .lst p_Funcs, .lst p_Actors]), .pv (.lst l)] =
  L11_111014 [] [] l 0 p_Name p_Version p_Uses p_Datas p_Traits p_Impls p_Funcs p_Actors :=
  (V_eq pa rfl _).trans (f11 p_Name p_Version p_Uses p_Datas p_Traits p_Impls p_Funcs p_Actors l V (LV Pr T 11))
theorem f11_111014 (l2 : List PV) (l3 : List PV) (l : List PV) (i : Int) (p_Name : List UInt8) (p_Version : Int) (p_Uses : List PV) (p_Datas : List PV) (p_Traits : List PV) (p_Impls : List PV) (p_Funcs : List PV) (p_Actors : List PV) (cl_ : FuncId → List Arg → Option Out) (lp_ : List Nat → AS → Option Out) : stepW Pr T cl_ lp_ 11 [1, 1, 1, 0, 1, 4] (st11_111014 l2 l3 l i p_Name p_Version p_Uses p_Datas p_Traits p_Impls p_Funcs p_Actors) =
  bif decide (i < (l.length : Int)) then
    bif decide (0 ≤ i) then
      (l[i.toNat]?).bind fun x =>
        (bif (Sh.agg [Sh.int .i64, Sh.int .i64, Sh.str, Sh.lst]).fits x then
          ((cl_ 23 [.pv (.agg [.str p_Name, .int .i64 p_Version, .lst p_Uses, .lst p_Datas, .lst p_Traits, .lst p_Impls, .lst p_Funcs, .lst p_Actors]), .pv (.lst l2), .pv (.lst [.agg [.int .i64 ((x.c 0).toInt), .int .i64 ((x.c 1).toInt), .str ((x.c 2).toStr), .lst ((x.c 3).toLst)]])]).bind retPV).bind fun r =>
            (bif (Sh.bool).fits r then
              bif (!r.toBool) then
                bif small (l3.length) 1 8 then
                  lp_ [1, 1, 1, 0, 1, 4, 5, 1, 1, 0, 4, 1, 1, 6] (st11_11101451104116 l2 (l3 ++ ([.int .i64 i] : List PV)) l i p_Name p_Version p_Uses p_Datas p_Traits p_Impls p_Funcs p_Actors ((x.c 0).toInt) ((x.c 1).toInt) ((x.c 2).toStr) ((x.c 3).toLst))
                else none
              else lp_ [1, 1, 1, 0, 1, 4, 5, 1, 1, 0, 4, 1, 1, 6] (st11_11101451104116 l2 l3 l i p_Name p_Version p_Uses p_Datas p_Traits p_Impls p_Funcs p_Actors ((x.c 0).toInt) ((x.c 1).toInt) ((x.c 2).toStr) ((x.c 3).toLst))
            else none)
        else none)
    else none
  else some (.bld 1 l3, []) := by kernel_rfl
theorem e11_111014 (l2 : List PV) (l3 : List PV) (l : List PV) (i : Int) (p_Name : List UInt8) (p_Version : Int) (p_Uses : List PV) (p_Datas : List PV) (p_Traits : List PV) (p_Impls : List PV) (p_Funcs : List PV) (p_Actors : List PV) : L11_111014 l2 l3 l i p_Name p_Version p_Uses p_Datas p_Traits p_Impls p_Funcs p_Actors =
  bif decide (i < (l.length : Int)) then
    bif decide (0 ≤ i) then
      (l[i.toNat]?).bind fun x =>
        (bif (Sh.agg [Sh.int .i64, Sh.int .i64, Sh.str, Sh.lst]).fits x then
          ((V 23 [.pv (.agg [.str p_Name, .int .i64 p_Version, .lst p_Uses, .lst p_Datas, .lst p_Traits, .lst p_Impls, .lst p_Funcs, .lst p_Actors]), .pv (.lst l2), .pv (.lst [.agg [.int .i64 ((x.c 0).toInt), .int .i64 ((x.c 1).toInt), .str ((x.c 2).toStr), .lst ((x.c 3).toLst)]])]).bind retPV).bind fun r =>
            (bif (Sh.bool).fits r then
              bif (!r.toBool) then
                bif small (l3.length) 1 8 then
                  L11_11101451104116 l2 (l3 ++ ([.int .i64 i] : List PV)) l i p_Name p_Version p_Uses p_Datas p_Traits p_Impls p_Funcs p_Actors ((x.c 0).toInt) ((x.c 1).toInt) ((x.c 2).toStr) ((x.c 3).toLst)
                else none
              else L11_11101451104116 l2 l3 l i p_Name p_Version p_Uses p_Datas p_Traits p_Impls p_Funcs p_Actors ((x.c 0).toInt) ((x.c 1).toInt) ((x.c 2).toStr) ((x.c 3).toLst)
            else none)
        else none)
    else none
  else some (.bld 1 l3, []) :=
  (LV_eq pa 11 _ _).trans (f11_111014 l2 l3 l i p_Name p_Version p_Uses p_Datas p_Traits p_Impls p_Funcs p_Actors V (LV Pr T 11))
theorem f11_11101451104116 (l4 : List PV) (l1 : List PV) (l : List PV) (i1 : Int) (p_Name : List UInt8) (p_Version : Int) (p_Uses : List PV) (p_Datas : List PV) (p_Traits : List PV) (p_Impls : List PV) (p_Funcs : List PV) (p_Actors : List PV) (v : Int) (v1 : Int) (v2 : List UInt8) (v3 : List PV) (cl_ : FuncId → List Arg → Option Out) (lp_ : List Nat → AS → Option Out) : stepW Pr T cl_ lp_ 11 [1, 1, 1, 0, 1, 4, 5, 1, 1, 0, 4, 1, 1, 6] (st11_11101451104116 l4 l1 l i1 p_Name p_Version p_Uses p_Datas p_Traits p_Impls p_Funcs p_Actors v v1 v2 v3) =
  bif small (l4.length) 1 24 then
    lp_ [1, 1, 1, 0, 1, 4] (st11_111014 (l4 ++ ([.lst [.agg [.int .i64 v, .int .i64 v1, .str v2, .lst v3]]] : List PV)) l1 l (IntKind.i64.wrap (i1 + (1 : Int))) p_Name p_Version p_Uses p_Datas p_Traits p_Impls p_Funcs p_Actors)
  else none := by kernel_rfl
theorem e11_11101451104116 (l4 : List PV) (l1 : List PV) (l : List PV) (i1 : Int) (p_Name : List UInt8) (p_Version : Int) (p_Uses : List PV) (p_Datas : List PV) (p_Traits : List PV) (p_Impls : List PV) (p_Funcs : List PV) (p_Actors : List PV) (v : Int) (v1 : Int) (v2 : List UInt8) (v3 : List PV) : L11_11101451104116 l4 l1 l i1 p_Name p_Version p_Uses p_Datas p_Traits p_Impls p_Funcs p_Actors v v1 v2 v3 =
  bif small (l4.length) 1 24 then
    L11_111014 (l4 ++ ([.lst [.agg [.int .i64 v, .int .i64 v1, .str v2, .lst v3]]] : List PV)) l1 l (IntKind.i64.wrap (i1 + (1 : Int))) p_Name p_Version p_Uses p_Datas p_Traits p_Impls p_Funcs p_Actors
  else none :=
  (LV_eq pa 11 _ _).trans (f11_11101451104116 l4 l1 l i1 p_Name p_Version p_Uses p_Datas p_Traits p_Impls p_Funcs p_Actors v v1 v2 v3 V (LV Pr T 11))
/-! 12 slices.Equal[[]int,int] -/
def st12_11014 (s1 : List PV) (s2 : List PV) (i : Int) : AS :=
  ⟨[.pv (.lst s1), .pv (.lst s2), .any, .any, .any, .any, .any, .any, .any, .any, .any, .any, .pv (.int .i64 (s1.length : Int)), .pv (.int .i64 i), .any, .any, .any, .any, .any, .any, .any, .any, .any, .any, .any, .any], ⟨[], [], [], 0, 0⟩⟩
noncomputable def L12_11014 (s1 : List PV) (s2 : List PV) (i : Int) : Option Out := LV Pr T 12 [1, 1, 0, 1, 4] (st12_11014 s1 s2 i)
theorem f12 (s1 : List PV) (s2 : List PV) (cl_ : FuncId → List Arg → Option Out) (lp_ : List Nat → AS → Option Out) : runW Pr T cl_ lp_ 12 [.pv (.lst s1), .pv (.lst s2)] =
  bif ((s1.length : Int) != (s2.length : Int)) then
    some (.pv (.bool false), [])
  else lp_ [1, 1, 0, 1, 4] (st12_11014 s1 s2 0) := by kernel_rfl
theorem e12 (s1 : List PV) (s2 : List PV) : V 12 [.pv (.lst s1), .pv (.lst s2)] =
  bif ((s1.length : Int) != (s2.length : Int)) then
    some (.pv (.bool false), [])
  else L12_11014 s1 s2 0 :=
  (V_eq pa rfl _).trans (f12 s1 s2 V (LV Pr T 12))
theorem f12_11014 (s1 : List PV) (s2 : List PV) (i : Int) (cl_ : FuncId → List Arg → Option Out) (lp_ : List Nat → AS → Option Out) : stepW Pr T cl_ lp_ 12 [1, 1, 0, 1, 4] (st12_11014 s1 s2 i) =
  bif decide (i < (s1.length : Int)) then
    bif decide (0 ≤ i) then
      (s1[i.toNat]?).bind fun x =>
        (bif (Sh.int .i64).fits x then
          bif decide (0 ≤ i) then
            (s2[i.toNat]?).bind fun x1 =>
              (bif (Sh.int .i64).fits x1 then
                bif ((x.toInt) != (x1.toInt)) then
                  some (.pv (.bool false), [])
                else lp_ [1, 1, 0, 1, 4] (st12_11014 s1 s2 (IntKind.i64.wrap (i + (1 : Int))))
              else none)
          else none
        else none)
    else none
  else some (.pv (.bool true), []) := by kernel_rfl
theorem e12_11014 (s1 : List PV) (s2 : List PV) (i : Int) : L12_11014 s1 s2 i =
  bif decide (i < (s1.length : Int)) then
    bif decide (0 ≤ i) then
      (s1[i.toNat]?).bind fun x =>
        (bif (Sh.int .i64).fits x then
          bif decide (0 ≤ i) then
            (s2[i.toNat]?).bind fun x1 =>
              (bif (Sh.int .i64).fits x1 then
                bif ((x.toInt) != (x1.toInt)) then
                  some (.pv (.bool false), [])
                else L12_11014 s1 s2 (IntKind.i64.wrap (i + (1 : Int)))
              else none)
          else none
        else none)
    else none
  else some (.pv (.bool true), []) :=
  (LV_eq pa 12 _ _).trans (f12_11014 s1 s2 i V (LV Pr T 12))
/-! 17 slices.Contains[[]int,int] -/
theorem f17 (s : List PV) (v : Int) (cl_ : FuncId → List Arg → Option Out) (lp_ : List Nat → AS → Option Out) : runW Pr T cl_ lp_ 17 [.pv (.lst s), .pv (.int .i64 v)] =
  ((cl_ 24 [.pv (.lst s), .pv (.int .i64 v)]).bind retPV).bind fun r =>
    (bif (Sh.int .i64).fits r then
      some (.pv (.bool (decide ((r.toInt) ≥ (0 : Int)))), [])
    else none) := by kernel_rfl
theorem e17 (s : List PV) (v : Int) : V 17 [.pv (.lst s), .pv (.int .i64 v)] =
  ((V 24 [.pv (.lst s), .pv (.int .i64 v)]).bind retPV).bind fun r =>
    (bif (Sh.int .i64).fits r then
      some (.pv (.bool (decide ((r.toInt) ≥ (0 : Int)))), [])
    else none) :=
  (V_eq pa rfl _).trans (f17 s v V (LV Pr T 17))
/-! 24 slices.Index[[]int,int] -/
def st24_1014 (s : List PV) (v : Int) (i : Int) : AS :=
  ⟨[.pv (.lst s), .pv (.int .i64 v), .any, .any, .any, .any, .any, .pv (.int .i64 (s.length : Int)), .pv (.int .i64 i), .any, .any, .any, .any, .any, .any, .any, .any, .any, .any], ⟨[], [], [], 0, 0⟩⟩
noncomputable def L24_1014 (s : List PV) (v : Int) (i : Int) : Option Out := LV Pr T 24 [1, 0, 1, 4] (st24_1014 s v i)
theorem f24 (s : List PV) (v : Int) (cl_ : FuncId → List Arg → Option Out) (lp_ : List Nat → AS → Option Out) : runW Pr T cl_ lp_ 24 [.pv (.lst s), .pv (.int .i64 v)] =
  lp_ [1, 0, 1, 4] (st24_1014 s v 0) := by kernel_rfl
theorem e24 (s : List PV) (v : Int) : V 24 [.pv (.lst s), .pv (.int .i64 v)] =
  L24_1014 s v 0 :=
  (V_eq pa rfl _).trans (f24 s v V (LV Pr T 24))
theorem f24_1014 (s : List PV) (v : Int) (i : Int) (cl_ : FuncId → List Arg → Option Out) (lp_ : List Nat → AS → Option Out) : stepW Pr T cl_ lp_ 24 [1, 0, 1, 4] (st24_1014 s v i) =
  bif decide (i < (s.length : Int)) then
    bif decide (0 ≤ i) then
      (s[i.toNat]?).bind fun x =>
        (bif (Sh.int .i64).fits x then
          bif (v == (x.toInt)) then
            some (.pv (.int .i64 i), [])
          else lp_ [1, 0, 1, 4] (st24_1014 s v (IntKind.i64.wrap (i + (1 : Int))))
        else none)
    else none
  else some (.pv (.int .i64 (-1)), []) := by kernel_rfl
theorem e24_1014 (s : List PV) (v : Int) (i : Int) : L24_1014 s v i =
  bif decide (i < (s.length : Int)) then
    bif decide (0 ≤ i) then
      (s[i.toNat]?).bind fun x =>
        (bif (Sh.int .i64).fits x then
          bif (v == (x.toInt)) then
            some (.pv (.int .i64 i), [])
          else L24_1014 s v (IntKind.i64.wrap (i + (1 : Int)))
        else none)
    else none
  else some (.pv (.int .i64 (-1)), []) :=
  (LV_eq pa 24 _ _).trans (f24_1014 s v i V (LV Pr T 24))
/-! 30 roadstead/roadref2.Rest -/
theorem f30 (n : Int) (m : Int) (cl_ : FuncId → List Arg → Option Out) (lp_ : List Nat → AS → Option Out) : runW Pr T cl_ lp_ 30 [.pv (.int .i64 n), .pv (.int .i64 m)] =
  bif decide (m = 0) then
    none
  else bif decide ((n.tmod m) < (0 : Int)) then
    some (.pv (.int .i64 (IntKind.i64.wrap ((n.tmod m) + m))), [])
  else some (.pv (.int .i64 (n.tmod m)), []) := by kernel_rfl
theorem e30 (n : Int) (m : Int) : V 30 [.pv (.int .i64 n), .pv (.int .i64 m)] =
  bif decide (m = 0) then
    none
  else bif decide ((n.tmod m) < (0 : Int)) then
    some (.pv (.int .i64 (IntKind.i64.wrap ((n.tmod m) + m))), [])
  else some (.pv (.int .i64 (n.tmod m)), []) :=
  (V_eq pa rfl _).trans (f30 n m V (LV Pr T 30))
/-! 31 roadstead/cover.heads -/
def st31_1014 (col : List PV) (i : Int) (p_Name : List UInt8) (p_Version : Int) (p_Uses : List PV) (p_Datas : List PV) (p_Traits : List PV) (p_Impls : List PV) (p_Funcs : List PV) (p_Actors : List PV) : AS :=
  ⟨[.any, .any, .box 0 0, .any, .any, .any, .any, .pv (.lst col), .pv (.int .i64 (col.length : Int)), .pv (.int .i64 i), .any, .any, .any, .any, .any, .any, .any, .any, .any, .any, .any, .any, .any, .any, .any, .any, .any], ⟨[(false, [.pv (.str p_Name), .pv (.int .i64 p_Version), .pv (.lst p_Uses), .pv (.lst p_Datas), .pv (.lst p_Traits), .pv (.lst p_Impls), .pv (.lst p_Funcs), .pv (.lst p_Actors)])], [], [], 0, 0⟩⟩
noncomputable def L31_1014 (col : List PV) (i : Int) (p_Name : List UInt8) (p_Version : Int) (p_Uses : List PV) (p_Datas : List PV) (p_Traits : List PV) (p_Impls : List PV) (p_Funcs : List PV) (p_Actors : List PV) : Option Out := LV Pr T 31 [1, 0, 1, 4] (st31_1014 col i p_Name p_Version p_Uses p_Datas p_Traits p_Impls p_Funcs p_Actors)
theorem f31 (p_Name : List UInt8) (p_Version : Int) (p_Uses : List PV) (p_Datas : List PV) (p_Traits : List PV) (p_Impls : List PV) (p_Funcs : List PV) (p_Actors : List PV) (col : List PV) (cl_ : FuncId → List Arg → Option Out) (lp_ : List Nat → AS → Option Out) : runW Pr T cl_ lp_ 31 [.pv (.agg [.str p_Name, .int .i64 p_Version, .lst p_Uses, .lst p_Datas, .lst p_Traits, .lst p_Impls, .lst p_Funcs, .lst p_Actors]), .pv (.lst col)] =
  lp_ [1, 0, 1, 4] (st31_1014 col 0 p_Name p_Version p_Uses p_Datas p_Traits p_Impls p_Funcs p_Actors) := by kernel_rfl
theorem e31 (p_Name : List UInt8) (p_Version : Int) (p_Uses : List PV) (p_Datas : List PV) (p_Traits : List PV) (p_Impls : List PV) (p_Funcs : List PV) (p_Actors : List PV) (col : List PV) : V 31 [.pv (.agg [.str p_Name, .int .i64 p_Version, .lst p_Uses, .lst p_Datas, .lst p_Traits, .lst p_Impls, .lst p_Funcs, .lst p_Actors]), .pv (.lst col)] =
  L31_1014 col 0 p_Name p_Version p_Uses p_Datas p_Traits p_Impls p_Funcs p_Actors :=
  (V_eq pa rfl _).trans (f31 p_Name p_Version p_Uses p_Datas p_Traits p_Impls p_Funcs p_Actors col V (LV Pr T 31))
theorem f31_1014 (col : List PV) (i : Int) (p_Name : List UInt8) (p_Version : Int) (p_Uses : List PV) (p_Datas : List PV) (p_Traits : List PV) (p_Impls : List PV) (p_Funcs : List PV) (p_Actors : List PV) (cl_ : FuncId → List Arg → Option Out) (lp_ : List Nat → AS → Option Out) : stepW Pr T cl_ lp_ 31 [1, 0, 1, 4] (st31_1014 col i p_Name p_Version p_Uses p_Datas p_Traits p_Impls p_Funcs p_Actors) =
  bif decide (i < (col.length : Int)) then
    bif decide (0 ≤ i) then
      (col[i.toNat]?).bind fun x =>
        (bif (Sh.agg [Sh.int .i64, Sh.int .i64, Sh.str, Sh.lst]).fits x then
          bif (((x.c 0).toInt) == (4 : Int)) then
            some (.pv (.lst [.agg [.int .i64 4, .int .i64 0, .str [], .lst []], .agg [.int .i64 4, .int .i64 1, .str [], .lst []]]), [])
          else bif (((x.c 0).toInt) == (6 : Int)) then
            ((cl_ 49 [.pv (.agg [.str p_Name, .int .i64 p_Version, .lst p_Uses, .lst p_Datas, .lst p_Traits, .lst p_Impls, .lst p_Funcs, .lst p_Actors]), .pv (.str ((x.c 2).toStr))]).bind retPV).bind fun r =>
              (bif r.isNils then
                some (.pv .nils, [])
              else bif (Sh.lst).fits r then
                some (.pv (.lst r.toLst), [])
              else none)
          else lp_ [1, 0, 1, 4] (st31_1014 col (IntKind.i64.wrap (i + (1 : Int))) p_Name p_Version p_Uses p_Datas p_Traits p_Impls p_Funcs p_Actors)
        else none)
    else none
  else some (.pv .nils, []) := by kernel_rfl
theorem e31_1014 (col : List PV) (i : Int) (p_Name : List UInt8) (p_Version : Int) (p_Uses : List PV) (p_Datas : List PV) (p_Traits : List PV) (p_Impls : List PV) (p_Funcs : List PV) (p_Actors : List PV) : L31_1014 col i p_Name p_Version p_Uses p_Datas p_Traits p_Impls p_Funcs p_Actors =
  bif decide (i < (col.length : Int)) then
    bif decide (0 ≤ i) then
      (col[i.toNat]?).bind fun x =>
        (bif (Sh.agg [Sh.int .i64, Sh.int .i64, Sh.str, Sh.lst]).fits x then
          bif (((x.c 0).toInt) == (4 : Int)) then
            some (.pv (.lst [.agg [.int .i64 4, .int .i64 0, .str [], .lst []], .agg [.int .i64 4, .int .i64 1, .str [], .lst []]]), [])
          else bif (((x.c 0).toInt) == (6 : Int)) then
            ((V 49 [.pv (.agg [.str p_Name, .int .i64 p_Version, .lst p_Uses, .lst p_Datas, .lst p_Traits, .lst p_Impls, .lst p_Funcs, .lst p_Actors]), .pv (.str ((x.c 2).toStr))]).bind retPV).bind fun r =>
              (bif r.isNils then
                some (.pv .nils, [])
              else bif (Sh.lst).fits r then
                some (.pv (.lst r.toLst), [])
              else none)
          else L31_1014 col (IntKind.i64.wrap (i + (1 : Int))) p_Name p_Version p_Uses p_Datas p_Traits p_Impls p_Funcs p_Actors
        else none)
    else none
  else some (.pv .nils, []) :=
  (LV_eq pa 31 _ _).trans (f31_1014 col i p_Name p_Version p_Uses p_Datas p_Traits p_Impls p_Funcs p_Actors V (LV Pr T 31))
/-! 32 roadstead/cover.column -/
def st32_11014 (l : List PV) (t : List PV) (i : Int) : AS :=
  ⟨[.any, .any, .any, .bld 0 0 l, .any, .any, .pv (.lst t), .pv (.int .i64 (t.length : Int)), .pv (.int .i64 i), .any, .any, .any, .any, .any, .any, .any, .any, .any, .any, .any], ⟨[], [], [(0, 4)], 0, 0⟩⟩
noncomputable def L32_11014 (l : List PV) (t : List PV) (i : Int) : Option Out := LV Pr T 32 [1, 1, 0, 1, 4] (st32_11014 l t i)
theorem f32 (t : List PV) (cl_ : FuncId → List Arg → Option Out) (lp_ : List Nat → AS → Option Out) : runW Pr T cl_ lp_ 32 [.pv (.lst t)] =
  lp_ [1, 1, 0, 1, 4] (st32_11014 [] t 0) := by kernel_rfl
theorem e32 (t : List PV) : V 32 [.pv (.lst t)] =
  L32_11014 [] t 0 :=
  (V_eq pa rfl _).trans (f32 t V (LV Pr T 32))
theorem f32_11014 (l : List PV) (t : List PV) (i : Int) (cl_ : FuncId → List Arg → Option Out) (lp_ : List Nat → AS → Option Out) : stepW Pr T cl_ lp_ 32 [1, 1, 0, 1, 4] (st32_11014 l t i) =
  bif decide (i < (t.length : Int)) then
    bif decide (0 ≤ i) then
      (t[i.toNat]?).bind fun x =>
        (bif (Sh.lst).fits x then
          (x.toLst[(0 : Int).toNat]?).bind fun x1 =>
            (bif (Sh.agg [Sh.int .i64, Sh.int .i64, Sh.str, Sh.lst]).fits x1 then
              bif small (l.length) 1 56 then
                lp_ [1, 1, 0, 1, 4] (st32_11014 (l ++ ([.agg [.int .i64 ((x1.c 0).toInt), .int .i64 ((x1.c 1).toInt), .str ((x1.c 2).toStr), .lst ((x1.c 3).toLst)]] : List PV)) t (IntKind.i64.wrap (i + (1 : Int))))
              else none
            else none)
        else none)
    else none
  else some (.bld 4 l, []) := by kernel_rfl
theorem e32_11014 (l : List PV) (t : List PV) (i : Int) : L32_11014 l t i =
  bif decide (i < (t.length : Int)) then
    bif decide (0 ≤ i) then
      (t[i.toNat]?).bind fun x =>
        (bif (Sh.lst).fits x then
          (x.toLst[(0 : Int).toNat]?).bind fun x1 =>
            (bif (Sh.agg [Sh.int .i64, Sh.int .i64, Sh.str, Sh.lst]).fits x1 then
              bif small (l.length) 1 56 then
                L32_11014 (l ++ ([.agg [.int .i64 ((x1.c 0).toInt), .int .i64 ((x1.c 1).toInt), .str ((x1.c 2).toStr), .lst ((x1.c 3).toLst)]] : List PV)) t (IntKind.i64.wrap (i + (1 : Int)))
              else none
            else none)
        else none)
    else none
  else some (.bld 4 l, []) :=
  (LV_eq pa 32 _ _).trans (f32_11014 l t i V (LV Pr T 32))
/-! 33 roadstead/cover.rest -/
def st33_11014 (l : List PV) (t : List PV) (i : Int) : AS :=
  ⟨[.any, .any, .any, .bld 0 0 l, .any, .any, .pv (.lst t), .pv (.int .i64 (t.length : Int)), .pv (.int .i64 i), .any, .any, .any, .any, .any, .any, .any, .any, .any, .any, .any, .any, .any, .any], ⟨[], [], [(0, 1)], 0, 0⟩⟩
noncomputable def L33_11014 (l : List PV) (t : List PV) (i : Int) : Option Out := LV Pr T 33 [1, 1, 0, 1, 4] (st33_11014 l t i)
theorem f33 (t : List PV) (cl_ : FuncId → List Arg → Option Out) (lp_ : List Nat → AS → Option Out) : runW Pr T cl_ lp_ 33 [.pv (.lst t)] =
  lp_ [1, 1, 0, 1, 4] (st33_11014 [] t 0) := by kernel_rfl
theorem e33 (t : List PV) : V 33 [.pv (.lst t)] =
  L33_11014 [] t 0 :=
  (V_eq pa rfl _).trans (f33 t V (LV Pr T 33))
theorem f33_11014 (l : List PV) (t : List PV) (i : Int) (cl_ : FuncId → List Arg → Option Out) (lp_ : List Nat → AS → Option Out) : stepW Pr T cl_ lp_ 33 [1, 1, 0, 1, 4] (st33_11014 l t i) =
  bif decide (i < (t.length : Int)) then
    bif decide (0 ≤ i) then
      (t[i.toNat]?).bind fun x =>
        (bif (Sh.lst).fits x then
          (x.toLst[(0 : Int).toNat]?).bind fun x1 =>
            (bif (Sh.agg [Sh.int .i64, Sh.int .i64, Sh.str, Sh.lst]).fits x1 then
              ((cl_ 36 [.pv (.agg [.int .i64 ((x1.c 0).toInt), .int .i64 ((x1.c 1).toInt), .str ((x1.c 2).toStr), .lst ((x1.c 3).toLst)])]).bind retPV).bind fun r =>
                (bif (Sh.bool).fits r then
                  bif r.toBool then
                    bif headOk 4 x.toLst then
                      bif (decide (0 ≤ (1 : Int)) && decide ((1 : Int) ≤ (x.toLst.length : Int))) then
                        bif small (l.length) 1 24 then
                          lp_ [1, 1, 0, 1, 4] (st33_11014 (l ++ ([.lst (x.toLst.drop (1 : Int).toNat)] : List PV)) t (IntKind.i64.wrap (i + (1 : Int))))
                        else none
                      else none
                    else none
                  else lp_ [1, 1, 0, 1, 4] (st33_11014 l t (IntKind.i64.wrap (i + (1 : Int))))
                else none)
            else none)
        else none)
    else none
  else some (.bld 1 l, []) := by kernel_rfl
theorem e33_11014 (l : List PV) (t : List PV) (i : Int) : L33_11014 l t i =
  bif decide (i < (t.length : Int)) then
    bif decide (0 ≤ i) then
      (t[i.toNat]?).bind fun x =>
        (bif (Sh.lst).fits x then
          (x.toLst[(0 : Int).toNat]?).bind fun x1 =>
            (bif (Sh.agg [Sh.int .i64, Sh.int .i64, Sh.str, Sh.lst]).fits x1 then
              ((V 36 [.pv (.agg [.int .i64 ((x1.c 0).toInt), .int .i64 ((x1.c 1).toInt), .str ((x1.c 2).toStr), .lst ((x1.c 3).toLst)])]).bind retPV).bind fun r =>
                (bif (Sh.bool).fits r then
                  bif r.toBool then
                    bif headOk 4 x.toLst then
                      bif (decide (0 ≤ (1 : Int)) && decide ((1 : Int) ≤ (x.toLst.length : Int))) then
                        bif small (l.length) 1 24 then
                          L33_11014 (l ++ ([.lst (x.toLst.drop (1 : Int).toNat)] : List PV)) t (IntKind.i64.wrap (i + (1 : Int)))
                        else none
                      else none
                    else none
                  else L33_11014 l t (IntKind.i64.wrap (i + (1 : Int)))
                else none)
            else none)
        else none)
    else none
  else some (.bld 1 l, []) :=
  (LV_eq pa 33 _ _).trans (f33_11014 l t i V (LV Pr T 33))
/-! 35 roadstead/cover.rows -/
def st35_11014 (l : List PV) (t : List PV) (i : Int) (head_Kind : Int) (head_Num : Int) (head_Text : List UInt8) (head_Args : List PV) : AS :=
  ⟨[.any, .any, .any, .box 0 0, .any, .bld 0 0 l, .any, .any, .any, .any, .pv (.lst t), .pv (.int .i64 (t.length : Int)), .pv (.int .i64 i), .any, .any, .any, .any, .any, .any, .any, .any, .any, .any, .any, .any, .any, .any, .any, .any], ⟨[(false, [.pv (.int .i64 head_Kind), .pv (.int .i64 head_Num), .pv (.str head_Text), .pv (.lst head_Args)])], [], [(0, 1)], 0, 0⟩⟩
noncomputable def L35_11014 (l : List PV) (t : List PV) (i : Int) (head_Kind : Int) (head_Num : Int) (head_Text : List UInt8) (head_Args : List PV) : Option Out := LV Pr T 35 [1, 1, 0, 1, 4] (st35_11014 l t i head_Kind head_Num head_Text head_Args)
theorem f35 (t : List PV) (head_Kind : Int) (head_Num : Int) (head_Text : List UInt8) (head_Args : List PV) (cl_ : FuncId → List Arg → Option Out) (lp_ : List Nat → AS → Option Out) : runW Pr T cl_ lp_ 35 [.pv (.lst t), .pv (.agg [.int .i64 head_Kind, .int .i64 head_Num, .str head_Text, .lst head_Args])] =
  lp_ [1, 1, 0, 1, 4] (st35_11014 [] t 0 head_Kind head_Num head_Text head_Args) := by kernel_rfl
theorem e35 (t : List PV) (head_Kind : Int) (head_Num : Int) (head_Text : List UInt8) (head_Args : List PV) : V 35 [.pv (.lst t), .pv (.agg [.int .i64 head_Kind, .int .i64 head_Num, .str head_Text, .lst head_Args])] =
  L35_11014 [] t 0 head_Kind head_Num head_Text head_Args :=
  (V_eq pa rfl _).trans (f35 t head_Kind head_Num head_Text head_Args V (LV Pr T 35))
theorem f35_11014 (l : List PV) (t : List PV) (i : Int) (head_Kind : Int) (head_Num : Int) (head_Text : List UInt8) (head_Args : List PV) (cl_ : FuncId → List Arg → Option Out) (lp_ : List Nat → AS → Option Out) : stepW Pr T cl_ lp_ 35 [1, 1, 0, 1, 4] (st35_11014 l t i head_Kind head_Num head_Text head_Args) =
  bif decide (i < (t.length : Int)) then
    bif decide (0 ≤ i) then
      (t[i.toNat]?).bind fun x =>
        (bif (Sh.lst).fits x then
          ((cl_ 37 [.pv (.lst x.toLst), .pv (.agg [.int .i64 head_Kind, .int .i64 head_Num, .str head_Text, .lst head_Args])]).bind retPV).bind fun r =>
            (bif (Sh.tup [Sh.lst, Sh.bool]).fits r then
              bif (r.r 1).toBool then
                bif small (l.length) 1 24 then
                  lp_ [1, 1, 0, 1, 4] (st35_11014 (l ++ ([.lst ((r.r 0).toLst)] : List PV)) t (IntKind.i64.wrap (i + (1 : Int))) head_Kind head_Num head_Text head_Args)
                else none
              else lp_ [1, 1, 0, 1, 4] (st35_11014 l t (IntKind.i64.wrap (i + (1 : Int))) head_Kind head_Num head_Text head_Args)
            else none)
        else none)
    else none
  else some (.bld 1 l, []) := by kernel_rfl
theorem e35_11014 (l : List PV) (t : List PV) (i : Int) (head_Kind : Int) (head_Num : Int) (head_Text : List UInt8) (head_Args : List PV) : L35_11014 l t i head_Kind head_Num head_Text head_Args =
  bif decide (i < (t.length : Int)) then
    bif decide (0 ≤ i) then
      (t[i.toNat]?).bind fun x =>
        (bif (Sh.lst).fits x then
          ((V 37 [.pv (.lst x.toLst), .pv (.agg [.int .i64 head_Kind, .int .i64 head_Num, .str head_Text, .lst head_Args])]).bind retPV).bind fun r =>
            (bif (Sh.tup [Sh.lst, Sh.bool]).fits r then
              bif (r.r 1).toBool then
                bif small (l.length) 1 24 then
                  L35_11014 (l ++ ([.lst ((r.r 0).toLst)] : List PV)) t (IntKind.i64.wrap (i + (1 : Int))) head_Kind head_Num head_Text head_Args
                else none
              else L35_11014 l t (IntKind.i64.wrap (i + (1 : Int))) head_Kind head_Num head_Text head_Args
            else none)
        else none)
    else none
  else some (.bld 1 l, []) :=
  (LV_eq pa 35 _ _).trans (f35_11014 l t i head_Kind head_Num head_Text head_Args V (LV Pr T 35))
/-! 36 roadstead/cover.open -/
theorem f36 (p_Kind : Int) (p_Num : Int) (p_Text : List UInt8) (p_Args : List PV) (cl_ : FuncId → List Arg → Option Out) (lp_ : List Nat → AS → Option Out) : runW Pr T cl_ lp_ 36 [.pv (.agg [.int .i64 p_Kind, .int .i64 p_Num, .str p_Text, .lst p_Args])] =
  bif (p_Kind == (1 : Int)) then
    some (.pv (.bool true), [])
  else some (.pv (.bool (p_Kind == (2 : Int))), []) := by kernel_rfl
theorem e36 (p_Kind : Int) (p_Num : Int) (p_Text : List UInt8) (p_Args : List PV) : V 36 [.pv (.agg [.int .i64 p_Kind, .int .i64 p_Num, .str p_Text, .lst p_Args])] =
  bif (p_Kind == (1 : Int)) then
    some (.pv (.bool true), [])
  else some (.pv (.bool (p_Kind == (2 : Int))), []) :=
  (V_eq pa rfl _).trans (f36 p_Kind p_Num p_Text p_Args V (LV Pr T 36))
/-! 37 roadstead/cover.row -/
theorem f37 (l : List PV) (head_Kind : Int) (head_Num : Int) (head_Text : List UInt8) (head_Args : List PV) (cl_ : FuncId → List Arg → Option Out) (lp_ : List Nat → AS → Option Out) : runW Pr T cl_ lp_ 37 [.pv (.lst l), .pv (.agg [.int .i64 head_Kind, .int .i64 head_Num, .str head_Text, .lst head_Args])] =
  (l[(0 : Int).toNat]?).bind fun x =>
    (bif (Sh.agg [Sh.int .i64, Sh.int .i64, Sh.str, Sh.lst]).fits x then
      ((cl_ 36 [.pv (.agg [.int .i64 ((x.c 0).toInt), .int .i64 ((x.c 1).toInt), .str ((x.c 2).toStr), .lst ((x.c 3).toLst)])]).bind retPV).bind fun r =>
        (bif (Sh.bool).fits r then
          bif r.toBool then
            (cl_ 55 [.pv (.int .i64 (head_Args.length : Int))]).bind fun r1 =>
              ((retB 4 r1).bind fun l1 =>
                (bif headOk 4 l then
                  bif (decide (0 ≤ (1 : Int)) && decide ((1 : Int) ≤ (l.length : Int))) then
                    bif headOk 4 (l.drop (1 : Int).toNat) then
                      bif small (l1.length) ((l.drop (1 : Int).toNat).length) 56 then
                        some (.pv (.tup [.lst (l1 ++ (l.drop (1 : Int).toNat)), .bool true]), [])
                      else none
                    else none
                  else none
                else none))
          else (l[(0 : Int).toNat]?).bind fun x1 =>
            (bif (Sh.agg [Sh.int .i64, Sh.int .i64, Sh.str, Sh.lst]).fits x1 then
              ((cl_ 53 [.pv (.agg [.int .i64 ((x1.c 0).toInt), .int .i64 ((x1.c 1).toInt), .str ((x1.c 2).toStr), .lst ((x1.c 3).toLst)]), .pv (.agg [.int .i64 head_Kind, .int .i64 head_Num, .str head_Text, .lst head_Args])]).bind retPV).bind fun r2 =>
                (bif (Sh.bool).fits r2 then
                  bif r2.toBool then
                    (l[(0 : Int).toNat]?).bind fun x2 =>
                      (bif (Sh.agg [Sh.int .i64, Sh.int .i64, Sh.str, Sh.lst]).fits x2 then
                        (cl_ 10 [.pv (.lst ((x2.c 3).toLst))]).bind fun r3 =>
                          ((retB 4 r3).bind fun l2 =>
                            (bif headOk 4 l then
                              bif (decide (0 ≤ (1 : Int)) && decide ((1 : Int) ≤ (l.length : Int))) then
                                bif headOk 4 (l.drop (1 : Int).toNat) then
                                  bif small (l2.length) ((l.drop (1 : Int).toNat).length) 56 then
                                    some (.pv (.tup [.lst (l2 ++ (l.drop (1 : Int).toNat)), .bool true]), [])
                                  else none
                                else none
                              else none
                            else none))
                      else none)
                  else some (.pv (.tup [.lst [], .bool false]), [])
                else none)
            else none)
        else none)
    else none) := by kernel_rfl
theorem e37 (l : List PV) (head_Kind : Int) (head_Num : Int) (head_Text : List UInt8) (head_Args : List PV) : V 37 [.pv (.lst l), .pv (.agg [.int .i64 head_Kind, .int .i64 head_Num, .str head_Text, .lst head_Args])] =
  (l[(0 : Int).toNat]?).bind fun x =>
    (bif (Sh.agg [Sh.int .i64, Sh.int .i64, Sh.str, Sh.lst]).fits x then
      ((V 36 [.pv (.agg [.int .i64 ((x.c 0).toInt), .int .i64 ((x.c 1).toInt), .str ((x.c 2).toStr), .lst ((x.c 3).toLst)])]).bind retPV).bind fun r =>
        (bif (Sh.bool).fits r then
          bif r.toBool then
            (V 55 [.pv (.int .i64 (head_Args.length : Int))]).bind fun r1 =>
              ((retB 4 r1).bind fun l1 =>
                (bif headOk 4 l then
                  bif (decide (0 ≤ (1 : Int)) && decide ((1 : Int) ≤ (l.length : Int))) then
                    bif headOk 4 (l.drop (1 : Int).toNat) then
                      bif small (l1.length) ((l.drop (1 : Int).toNat).length) 56 then
                        some (.pv (.tup [.lst (l1 ++ (l.drop (1 : Int).toNat)), .bool true]), [])
                      else none
                    else none
                  else none
                else none))
          else (l[(0 : Int).toNat]?).bind fun x1 =>
            (bif (Sh.agg [Sh.int .i64, Sh.int .i64, Sh.str, Sh.lst]).fits x1 then
              ((V 53 [.pv (.agg [.int .i64 ((x1.c 0).toInt), .int .i64 ((x1.c 1).toInt), .str ((x1.c 2).toStr), .lst ((x1.c 3).toLst)]), .pv (.agg [.int .i64 head_Kind, .int .i64 head_Num, .str head_Text, .lst head_Args])]).bind retPV).bind fun r2 =>
                (bif (Sh.bool).fits r2 then
                  bif r2.toBool then
                    (l[(0 : Int).toNat]?).bind fun x2 =>
                      (bif (Sh.agg [Sh.int .i64, Sh.int .i64, Sh.str, Sh.lst]).fits x2 then
                        (V 10 [.pv (.lst ((x2.c 3).toLst))]).bind fun r3 =>
                          ((retB 4 r3).bind fun l2 =>
                            (bif headOk 4 l then
                              bif (decide (0 ≤ (1 : Int)) && decide ((1 : Int) ≤ (l.length : Int))) then
                                bif headOk 4 (l.drop (1 : Int).toNat) then
                                  bif small (l2.length) ((l.drop (1 : Int).toNat).length) 56 then
                                    some (.pv (.tup [.lst (l2 ++ (l.drop (1 : Int).toNat)), .bool true]), [])
                                  else none
                                else none
                              else none
                            else none))
                      else none)
                  else some (.pv (.tup [.lst [], .bool false]), [])
                else none)
            else none)
        else none)
    else none) :=
  (V_eq pa rfl _).trans (f37 l head_Kind head_Num head_Text head_Args V (LV Pr T 37))
/-! 49 roadstead/cover.Makes -/
def st49_1014 (p_Datas : List PV) (p_Name : List UInt8) (p_Version : Int) (p_Uses : List PV) (p_Traits : List PV) (p_Impls : List PV) (p_Funcs : List PV) (p_Actors : List PV) (name : List UInt8) : AS :=
  ⟨[.any, .any, .any, .box 1 0, .any, .any, .any, .any, .any, .any, .any, .pv (.lst p_Datas), .pv (.int .i64 (p_Datas.length : Int)), .pv (.int .i64 0), .any, .any, .any, .any, .any, .any, .any, .any, .any, .any, .any, .any, .any, .any, .any, .any, .any, .any, .any, .any, .any, .any, .any, .any, .any, .any, .any, .any], ⟨[(false, [.pv (.str p_Name), .pv (.int .i64 p_Version), .pv (.lst p_Uses), .pv (.lst p_Datas), .pv (.lst p_Traits), .pv (.lst p_Impls), .pv (.lst p_Funcs), .pv (.lst p_Actors)]), (false, [.pv (.str name)])], [], [], 0, 0⟩⟩
noncomputable def L49_1014 (p_Datas : List PV) (p_Name : List UInt8) (p_Version : Int) (p_Uses : List PV) (p_Traits : List PV) (p_Impls : List PV) (p_Funcs : List PV) (p_Actors : List PV) (name : List UInt8) : Option Out := LV Pr T 49 [1, 0, 1, 4] (st49_1014 p_Datas p_Name p_Version p_Uses p_Traits p_Impls p_Funcs p_Actors name)
def st49_1014v1 (p_Datas : List PV) (i : Int) (p_Name : List UInt8) (p_Version : Int) (p_Uses : List PV) (p_Traits : List PV) (p_Impls : List PV) (p_Funcs : List PV) (p_Actors : List PV) (name : List UInt8) : AS :=
  ⟨[.any, .any, .any, .box 1 0, .any, .any, .any, .any, .any, .any, .any, .pv (.lst p_Datas), .pv (.int .i64 (p_Datas.length : Int)), .pv (.int .i64 i), .any, .any, .any, .any, .any, .any, .any, .any, .any, .any, .any, .any, .any, .any, .any, .any, .any, .any, .any, .any, .any, .any, .any, .any, .any, .any, .any, .any], ⟨[(false, [.pv (.str p_Name), .pv (.int .i64 p_Version), .pv (.lst p_Uses), .pv (.lst p_Datas), .pv (.lst p_Traits), .pv (.lst p_Impls), .pv (.lst p_Funcs), .pv (.lst p_Actors)]), (true, [.pv (.str name)])], [], [], 0, 0⟩⟩
noncomputable def L49_1014v1 (p_Datas : List PV) (i : Int) (p_Name : List UInt8) (p_Version : Int) (p_Uses : List PV) (p_Traits : List PV) (p_Impls : List PV) (p_Funcs : List PV) (p_Actors : List PV) (name : List UInt8) : Option Out := LV Pr T 49 [1, 0, 1, 4] (st49_1014v1 p_Datas i p_Name p_Version p_Uses p_Traits p_Impls p_Funcs p_Actors name)
def st49_101451104111014 (l : List PV) (v : List PV) (i : Int) : AS :=
  ⟨[.any, .any, .any, .any, .any, .any, .any, .bld 0 0 l, .any, .any, .any, .any, .any, .any, .any, .any, .any, .any, .any, .any, .any, .any, .any, .pv (.lst v), .pv (.int .i64 (v.length : Int)), .pv (.int .i64 i), .any, .any, .any, .any, .any, .any, .any, .any, .any, .any, .any, .any, .any, .any, .any, .any], ⟨[], [], [(0, 4)], 0, 0⟩⟩
noncomputable def L49_101451104111014 (l : List PV) (v : List PV) (i : Int) : Option Out := LV Pr T 49 [1, 0, 1, 4, 5, 1, 1, 0, 4, 1, 1, 1, 0, 1, 4] (st49_101451104111014 l v i)
theorem f49 (p_Name : List UInt8) (p_Version : Int) (p_Uses : List PV) (p_Datas : List PV) (p_Traits : List PV) (p_Impls : List PV) (p_Funcs : List PV) (p_Actors : List PV) (name : List UInt8) (cl_ : FuncId → List Arg → Option Out) (lp_ : List Nat → AS → Option Out) : runW Pr T cl_ lp_ 49 [.pv (.agg [.str p_Name, .int .i64 p_Version, .lst p_Uses, .lst p_Datas, .lst p_Traits, .lst p_Impls, .lst p_Funcs, .lst p_Actors]), .pv (.str name)] =
  lp_ [1, 0, 1, 4] (st49_1014 p_Datas p_Name p_Version p_Uses p_Traits p_Impls p_Funcs p_Actors name) := by kernel_rfl
theorem e49 (p_Name : List UInt8) (p_Version : Int) (p_Uses : List PV) (p_Datas : List PV) (p_Traits : List PV) (p_Impls : List PV) (p_Funcs : List PV) (p_Actors : List PV) (name : List UInt8) : V 49 [.pv (.agg [.str p_Name, .int .i64 p_Version, .lst p_Uses, .lst p_Datas, .lst p_Traits, .lst p_Impls, .lst p_Funcs, .lst p_Actors]), .pv (.str name)] =
  L49_1014 p_Datas p_Name p_Version p_Uses p_Traits p_Impls p_Funcs p_Actors name :=
  (V_eq pa rfl _).trans (f49 p_Name p_Version p_Uses p_Datas p_Traits p_Impls p_Funcs p_Actors name V (LV Pr T 49))
theorem f49_1014 (p_Datas : List PV) (p_Name : List UInt8) (p_Version : Int) (p_Uses : List PV) (p_Traits : List PV) (p_Impls : List PV) (p_Funcs : List PV) (p_Actors : List PV) (name : List UInt8) (cl_ : FuncId → List Arg → Option Out) (lp_ : List Nat → AS → Option Out) : stepW Pr T cl_ lp_ 49 [1, 0, 1, 4] (st49_1014 p_Datas p_Name p_Version p_Uses p_Traits p_Impls p_Funcs p_Actors name) =
  bif decide ((0 : Int) < (p_Datas.length : Int)) then
    (p_Datas[(0 : Int).toNat]?).bind fun x =>
      (bif (Sh.agg [Sh.str, Sh.lst, Sh.lst]).fits x then
        ((cl_ 82 [.pv (.lst ((x.c 2).toLst)), .pv (.fn 83 [.ptr [.str name]])]).bind retPV).bind fun r =>
          (bif (Sh.bool).fits r then
            bif (!r.toBool) then
              lp_ [1, 0, 1, 4] (st49_1014v1 p_Datas 1 p_Name p_Version p_Uses p_Traits p_Impls p_Funcs p_Actors name)
            else lp_ [1, 0, 1, 4, 5, 1, 1, 0, 4, 1, 1, 1, 0, 1, 4] (st49_101451104111014 [] ((x.c 2).toLst) 0)
          else none)
      else none)
  else some (.pv .nils, []) := by kernel_rfl
theorem e49_1014 (p_Datas : List PV) (p_Name : List UInt8) (p_Version : Int) (p_Uses : List PV) (p_Traits : List PV) (p_Impls : List PV) (p_Funcs : List PV) (p_Actors : List PV) (name : List UInt8) : L49_1014 p_Datas p_Name p_Version p_Uses p_Traits p_Impls p_Funcs p_Actors name =
  bif decide ((0 : Int) < (p_Datas.length : Int)) then
    (p_Datas[(0 : Int).toNat]?).bind fun x =>
      (bif (Sh.agg [Sh.str, Sh.lst, Sh.lst]).fits x then
        ((V 82 [.pv (.lst ((x.c 2).toLst)), .pv (.fn 83 [.ptr [.str name]])]).bind retPV).bind fun r =>
          (bif (Sh.bool).fits r then
            bif (!r.toBool) then
              L49_1014v1 p_Datas 1 p_Name p_Version p_Uses p_Traits p_Impls p_Funcs p_Actors name
            else L49_101451104111014 [] ((x.c 2).toLst) 0
          else none)
      else none)
  else some (.pv .nils, []) :=
  (LV_eq pa 49 _ _).trans (f49_1014 p_Datas p_Name p_Version p_Uses p_Traits p_Impls p_Funcs p_Actors name V (LV Pr T 49))
theorem f49_1014v1 (p_Datas : List PV) (i : Int) (p_Name : List UInt8) (p_Version : Int) (p_Uses : List PV) (p_Traits : List PV) (p_Impls : List PV) (p_Funcs : List PV) (p_Actors : List PV) (name : List UInt8) (cl_ : FuncId → List Arg → Option Out) (lp_ : List Nat → AS → Option Out) : stepW Pr T cl_ lp_ 49 [1, 0, 1, 4] (st49_1014v1 p_Datas i p_Name p_Version p_Uses p_Traits p_Impls p_Funcs p_Actors name) =
  bif decide (i < (p_Datas.length : Int)) then
    bif decide (0 ≤ i) then
      (p_Datas[i.toNat]?).bind fun x =>
        (bif (Sh.agg [Sh.str, Sh.lst, Sh.lst]).fits x then
          ((cl_ 82 [.pv (.lst ((x.c 2).toLst)), .pv (.fn 83 [.ptr [.str name]])]).bind retPV).bind fun r =>
            (bif (Sh.bool).fits r then
              bif (!r.toBool) then
                lp_ [1, 0, 1, 4] (st49_1014v1 p_Datas (IntKind.i64.wrap (i + (1 : Int))) p_Name p_Version p_Uses p_Traits p_Impls p_Funcs p_Actors name)
              else lp_ [1, 0, 1, 4, 5, 1, 1, 0, 4, 1, 1, 1, 0, 1, 4] (st49_101451104111014 [] ((x.c 2).toLst) 0)
            else none)
        else none)
    else none
  else some (.pv .nils, []) := by kernel_rfl
theorem e49_1014v1 (p_Datas : List PV) (i : Int) (p_Name : List UInt8) (p_Version : Int) (p_Uses : List PV) (p_Traits : List PV) (p_Impls : List PV) (p_Funcs : List PV) (p_Actors : List PV) (name : List UInt8) : L49_1014v1 p_Datas i p_Name p_Version p_Uses p_Traits p_Impls p_Funcs p_Actors name =
  bif decide (i < (p_Datas.length : Int)) then
    bif decide (0 ≤ i) then
      (p_Datas[i.toNat]?).bind fun x =>
        (bif (Sh.agg [Sh.str, Sh.lst, Sh.lst]).fits x then
          ((V 82 [.pv (.lst ((x.c 2).toLst)), .pv (.fn 83 [.ptr [.str name]])]).bind retPV).bind fun r =>
            (bif (Sh.bool).fits r then
              bif (!r.toBool) then
                L49_1014v1 p_Datas (IntKind.i64.wrap (i + (1 : Int))) p_Name p_Version p_Uses p_Traits p_Impls p_Funcs p_Actors name
              else L49_101451104111014 [] ((x.c 2).toLst) 0
            else none)
        else none)
    else none
  else some (.pv .nils, []) :=
  (LV_eq pa 49 _ _).trans (f49_1014v1 p_Datas i p_Name p_Version p_Uses p_Traits p_Impls p_Funcs p_Actors name V (LV Pr T 49))
theorem f49_101451104111014 (l : List PV) (v : List PV) (i : Int) (cl_ : FuncId → List Arg → Option Out) (lp_ : List Nat → AS → Option Out) : stepW Pr T cl_ lp_ 49 [1, 0, 1, 4, 5, 1, 1, 0, 4, 1, 1, 1, 0, 1, 4] (st49_101451104111014 l v i) =
  bif decide (i < (v.length : Int)) then
    bif decide (0 ≤ i) then
      (v[i.toNat]?).bind fun x =>
        (bif (Sh.agg [Sh.str, Sh.lst]).fits x then
          ((cl_ 55 [.pv (.int .i64 ((x.c 1).toLst.length : Int))]).bind retPV).bind fun r =>
            (bif (Sh.lst).fits r then
              bif small (l.length) 1 56 then
                lp_ [1, 0, 1, 4, 5, 1, 1, 0, 4, 1, 1, 1, 0, 1, 4] (st49_101451104111014 (l ++ ([.agg [.int .i64 6, .int .i64 0, .str ((x.c 0).toStr), .lst r.toLst]] : List PV)) v (IntKind.i64.wrap (i + (1 : Int))))
              else none
            else none)
        else none)
    else none
  else some (.bld 4 l, []) := by kernel_rfl
theorem e49_101451104111014 (l : List PV) (v : List PV) (i : Int) : L49_101451104111014 l v i =
  bif decide (i < (v.length : Int)) then
    bif decide (0 ≤ i) then
      (v[i.toNat]?).bind fun x =>
        (bif (Sh.agg [Sh.str, Sh.lst]).fits x then
          ((V 55 [.pv (.int .i64 ((x.c 1).toLst.length : Int))]).bind retPV).bind fun r =>
            (bif (Sh.lst).fits r then
              bif small (l.length) 1 56 then
                L49_101451104111014 (l ++ ([.agg [.int .i64 6, .int .i64 0, .str ((x.c 0).toStr), .lst r.toLst]] : List PV)) v (IntKind.i64.wrap (i + (1 : Int)))
              else none
            else none)
        else none)
    else none
  else some (.bld 4 l, []) :=
  (LV_eq pa 49 _ _).trans (f49_101451104111014 l v i V (LV Pr T 49))
/-! 50 roadstead/cover.anyPat -/
theorem f50  (cl_ : FuncId → List Arg → Option Out) (lp_ : List Nat → AS → Option Out) : runW Pr T cl_ lp_ 50 [] =
  some (.pv (.agg [.int .i64 1, .int .i64 0, .str [], .lst []]), []) := by kernel_rfl
theorem e50  : V 50 [] =
  some (.pv (.agg [.int .i64 1, .int .i64 0, .str [], .lst []]), []) :=
  (V_eq pa rfl _).trans (f50  V (LV Pr T 50))
/-! 53 roadstead/cover.alike -/
theorem f53 (a_Kind : Int) (a_Num : Int) (a_Text : List UInt8) (a_Args : List PV) (b_Kind : Int) (b_Num : Int) (b_Text : List UInt8) (b_Args : List PV) (cl_ : FuncId → List Arg → Option Out) (lp_ : List Nat → AS → Option Out) : runW Pr T cl_ lp_ 53 [.pv (.agg [.int .i64 a_Kind, .int .i64 a_Num, .str a_Text, .lst a_Args]), .pv (.agg [.int .i64 b_Kind, .int .i64 b_Num, .str b_Text, .lst b_Args])] =
  bif (a_Kind == b_Kind) then
    bif (a_Num == b_Num) then
      bif (a_Text == b_Text) then
        some (.pv (.bool ((a_Args.length : Int) == (b_Args.length : Int))), [])
      else some (.pv (.bool false), [])
    else some (.pv (.bool false), [])
  else some (.pv (.bool false), []) := by kernel_rfl
theorem e53 (a_Kind : Int) (a_Num : Int) (a_Text : List UInt8) (a_Args : List PV) (b_Kind : Int) (b_Num : Int) (b_Text : List UInt8) (b_Args : List PV) : V 53 [.pv (.agg [.int .i64 a_Kind, .int .i64 a_Num, .str a_Text, .lst a_Args]), .pv (.agg [.int .i64 b_Kind, .int .i64 b_Num, .str b_Text, .lst b_Args])] =
  bif (a_Kind == b_Kind) then
    bif (a_Num == b_Num) then
      bif (a_Text == b_Text) then
        some (.pv (.bool ((a_Args.length : Int) == (b_Args.length : Int))), [])
      else some (.pv (.bool false), [])
    else some (.pv (.bool false), [])
  else some (.pv (.bool false), []) :=
  (V_eq pa rfl _).trans (f53 a_Kind a_Num a_Text a_Args b_Kind b_Num b_Text b_Args V (LV Pr T 53))
/-! 55 roadstead/cover.anys -/
def st55_11014 (l : List PV) (n : Int) (i : Int) : AS :=
  ⟨[.any, .any, .any, .bld 0 0 l, .pv (.int .i64 n), .pv (.int .i64 i), .any, .any, .any, .any, .any, .any, .any], ⟨[], [], [(0, 4)], 0, 0⟩⟩
noncomputable def L55_11014 (l : List PV) (n : Int) (i : Int) : Option Out := LV Pr T 55 [1, 1, 0, 1, 4] (st55_11014 l n i)
theorem f55 (n : Int) (cl_ : FuncId → List Arg → Option Out) (lp_ : List Nat → AS → Option Out) : runW Pr T cl_ lp_ 55 [.pv (.int .i64 n)] =
  lp_ [1, 1, 0, 1, 4] (st55_11014 [] n 0) := by kernel_rfl
theorem e55 (n : Int) : V 55 [.pv (.int .i64 n)] =
  L55_11014 [] n 0 :=
  (V_eq pa rfl _).trans (f55 n V (LV Pr T 55))
theorem f55_11014 (l : List PV) (n : Int) (i : Int) (cl_ : FuncId → List Arg → Option Out) (lp_ : List Nat → AS → Option Out) : stepW Pr T cl_ lp_ 55 [1, 1, 0, 1, 4] (st55_11014 l n i) =
  bif decide (i < n) then
    ((cl_ 50 []).bind retPV).bind fun r =>
      (bif (Sh.agg [Sh.int .i64, Sh.int .i64, Sh.str, Sh.lst]).fits r then
        bif small (l.length) 1 56 then
          lp_ [1, 1, 0, 1, 4] (st55_11014 (l ++ ([.agg [.int .i64 ((r.c 0).toInt), .int .i64 ((r.c 1).toInt), .str ((r.c 2).toStr), .lst ((r.c 3).toLst)]] : List PV)) n (IntKind.i64.wrap (i + (1 : Int))))
        else none
      else none)
  else some (.bld 4 l, []) := by kernel_rfl
theorem e55_11014 (l : List PV) (n : Int) (i : Int) : L55_11014 l n i =
  bif decide (i < n) then
    ((V 50 []).bind retPV).bind fun r =>
      (bif (Sh.agg [Sh.int .i64, Sh.int .i64, Sh.str, Sh.lst]).fits r then
        bif small (l.length) 1 56 then
          L55_11014 (l ++ ([.agg [.int .i64 ((r.c 0).toInt), .int .i64 ((r.c 1).toInt), .str ((r.c 2).toStr), .lst ((r.c 3).toLst)]] : List PV)) n (IntKind.i64.wrap (i + (1 : Int)))
        else none
      else none)
  else some (.bld 4 l, []) :=
  (LV_eq pa 55 _ _).trans (f55_11014 l n i V (LV Pr T 55))
/-! 82 slices.ContainsFunc[[]roadstead/api.Make,roadstead/api.Make] -/
theorem f82 (s : List PV) (f_f : FuncId) (f_c : List PV) (cl_ : FuncId → List Arg → Option Out) (lp_ : List Nat → AS → Option Out) : runW Pr T cl_ lp_ 82 [.pv (.lst s), .pv (.fn f_f f_c)] =
  ((cl_ 104 [.pv (.lst s), .pv (.fn f_f f_c)]).bind retPV).bind fun r =>
    (bif (Sh.int .i64).fits r then
      some (.pv (.bool (decide ((r.toInt) ≥ (0 : Int)))), [])
    else none) := by kernel_rfl
theorem e82 (s : List PV) (f_f : FuncId) (f_c : List PV) : V 82 [.pv (.lst s), .pv (.fn f_f f_c)] =
  ((V 104 [.pv (.lst s), .pv (.fn f_f f_c)]).bind retPV).bind fun r =>
    (bif (Sh.int .i64).fits r then
      some (.pv (.bool (decide ((r.toInt) ≥ (0 : Int)))), [])
    else none) :=
  (V_eq pa rfl _).trans (f82 s f_f f_c V (LV Pr T 82))
/-! 83 roadstead/cover.Makes$1 -/
theorem f83 (m_Name : List UInt8) (m_Args : List PV) (c0 : List UInt8) (cl_ : FuncId → List Arg → Option Out) (lp_ : List Nat → AS → Option Out) : runW Pr T cl_ lp_ 83 [.pv (.agg [.str m_Name, .lst m_Args]), .pv (.ptr [.str c0])] =
  some (.pv (.bool (m_Name == c0)), []) := by kernel_rfl
theorem e83 (m_Name : List UInt8) (m_Args : List PV) (c0 : List UInt8) : V 83 [.pv (.agg [.str m_Name, .lst m_Args]), .pv (.ptr [.str c0])] =
  some (.pv (.bool (m_Name == c0)), []) :=
  (V_eq pa rfl _).trans (f83 m_Name m_Args c0 V (LV Pr T 83))
/-! 104 slices.IndexFunc[[]roadstead/api.Make,roadstead/api.Make] -/
def st104_1014 (s : List PV) (f_f : FuncId) (f_c : List PV) (i : Int) : AS :=
  ⟨[.pv (.lst s), .pv (.fn f_f f_c), .any, .any, .any, .any, .any, .pv (.int .i64 (s.length : Int)), .pv (.int .i64 i), .any, .any, .any, .any, .any, .any, .any, .any, .any, .any], ⟨[], [], [], 0, 0⟩⟩
noncomputable def L104_1014 (s : List PV) (f_f : FuncId) (f_c : List PV) (i : Int) : Option Out := LV Pr T 104 [1, 0, 1, 4] (st104_1014 s f_f f_c i)
theorem f104 (s : List PV) (f_f : FuncId) (f_c : List PV) (cl_ : FuncId → List Arg → Option Out) (lp_ : List Nat → AS → Option Out) : runW Pr T cl_ lp_ 104 [.pv (.lst s), .pv (.fn f_f f_c)] =
  lp_ [1, 0, 1, 4] (st104_1014 s f_f f_c 0) := by kernel_rfl
theorem e104 (s : List PV) (f_f : FuncId) (f_c : List PV) : V 104 [.pv (.lst s), .pv (.fn f_f f_c)] =
  L104_1014 s f_f f_c 0 :=
  (V_eq pa rfl _).trans (f104 s f_f f_c V (LV Pr T 104))
theorem f104_1014 (s : List PV) (f_f : FuncId) (f_c : List PV) (i : Int) (cl_ : FuncId → List Arg → Option Out) (lp_ : List Nat → AS → Option Out) : stepW Pr T cl_ lp_ 104 [1, 0, 1, 4] (st104_1014 s f_f f_c i) =
  bif decide (i < (s.length : Int)) then
    bif decide (0 ≤ i) then
      (s[i.toNat]?).bind fun x =>
        (bif (Sh.agg [Sh.str, Sh.lst]).fits x then
          ((cl_ f_f ((([.agg [.str ((x.c 0).toStr), .lst ((x.c 1).toLst)]] : List PV) ++ f_c).map .pv)).bind retPV).bind fun r =>
            (bif (Sh.bool).fits r then
              bif r.toBool then
                some (.pv (.int .i64 i), [])
              else lp_ [1, 0, 1, 4] (st104_1014 s f_f f_c (IntKind.i64.wrap (i + (1 : Int))))
            else none)
        else none)
    else none
  else some (.pv (.int .i64 (-1)), []) := by kernel_rfl
theorem e104_1014 (s : List PV) (f_f : FuncId) (f_c : List PV) (i : Int) : L104_1014 s f_f f_c i =
  bif decide (i < (s.length : Int)) then
    bif decide (0 ≤ i) then
      (s[i.toNat]?).bind fun x =>
        (bif (Sh.agg [Sh.str, Sh.lst]).fits x then
          ((V f_f ((([.agg [.str ((x.c 0).toStr), .lst ((x.c 1).toLst)]] : List PV) ++ f_c).map .pv)).bind retPV).bind fun r =>
            (bif (Sh.bool).fits r then
              bif r.toBool then
                some (.pv (.int .i64 i), [])
              else L104_1014 s f_f f_c (IntKind.i64.wrap (i + (1 : Int)))
            else none)
        else none)
    else none
  else some (.pv (.int .i64 (-1)), []) :=
  (LV_eq pa 104 _ _).trans (f104_1014 s f_f f_c i V (LV Pr T 104))
/-! 51 slices.ContainsFunc[[]roadstead/api.Pat,roadstead/api.Pat] -/
theorem f51 (s : List PV) (f_f : FuncId) (f_c : List PV) (cl_ : FuncId → List Arg → Option Out) (lp_ : List Nat → AS → Option Out) : runW Pr T cl_ lp_ 51 [.pv (.lst s), .pv (.fn f_f f_c)] =
  ((cl_ 14 [.pv (.lst s), .pv (.fn f_f f_c)]).bind retPV).bind fun r =>
    (bif (Sh.int .i64).fits r then
      some (.pv (.bool (decide ((r.toInt) ≥ (0 : Int)))), [])
    else none) := by kernel_rfl
theorem e51 (s : List PV) (f_f : FuncId) (f_c : List PV) : V 51 [.pv (.lst s), .pv (.fn f_f f_c)] =
  ((V 14 [.pv (.lst s), .pv (.fn f_f f_c)]).bind retPV).bind fun r =>
    (bif (Sh.int .i64).fits r then
      some (.pv (.bool (decide ((r.toInt) ≥ (0 : Int)))), [])
    else none) :=
  (V_eq pa rfl _).trans (f51 s f_f f_c V (LV Pr T 51))
/-! 52 roadstead/cover.other$1 -/
theorem f52 (q_Kind : Int) (q_Num : Int) (q_Text : List UInt8) (q_Args : List PV) (c0 : Int) (c01 : Int) (c02 : List UInt8) (c03 : List PV) (cl_ : FuncId → List Arg → Option Out) (lp_ : List Nat → AS → Option Out) : runW Pr T cl_ lp_ 52 [.pv (.agg [.int .i64 q_Kind, .int .i64 q_Num, .str q_Text, .lst q_Args]), .pv (.ptr [.int .i64 c0, .int .i64 c01, .str c02, .lst c03])] =
  ((cl_ 53 [.pv (.agg [.int .i64 q_Kind, .int .i64 q_Num, .str q_Text, .lst q_Args]), .pv (.agg [.int .i64 c0, .int .i64 c01, .str c02, .lst c03])]).bind retPV).bind fun r =>
    (bif (Sh.bool).fits r then
      some (.pv (.bool r.toBool), [])
    else none) := by kernel_rfl
theorem e52 (q_Kind : Int) (q_Num : Int) (q_Text : List UInt8) (q_Args : List PV) (c0 : Int) (c01 : Int) (c02 : List UInt8) (c03 : List PV) : V 52 [.pv (.agg [.int .i64 q_Kind, .int .i64 q_Num, .str q_Text, .lst q_Args]), .pv (.ptr [.int .i64 c0, .int .i64 c01, .str c02, .lst c03])] =
  ((V 53 [.pv (.agg [.int .i64 q_Kind, .int .i64 q_Num, .str q_Text, .lst q_Args]), .pv (.agg [.int .i64 c0, .int .i64 c01, .str c02, .lst c03])]).bind retPV).bind fun r =>
    (bif (Sh.bool).fits r then
      some (.pv (.bool r.toBool), [])
    else none) :=
  (V_eq pa rfl _).trans (f52 q_Kind q_Num q_Text q_Args c0 c01 c02 c03 V (LV Pr T 52))
/-! 54 roadstead/cover.other$2 -/
theorem f54 (q_Kind : Int) (q_Num : Int) (q_Text : List UInt8) (q_Args : List PV) (c0 : Int) (c01 : Int) (c02 : List UInt8) (c03 : List PV) (cl_ : FuncId → List Arg → Option Out) (lp_ : List Nat → AS → Option Out) : runW Pr T cl_ lp_ 54 [.pv (.agg [.int .i64 q_Kind, .int .i64 q_Num, .str q_Text, .lst q_Args]), .pv (.ptr [.int .i64 c0, .int .i64 c01, .str c02, .lst c03])] =
  ((cl_ 53 [.pv (.agg [.int .i64 q_Kind, .int .i64 q_Num, .str q_Text, .lst q_Args]), .pv (.agg [.int .i64 c0, .int .i64 c01, .str c02, .lst c03])]).bind retPV).bind fun r =>
    (bif (Sh.bool).fits r then
      some (.pv (.bool r.toBool), [])
    else none) := by kernel_rfl
theorem e54 (q_Kind : Int) (q_Num : Int) (q_Text : List UInt8) (q_Args : List PV) (c0 : Int) (c01 : Int) (c02 : List UInt8) (c03 : List PV) : V 54 [.pv (.agg [.int .i64 q_Kind, .int .i64 q_Num, .str q_Text, .lst q_Args]), .pv (.ptr [.int .i64 c0, .int .i64 c01, .str c02, .lst c03])] =
  ((V 53 [.pv (.agg [.int .i64 q_Kind, .int .i64 q_Num, .str q_Text, .lst q_Args]), .pv (.agg [.int .i64 c0, .int .i64 c01, .str c02, .lst c03])]).bind retPV).bind fun r =>
    (bif (Sh.bool).fits r then
      some (.pv (.bool r.toBool), [])
    else none) :=
  (V_eq pa rfl _).trans (f54 q_Kind q_Num q_Text q_Args c0 c01 c02 c03 V (LV Pr T 54))
end Go.AL.S11
