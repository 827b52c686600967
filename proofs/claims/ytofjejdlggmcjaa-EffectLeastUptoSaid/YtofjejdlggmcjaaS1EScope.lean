/- Equations of functions in the abstract machine: printed by gen.py. -/
import Derived.Test.YtofjejdlggmcjaaS1T
set_option linter.unusedVariables false
set_option maxRecDepth 100000
namespace Go.AL.S1
open Go Go.AL
/-! 11 roadstead/roadkeep2.ScopeMore -/
def st11_111014 (l : List PV) (more : List UInt8) (v : List PV) (i : Int) (p_Name : List UInt8) (p_Version : Int) (p_Uses : List PV) (p_Datas : List PV) (p_Traits : List PV) (p_Impls : List PV) (p_Funcs : List PV) (p_Actors : List PV) : AS :=
  ⟨[.any, .pv (.lst l), .pv (.str more), .box 0 0, .any, .any, .any, .any, .any, .any, .any, .any, .any, .any, .any, .any, .any, .any, .any, .pv (.lst v), .pv (.int .i64 (v.length : Int)), .pv (.int .i64 i), .any, .any, .any, .any, .any, .any, .any, .any, .any, .any, .any, .any, .any, .any, .any, .any, .any, .any, .any, .any, .any, .any, .any, .any, .any, .any, .any, .any], ⟨[(false, [.pv (.str p_Name), .pv (.int .i64 p_Version), .pv (.lst p_Uses), .pv (.lst p_Datas), .pv (.lst p_Traits), .pv (.lst p_Impls), .pv (.lst p_Funcs), .pv (.lst p_Actors)])], [], []⟩⟩
noncomputable def L11_111014 (l : List PV) (more : List UInt8) (v : List PV) (i : Int) (p_Name : List UInt8) (p_Version : Int) (p_Uses : List PV) (p_Datas : List PV) (p_Traits : List PV) (p_Impls : List PV) (p_Funcs : List PV) (p_Actors : List PV) : Option Out := LV Pr T 11 [1, 1, 1, 0, 1, 4] (st11_111014 l more v i p_Name p_Version p_Uses p_Datas p_Traits p_Impls p_Funcs p_Actors)
theorem e11 (p_Name : List UInt8) (p_Version : Int) (p_Uses : List PV) (p_Datas : List PV) (p_Traits : List PV) (p_Impls : List PV) (p_Funcs : List PV) (p_Actors : List PV) (l : List PV) (more : List UInt8) : V 11 [.pv (.agg [.str p_Name, .int .i64 p_Version, .lst p_Uses, .lst p_Datas, .lst p_Traits, .lst p_Impls, .lst p_Funcs, .lst p_Actors]), .pv (.lst l), .pv (.str more)] =
  ((V 36 [.pv (.agg [.str p_Name, .int .i64 p_Version, .lst p_Uses, .lst p_Datas, .lst p_Traits, .lst p_Impls, .lst p_Funcs, .lst p_Actors])]).bind retPV).bind fun r =>
    (bif (Sh.bool).fits r then
      bif (!r.toBool) then
        some (.pv (.bool true), [])
      else ((V 37 []).bind retPV).bind fun r1 =>
        (bif (Sh.bool).fits r1 then
          bif (!r1.toBool) then
            some (.pv (.bool false), [])
          else ((V 38 [.pv (.agg [.str p_Name, .int .i64 p_Version, .lst p_Uses, .lst p_Datas, .lst p_Traits, .lst p_Impls, .lst p_Funcs, .lst p_Actors])]).bind retPV).bind fun r2 =>
            (bif (Sh.lst).fits r2 then
              L11_111014 l more r2.toLst 0 p_Name p_Version p_Uses p_Datas p_Traits p_Impls p_Funcs p_Actors
            else none)
        else none)
    else none) :=
  (V_eq pa rfl _).trans (by kernel_rfl)
theorem e11_111014 (l : List PV) (more : List UInt8) (v : List PV) (i : Int) (p_Name : List UInt8) (p_Version : Int) (p_Uses : List PV) (p_Datas : List PV) (p_Traits : List PV) (p_Impls : List PV) (p_Funcs : List PV) (p_Actors : List PV) : L11_111014 l more v i p_Name p_Version p_Uses p_Datas p_Traits p_Impls p_Funcs p_Actors =
  bif decide (i < (v.length : Int)) then
    bif decide (0 ≤ i) then
      (v[i.toNat]?).bind fun x =>
        (bif (Sh.agg [Sh.int .i64, Sh.int .i64, Sh.str, Sh.lst, Sh.lst, Sh.lst, Sh.lst, Sh.int .i64]).fits x then
          ((V 39 [.pv (.agg [.str p_Name, .int .i64 p_Version, .lst p_Uses, .lst p_Datas, .lst p_Traits, .lst p_Impls, .lst p_Funcs, .lst p_Actors]), .pv (.lst l), .pv (.agg [.int .i64 ((x.c 0).toInt), .int .i64 ((x.c 1).toInt), .str ((x.c 2).toStr), .lst ((x.c 3).toLst), .lst ((x.c 4).toLst), .lst ((x.c 5).toLst), .lst ((x.c 6).toLst), .int .i64 ((x.c 7).toInt)])]).bind retPV).bind fun r =>
            (bif (Sh.tup [Sh.int .i64, Sh.int .i64]).fits r then
              (V 40 [.pv (.lst l)]).bind fun r1 =>
                ((retB 1 r1).bind fun l1 =>
                  (bif small (l1.length) 1 16 then
                    ((V 39 [.pv (.agg [.str p_Name, .int .i64 p_Version, .lst p_Uses, .lst p_Datas, .lst p_Traits, .lst p_Impls, .lst p_Funcs, .lst p_Actors]), .pv (.lst (l1 ++ [.str more])), .pv (.agg [.int .i64 ((x.c 0).toInt), .int .i64 ((x.c 1).toInt), .str ((x.c 2).toStr), .lst ((x.c 3).toLst), .lst ((x.c 4).toLst), .lst ((x.c 5).toLst), .lst ((x.c 6).toLst), .int .i64 ((x.c 7).toInt)])]).bind retPV).bind fun r2 =>
                      (bif (Sh.tup [Sh.int .i64, Sh.int .i64]).fits r2 then
                        bif (((r.r 0).toInt) == (0 : Int)) then
                          bif (((r2.r 0).toInt) != (0 : Int)) then
                            some (.pv (.bool false), [])
                          else L11_111014 l more v (IntKind.i64.wrap (i + (1 : Int))) p_Name p_Version p_Uses p_Datas p_Traits p_Impls p_Funcs p_Actors
                        else L11_111014 l more v (IntKind.i64.wrap (i + (1 : Int))) p_Name p_Version p_Uses p_Datas p_Traits p_Impls p_Funcs p_Actors
                      else none)
                  else none))
            else none)
        else none)
    else none
  else some (.pv (.bool true), []) :=
  (LV_eq pa 11 _ _).trans (by kernel_rfl)
/-! 36 roadstead/roadkeep2.small -/
def st36_11014 (i : Int) (v : List PV) (i1 : Int) : AS :=
  ⟨[.any, .any, .any, .pv (.int .i64 i), .any, .any, .any, .pv (.lst v), .pv (.int .i64 (v.length : Int)), .pv (.int .i64 i1), .any, .any, .any, .any, .any, .any, .any, .any, .any, .any], ⟨[], [], []⟩⟩
noncomputable def L36_11014 (i : Int) (v : List PV) (i1 : Int) : Option Out := LV Pr T 36 [1, 1, 0, 1, 4] (st36_11014 i v i1)
theorem e36 (p_Name : List UInt8) (p_Version : Int) (p_Uses : List PV) (p_Datas : List PV) (p_Traits : List PV) (p_Impls : List PV) (p_Funcs : List PV) (p_Actors : List PV) : V 36 [.pv (.agg [.str p_Name, .int .i64 p_Version, .lst p_Uses, .lst p_Datas, .lst p_Traits, .lst p_Impls, .lst p_Funcs, .lst p_Actors])] =
  ((V 38 [.pv (.agg [.str p_Name, .int .i64 p_Version, .lst p_Uses, .lst p_Datas, .lst p_Traits, .lst p_Impls, .lst p_Funcs, .lst p_Actors])]).bind retPV).bind fun r =>
    (bif (Sh.lst).fits r then
      L36_11014 0 r.toLst 0
    else none) :=
  (V_eq pa rfl _).trans (by kernel_rfl)
theorem e36_11014 (i : Int) (v : List PV) (i1 : Int) : L36_11014 i v i1 =
  bif decide (i1 < (v.length : Int)) then
    bif decide (0 ≤ i1) then
      (v[i1.toNat]?).bind fun x =>
        (bif (Sh.agg [Sh.int .i64, Sh.int .i64, Sh.str, Sh.lst, Sh.lst, Sh.lst, Sh.lst, Sh.int .i64]).fits x then
          ((V 43 [.pv (.agg [.int .i64 ((x.c 0).toInt), .int .i64 ((x.c 1).toInt), .str ((x.c 2).toStr), .lst ((x.c 3).toLst), .lst ((x.c 4).toLst), .lst ((x.c 5).toLst), .lst ((x.c 6).toLst), .int .i64 ((x.c 7).toInt)])]).bind retPV).bind fun r =>
            (bif (Sh.int .i64).fits r then
              L36_11014 (IntKind.i64.wrap (i + (r.toInt))) v (IntKind.i64.wrap (i1 + (1 : Int)))
            else none)
        else none)
    else none
  else some (.pv (.bool (decide (i ≤ (400 : Int)))), []) :=
  (LV_eq pa 36 _ _).trans (by kernel_rfl)
/-! 38 roadstead/roadref2.BodiesOf -/
def st38_11014 (l : List PV) (v : List PV) (i : Int) (p_Name : List UInt8) (p_Version : Int) (p_Uses : List PV) (p_Datas : List PV) (p_Traits : List PV) (p_Impls : List PV) (p_Funcs : List PV) (p_Actors : List PV) : AS :=
  ⟨[.any, .box 0 0, .any, .bld 0 0 l, .any, .any, .any, .any, .any, .pv (.lst v), .pv (.int .i64 (v.length : Int)), .pv (.int .i64 i), .any, .any, .any, .any, .any, .any, .any, .any, .any, .any, .any, .any, .any, .any, .any, .any, .any, .any, .any, .any, .any, .any, .any], ⟨[(false, [.pv (.str p_Name), .pv (.int .i64 p_Version), .pv (.lst p_Uses), .pv (.lst p_Datas), .pv (.lst p_Traits), .pv (.lst p_Impls), .pv (.lst p_Funcs), .pv (.lst p_Actors)])], [], [(0, 8)]⟩⟩
noncomputable def L38_11014 (l : List PV) (v : List PV) (i : Int) (p_Name : List UInt8) (p_Version : Int) (p_Uses : List PV) (p_Datas : List PV) (p_Traits : List PV) (p_Impls : List PV) (p_Funcs : List PV) (p_Actors : List PV) : Option Out := LV Pr T 38 [1, 1, 0, 1, 4] (st38_11014 l v i p_Name p_Version p_Uses p_Datas p_Traits p_Impls p_Funcs p_Actors)
def st38_111014 (l1 : List PV) (p_Actors : List PV) (i : Int) : AS :=
  ⟨[.any, .any, .any, .bld 0 0 l1, .any, .any, .any, .any, .any, .any, .any, .any, .any, .any, .any, .any, .any, .any, .any, .any, .any, .any, .pv (.lst p_Actors), .pv (.int .i64 (p_Actors.length : Int)), .pv (.int .i64 i), .any, .any, .any, .any, .any, .any, .any, .any, .any, .any], ⟨[], [], [(0, 8)]⟩⟩
noncomputable def L38_111014 (l1 : List PV) (p_Actors : List PV) (i : Int) : Option Out := LV Pr T 38 [1, 1, 1, 0, 1, 4] (st38_111014 l1 p_Actors i)
theorem e38 (p_Name : List UInt8) (p_Version : Int) (p_Uses : List PV) (p_Datas : List PV) (p_Traits : List PV) (p_Impls : List PV) (p_Funcs : List PV) (p_Actors : List PV) : V 38 [.pv (.agg [.str p_Name, .int .i64 p_Version, .lst p_Uses, .lst p_Datas, .lst p_Traits, .lst p_Impls, .lst p_Funcs, .lst p_Actors])] =
  ((V 52 [.pv (.agg [.str p_Name, .int .i64 p_Version, .lst p_Uses, .lst p_Datas, .lst p_Traits, .lst p_Impls, .lst p_Funcs, .lst p_Actors])]).bind retPV).bind fun r =>
    (bif (Sh.lst).fits r then
      L38_11014 [] r.toLst 0 p_Name p_Version p_Uses p_Datas p_Traits p_Impls p_Funcs p_Actors
    else none) :=
  (V_eq pa rfl _).trans (by kernel_rfl)
theorem e38_11014 (l : List PV) (v : List PV) (i : Int) (p_Name : List UInt8) (p_Version : Int) (p_Uses : List PV) (p_Datas : List PV) (p_Traits : List PV) (p_Impls : List PV) (p_Funcs : List PV) (p_Actors : List PV) : L38_11014 l v i p_Name p_Version p_Uses p_Datas p_Traits p_Impls p_Funcs p_Actors =
  bif decide (i < (v.length : Int)) then
    bif decide (0 ≤ i) then
      (v[i.toNat]?).bind fun x =>
        (bif (Sh.agg [Sh.str, Sh.lst, Sh.lst, Sh.lst, Sh.int .i64, Sh.str, Sh.lst, Sh.int .i64, Sh.int .i64, Sh.str, Sh.lst, Sh.lst, Sh.lst, Sh.lst, Sh.int .i64]).fits x then
          bif small (l.length) 1 136 then
            L38_11014 (l ++ [.agg [.int .i64 ((x.c 7).toInt), .int .i64 ((x.c 8).toInt), .str ((x.c 9).toStr), .lst ((x.c 10).toLst), .lst ((x.c 11).toLst), .lst ((x.c 12).toLst), .lst ((x.c 13).toLst), .int .i64 ((x.c 14).toInt)]]) v (IntKind.i64.wrap (i + (1 : Int))) p_Name p_Version p_Uses p_Datas p_Traits p_Impls p_Funcs p_Actors
          else none
        else none)
    else none
  else L38_111014 l p_Actors 0 :=
  (LV_eq pa 38 _ _).trans (by kernel_rfl)
theorem e38_111014 (l1 : List PV) (p_Actors : List PV) (i : Int) : L38_111014 l1 p_Actors i =
  bif decide (i < (p_Actors.length : Int)) then
    bif decide (0 ≤ i) then
      (p_Actors[i.toNat]?).bind fun x =>
        (bif (Sh.agg [Sh.str, Sh.lst, Sh.lst, Sh.int .i64, Sh.str, Sh.lst, Sh.int .i64, Sh.int .i64, Sh.str, Sh.lst, Sh.lst, Sh.lst, Sh.lst, Sh.int .i64]).fits x then
          bif small (l1.length) 1 136 then
            L38_111014 (l1 ++ [.agg [.int .i64 ((x.c 6).toInt), .int .i64 ((x.c 7).toInt), .str ((x.c 8).toStr), .lst ((x.c 9).toLst), .lst ((x.c 10).toLst), .lst ((x.c 11).toLst), .lst ((x.c 12).toLst), .int .i64 ((x.c 13).toInt)]]) p_Actors (IntKind.i64.wrap (i + (1 : Int)))
          else none
        else none)
    else none
  else some (.bld 8 l1, []) :=
  (LV_eq pa 38 _ _).trans (by kernel_rfl)
/-! 39 roadstead/scope.Expr -/
def st39_1116 (within : List PV) (v : Bool) (p_Name : List UInt8) (p_Version : Int) (p_Uses : List PV) (p_Datas : List PV) (p_Traits : List PV) (p_Impls : List PV) (p_Funcs : List PV) (p_Actors : List PV) (e_Kind : Int) (e_Num : Int) (e_Text : List UInt8) (e_Names : List PV) (e_Types : List PV) (e_Args : List PV) (e_Arms : List PV) (e_At : Int) : AS :=
  ⟨[.any, .pv (.lst within), .any, .box 0 0, .any, .box 1 0, .any, .any, .pv (.bool v), .any, .any, .any, .any, .any, .any, .any, .any, .any, .any, .any, .any, .any, .any, .any, .any, .any, .any, .any, .any, .any, .any, .any, .any, .any, .any, .any, .any, .any, .any, .any, .any, .any, .any, .any, .any, .any, .any, .any, .any, .any, .any, .any, .any, .any, .any, .any, .any, .any, .any, .any, .any, .any, .any, .any, .any, .any, .any, .any, .any, .any, .any, .any, .any, .any, .any, .any, .any, .any, .any, .any, .any, .any, .any, .any, .any, .any, .any, .any, .any, .any, .any, .any, .any, .any, .any, .any, .any, .any, .any, .any, .any, .any, .any, .any, .any, .any, .any, .any, .any, .any, .any, .any, .any, .any, .any, .any, .any, .any, .any, .any, .any, .any, .any, .any, .any, .any, .any, .any, .any, .any, .any, .any, .any, .any, .any, .any, .any, .any, .any, .any, .any, .any, .any, .any, .any, .any, .any, .any], ⟨[(false, [.pv (.str p_Name), .pv (.int .i64 p_Version), .pv (.lst p_Uses), .pv (.lst p_Datas), .pv (.lst p_Traits), .pv (.lst p_Impls), .pv (.lst p_Funcs), .pv (.lst p_Actors)]), (false, [.pv (.int .i64 e_Kind), .pv (.int .i64 e_Num), .pv (.str e_Text), .pv (.lst e_Names), .pv (.lst e_Types), .pv (.lst e_Args), .pv (.lst e_Arms), .pv (.int .i64 e_At)])], [], []⟩⟩
noncomputable def L39_1116 (within : List PV) (v : Bool) (p_Name : List UInt8) (p_Version : Int) (p_Uses : List PV) (p_Datas : List PV) (p_Traits : List PV) (p_Impls : List PV) (p_Funcs : List PV) (p_Actors : List PV) (e_Kind : Int) (e_Num : Int) (e_Text : List UInt8) (e_Names : List PV) (e_Types : List PV) (e_Args : List PV) (e_Arms : List PV) (e_At : Int) : Option Out := LV Pr T 39 [1, 1, 1, 6] (st39_1116 within v p_Name p_Version p_Uses p_Datas p_Traits p_Impls p_Funcs p_Actors e_Kind e_Num e_Text e_Names e_Types e_Args e_Arms e_At)
def st39_111014 (within : List PV) (v : Bool) (e_Arms : List PV) (i : Int) (p_Name : List UInt8) (p_Version : Int) (p_Uses : List PV) (p_Datas : List PV) (p_Traits : List PV) (p_Impls : List PV) (p_Funcs : List PV) (p_Actors : List PV) (e_Kind : Int) (e_Num : Int) (e_Text : List UInt8) (e_Names : List PV) (e_Types : List PV) (e_Args : List PV) (e_At : Int) : AS :=
  ⟨[.any, .pv (.lst within), .any, .box 0 0, .any, .box 1 0, .any, .any, .pv (.bool v), .any, .any, .any, .any, .any, .any, .any, .any, .any, .any, .any, .any, .any, .any, .any, .any, .any, .any, .any, .any, .any, .any, .any, .any, .any, .any, .any, .any, .any, .any, .any, .any, .any, .any, .any, .any, .any, .any, .any, .any, .any, .any, .any, .any, .any, .any, .any, .pv (.lst e_Arms), .pv (.int .i64 (e_Arms.length : Int)), .pv (.int .i64 i), .any, .any, .any, .any, .any, .any, .any, .any, .any, .any, .any, .any, .any, .any, .any, .any, .any, .any, .any, .any, .any, .any, .any, .any, .any, .any, .any, .any, .any, .any, .any, .any, .any, .any, .any, .any, .any, .any, .any, .any, .any, .any, .any, .any, .any, .any, .any, .any, .any, .any, .any, .any, .any, .any, .any, .any, .any, .any, .any, .any, .any, .any, .any, .any, .any, .any, .any, .any, .any, .any, .any, .any, .any, .any, .any, .any, .any, .any, .any, .any, .any, .any, .any, .any, .any, .any, .any, .any, .any], ⟨[(false, [.pv (.str p_Name), .pv (.int .i64 p_Version), .pv (.lst p_Uses), .pv (.lst p_Datas), .pv (.lst p_Traits), .pv (.lst p_Impls), .pv (.lst p_Funcs), .pv (.lst p_Actors)]), (false, [.pv (.int .i64 e_Kind), .pv (.int .i64 e_Num), .pv (.str e_Text), .pv (.lst e_Names), .pv (.lst e_Types), .pv (.lst e_Args), .pv (.lst e_Arms), .pv (.int .i64 e_At)])], [], []⟩⟩
noncomputable def L39_111014 (within : List PV) (v : Bool) (e_Arms : List PV) (i : Int) (p_Name : List UInt8) (p_Version : Int) (p_Uses : List PV) (p_Datas : List PV) (p_Traits : List PV) (p_Impls : List PV) (p_Funcs : List PV) (p_Actors : List PV) (e_Kind : Int) (e_Num : Int) (e_Text : List UInt8) (e_Names : List PV) (e_Types : List PV) (e_Args : List PV) (e_At : Int) : Option Out := LV Pr T 39 [1, 1, 1, 0, 1, 4] (st39_111014 within v e_Arms i p_Name p_Version p_Uses p_Datas p_Traits p_Impls p_Funcs p_Actors e_Kind e_Num e_Text e_Names e_Types e_Args e_At)
def st39_11111014 (within : List PV) (e_Args : List PV) (i : Int) (p_Name : List UInt8) (p_Version : Int) (p_Uses : List PV) (p_Datas : List PV) (p_Traits : List PV) (p_Impls : List PV) (p_Funcs : List PV) (p_Actors : List PV) (e_Kind : Int) (e_Num : Int) (e_Text : List UInt8) (e_Names : List PV) (e_Types : List PV) (e_Arms : List PV) (e_At : Int) : AS :=
  ⟨[.any, .pv (.lst within), .any, .box 0 0, .any, .box 1 0, .any, .any, .any, .any, .any, .any, .any, .any, .any, .any, .any, .any, .any, .any, .any, .any, .any, .any, .any, .any, .any, .any, .any, .any, .any, .any, .any, .any, .any, .any, .any, .any, .any, .any, .any, .any, .any, .any, .any, .any, .any, .any, .any, .any, .any, .any, .any, .any, .any, .any, .any, .any, .any, .any, .any, .any, .any, .any, .any, .any, .any, .any, .any, .any, .any, .any, .any, .any, .any, .any, .any, .any, .any, .any, .any, .any, .pv (.lst e_Args), .pv (.int .i64 (e_Args.length : Int)), .pv (.int .i64 i), .any, .any, .any, .any, .any, .any, .any, .any, .any, .any, .any, .any, .any, .any, .any, .any, .any, .any, .any, .any, .any, .any, .any, .any, .any, .any, .any, .any, .any, .any, .any, .any, .any, .any, .any, .any, .any, .any, .any, .any, .any, .any, .any, .any, .any, .any, .any, .any, .any, .any, .any, .any, .any, .any, .any, .any, .any, .any, .any, .any, .any, .any, .any], ⟨[(false, [.pv (.str p_Name), .pv (.int .i64 p_Version), .pv (.lst p_Uses), .pv (.lst p_Datas), .pv (.lst p_Traits), .pv (.lst p_Impls), .pv (.lst p_Funcs), .pv (.lst p_Actors)]), (false, [.pv (.int .i64 e_Kind), .pv (.int .i64 e_Num), .pv (.str e_Text), .pv (.lst e_Names), .pv (.lst e_Types), .pv (.lst e_Args), .pv (.lst e_Arms), .pv (.int .i64 e_At)])], [], []⟩⟩
noncomputable def L39_11111014 (within : List PV) (e_Args : List PV) (i : Int) (p_Name : List UInt8) (p_Version : Int) (p_Uses : List PV) (p_Datas : List PV) (p_Traits : List PV) (p_Impls : List PV) (p_Funcs : List PV) (p_Actors : List PV) (e_Kind : Int) (e_Num : Int) (e_Text : List UInt8) (e_Names : List PV) (e_Types : List PV) (e_Arms : List PV) (e_At : Int) : Option Out := LV Pr T 39 [1, 1, 1, 1, 1, 0, 1, 4] (st39_11111014 within e_Args i p_Name p_Version p_Uses p_Datas p_Traits p_Impls p_Funcs p_Actors e_Kind e_Num e_Text e_Names e_Types e_Arms e_At)
def st39_111110145110411016 (within : List PV) (e_Args : List PV) (i1 : Int) (b : Bool) (p_Name : List UInt8) (p_Version : Int) (p_Uses : List PV) (p_Datas : List PV) (p_Traits : List PV) (p_Impls : List PV) (p_Funcs : List PV) (p_Actors : List PV) (e_Kind : Int) (e_Num : Int) (e_Text : List UInt8) (e_Names : List PV) (e_Types : List PV) (e_Arms : List PV) (e_At : Int) (v : Int) (v1 : Int) (v2 : List UInt8) (v3 : List PV) (v4 : List PV) (v5 : List PV) (v6 : List PV) (v7 : Int) : AS :=
  ⟨[.any, .pv (.lst within), .any, .box 0 0, .any, .box 1 0, .any, .any, .any, .any, .any, .any, .box 2 0, .pv (.lst within), .any, .any, .any, .any, .any, .any, .any, .any, .any, .any, .any, .any, .any, .any, .any, .any, .any, .any, .any, .any, .any, .any, .any, .any, .any, .any, .any, .any, .any, .any, .any, .any, .any, .any, .any, .any, .any, .any, .any, .any, .any, .any, .any, .any, .any, .any, .any, .any, .any, .any, .any, .any, .any, .any, .any, .any, .any, .any, .any, .any, .any, .any, .any, .any, .any, .any, .any, .any, .pv (.lst e_Args), .pv (.int .i64 (e_Args.length : Int)), .pv (.int .i64 i1), .any, .any, .any, .any, .any, .any, .any, .any, .any, .any, .any, .pv (.bool b), .any, .any, .any, .any, .any, .any, .any, .any, .any, .any, .any, .any, .any, .any, .any, .any, .any, .any, .any, .any, .any, .any, .any, .any, .any, .any, .any, .any, .any, .any, .any, .any, .any, .any, .any, .any, .any, .any, .any, .any, .any, .any, .any, .any, .any, .any, .any, .any, .any, .any, .any], ⟨[(false, [.pv (.str p_Name), .pv (.int .i64 p_Version), .pv (.lst p_Uses), .pv (.lst p_Datas), .pv (.lst p_Traits), .pv (.lst p_Impls), .pv (.lst p_Funcs), .pv (.lst p_Actors)]), (false, [.pv (.int .i64 e_Kind), .pv (.int .i64 e_Num), .pv (.str e_Text), .pv (.lst e_Names), .pv (.lst e_Types), .pv (.lst e_Args), .pv (.lst e_Arms), .pv (.int .i64 e_At)]), (false, [.pv (.int .i64 v), .pv (.int .i64 v1), .pv (.str v2), .pv (.lst v3), .pv (.lst v4), .pv (.lst v5), .pv (.lst v6), .pv (.int .i64 v7)])], [], []⟩⟩
noncomputable def L39_111110145110411016 (within : List PV) (e_Args : List PV) (i1 : Int) (b : Bool) (p_Name : List UInt8) (p_Version : Int) (p_Uses : List PV) (p_Datas : List PV) (p_Traits : List PV) (p_Impls : List PV) (p_Funcs : List PV) (p_Actors : List PV) (e_Kind : Int) (e_Num : Int) (e_Text : List UInt8) (e_Names : List PV) (e_Types : List PV) (e_Arms : List PV) (e_At : Int) (v : Int) (v1 : Int) (v2 : List UInt8) (v3 : List PV) (v4 : List PV) (v5 : List PV) (v6 : List PV) (v7 : Int) : Option Out := LV Pr T 39 [1, 1, 1, 1, 1, 0, 1, 4, 5, 1, 1, 0, 4, 1, 1, 0, 1, 6] (st39_111110145110411016 within e_Args i1 b p_Name p_Version p_Uses p_Datas p_Traits p_Impls p_Funcs p_Actors e_Kind e_Num e_Text e_Names e_Types e_Arms e_At v v1 v2 v3 v4 v5 v6 v7)
def st39_111111014 (within : List PV) (e_Arms : List PV) (i : Int) (p_Name : List UInt8) (p_Version : Int) (p_Uses : List PV) (p_Datas : List PV) (p_Traits : List PV) (p_Impls : List PV) (p_Funcs : List PV) (p_Actors : List PV) : AS :=
  ⟨[.any, .pv (.lst within), .any, .box 0 0, .any, .any, .any, .any, .any, .any, .any, .any, .any, .any, .any, .any, .any, .any, .any, .any, .any, .any, .any, .any, .any, .any, .any, .any, .any, .any, .any, .any, .any, .any, .any, .any, .any, .any, .any, .any, .any, .any, .any, .any, .any, .any, .any, .any, .any, .any, .any, .any, .any, .any, .any, .any, .any, .any, .any, .any, .any, .any, .any, .any, .any, .any, .any, .any, .any, .any, .any, .any, .any, .any, .any, .any, .any, .any, .any, .any, .any, .any, .any, .any, .any, .any, .any, .any, .any, .any, .any, .any, .any, .any, .any, .any, .any, .any, .any, .any, .any, .any, .any, .any, .any, .any, .any, .any, .any, .any, .any, .any, .any, .any, .any, .any, .any, .any, .any, .any, .any, .any, .any, .any, .pv (.lst e_Arms), .pv (.int .i64 (e_Arms.length : Int)), .pv (.int .i64 i), .any, .any, .any, .any, .any, .any, .any, .any, .any, .any, .any, .any, .any, .any, .any, .any, .any, .any, .any, .any, .any], ⟨[(false, [.pv (.str p_Name), .pv (.int .i64 p_Version), .pv (.lst p_Uses), .pv (.lst p_Datas), .pv (.lst p_Traits), .pv (.lst p_Impls), .pv (.lst p_Funcs), .pv (.lst p_Actors)])], [], []⟩⟩
noncomputable def L39_111111014 (within : List PV) (e_Arms : List PV) (i : Int) (p_Name : List UInt8) (p_Version : Int) (p_Uses : List PV) (p_Datas : List PV) (p_Traits : List PV) (p_Impls : List PV) (p_Funcs : List PV) (p_Actors : List PV) : Option Out := LV Pr T 39 [1, 1, 1, 1, 1, 1, 0, 1, 4] (st39_111111014 within e_Arms i p_Name p_Version p_Uses p_Datas p_Traits p_Impls p_Funcs p_Actors)
def st39_11111014511041116 (within : List PV) (l1 : List PV) (e_Args : List PV) (i : Int) (p_Name : List UInt8) (p_Version : Int) (p_Uses : List PV) (p_Datas : List PV) (p_Traits : List PV) (p_Impls : List PV) (p_Funcs : List PV) (p_Actors : List PV) (e_Kind : Int) (e_Num : Int) (e_Text : List UInt8) (e_Names : List PV) (e_Types : List PV) (e_Arms : List PV) (e_At : Int) (v : Int) (v1 : Int) (v2 : List UInt8) (v3 : List PV) (v4 : List PV) (v5 : List PV) (v6 : List PV) (v7 : Int) : AS :=
  ⟨[.any, .pv (.lst within), .any, .box 0 0, .any, .box 1 0, .any, .any, .any, .any, .any, .any, .box 2 0, .pv (.lst l1), .any, .any, .any, .any, .any, .any, .any, .any, .any, .any, .any, .any, .any, .any, .any, .any, .any, .any, .any, .any, .any, .any, .any, .any, .any, .any, .any, .any, .any, .any, .any, .any, .any, .any, .any, .any, .any, .any, .any, .any, .any, .any, .any, .any, .any, .any, .any, .any, .any, .any, .any, .any, .any, .any, .any, .any, .any, .any, .any, .any, .any, .any, .any, .any, .any, .any, .any, .any, .pv (.lst e_Args), .pv (.int .i64 (e_Args.length : Int)), .pv (.int .i64 i), .any, .any, .any, .any, .any, .any, .any, .any, .any, .any, .any, .any, .any, .any, .any, .any, .any, .any, .any, .any, .any, .any, .any, .any, .any, .any, .any, .any, .any, .any, .any, .any, .any, .any, .any, .any, .any, .any, .any, .any, .any, .any, .any, .any, .any, .any, .any, .any, .any, .any, .any, .any, .any, .any, .any, .any, .any, .any, .any, .any, .any, .any, .any], ⟨[(false, [.pv (.str p_Name), .pv (.int .i64 p_Version), .pv (.lst p_Uses), .pv (.lst p_Datas), .pv (.lst p_Traits), .pv (.lst p_Impls), .pv (.lst p_Funcs), .pv (.lst p_Actors)]), (false, [.pv (.int .i64 e_Kind), .pv (.int .i64 e_Num), .pv (.str e_Text), .pv (.lst e_Names), .pv (.lst e_Types), .pv (.lst e_Args), .pv (.lst e_Arms), .pv (.int .i64 e_At)]), (false, [.pv (.int .i64 v), .pv (.int .i64 v1), .pv (.str v2), .pv (.lst v3), .pv (.lst v4), .pv (.lst v5), .pv (.lst v6), .pv (.int .i64 v7)])], [], []⟩⟩
noncomputable def L39_11111014511041116 (within : List PV) (l1 : List PV) (e_Args : List PV) (i : Int) (p_Name : List UInt8) (p_Version : Int) (p_Uses : List PV) (p_Datas : List PV) (p_Traits : List PV) (p_Impls : List PV) (p_Funcs : List PV) (p_Actors : List PV) (e_Kind : Int) (e_Num : Int) (e_Text : List UInt8) (e_Names : List PV) (e_Types : List PV) (e_Arms : List PV) (e_At : Int) (v : Int) (v1 : Int) (v2 : List UInt8) (v3 : List PV) (v4 : List PV) (v5 : List PV) (v6 : List PV) (v7 : Int) : Option Out := LV Pr T 39 [1, 1, 1, 1, 1, 0, 1, 4, 5, 1, 1, 0, 4, 1, 1, 1, 6] (st39_11111014511041116 within l1 e_Args i p_Name p_Version p_Uses p_Datas p_Traits p_Impls p_Funcs p_Actors e_Kind e_Num e_Text e_Names e_Types e_Arms e_At v v1 v2 v3 v4 v5 v6 v7)
def st39_111110145110411116 (within : List PV) (l1 : List PV) (e_Args : List PV) (i1 : Int) (p_Name : List UInt8) (p_Version : Int) (p_Uses : List PV) (p_Datas : List PV) (p_Traits : List PV) (p_Impls : List PV) (p_Funcs : List PV) (p_Actors : List PV) (e_Kind : Int) (e_Num : Int) (e_Text : List UInt8) (e_Names : List PV) (e_Types : List PV) (e_Arms : List PV) (e_At : Int) (v : Int) (v1 : Int) (v2 : List UInt8) (v3 : List PV) (v4 : List PV) (v5 : List PV) (v6 : List PV) (v7 : Int) : AS :=
  ⟨[.any, .pv (.lst within), .any, .box 0 0, .any, .box 1 0, .any, .any, .any, .any, .any, .any, .box 2 0, .pv (.lst l1), .any, .any, .any, .any, .any, .any, .any, .any, .any, .any, .any, .any, .any, .any, .any, .any, .any, .any, .any, .any, .any, .any, .any, .any, .any, .any, .any, .any, .any, .any, .any, .any, .any, .any, .any, .any, .any, .any, .any, .any, .any, .any, .any, .any, .any, .any, .any, .any, .any, .any, .any, .any, .any, .any, .any, .any, .any, .any, .any, .any, .any, .any, .any, .any, .any, .any, .any, .any, .pv (.lst e_Args), .pv (.int .i64 (e_Args.length : Int)), .pv (.int .i64 i1), .any, .any, .any, .any, .any, .any, .any, .any, .any, .any, .any, .any, .any, .any, .any, .any, .any, .any, .any, .any, .any, .any, .any, .any, .any, .any, .any, .any, .any, .any, .any, .any, .any, .any, .any, .any, .any, .any, .any, .any, .any, .any, .any, .any, .any, .any, .any, .any, .any, .any, .any, .any, .any, .any, .any, .any, .any, .any, .any, .any, .any, .any, .any], ⟨[(false, [.pv (.str p_Name), .pv (.int .i64 p_Version), .pv (.lst p_Uses), .pv (.lst p_Datas), .pv (.lst p_Traits), .pv (.lst p_Impls), .pv (.lst p_Funcs), .pv (.lst p_Actors)]), (false, [.pv (.int .i64 e_Kind), .pv (.int .i64 e_Num), .pv (.str e_Text), .pv (.lst e_Names), .pv (.lst e_Types), .pv (.lst e_Args), .pv (.lst e_Arms), .pv (.int .i64 e_At)]), (false, [.pv (.int .i64 v), .pv (.int .i64 v1), .pv (.str v2), .pv (.lst v3), .pv (.lst v4), .pv (.lst v5), .pv (.lst v6), .pv (.int .i64 v7)])], [], []⟩⟩
noncomputable def L39_111110145110411116 (within : List PV) (l1 : List PV) (e_Args : List PV) (i1 : Int) (p_Name : List UInt8) (p_Version : Int) (p_Uses : List PV) (p_Datas : List PV) (p_Traits : List PV) (p_Impls : List PV) (p_Funcs : List PV) (p_Actors : List PV) (e_Kind : Int) (e_Num : Int) (e_Text : List UInt8) (e_Names : List PV) (e_Types : List PV) (e_Arms : List PV) (e_At : Int) (v : Int) (v1 : Int) (v2 : List UInt8) (v3 : List PV) (v4 : List PV) (v5 : List PV) (v6 : List PV) (v7 : Int) : Option Out := LV Pr T 39 [1, 1, 1, 1, 1, 0, 1, 4, 5, 1, 1, 0, 4, 1, 1, 1, 1, 6] (st39_111110145110411116 within l1 e_Args i1 p_Name p_Version p_Uses p_Datas p_Traits p_Impls p_Funcs p_Actors e_Kind e_Num e_Text e_Names e_Types e_Arms e_At v v1 v2 v3 v4 v5 v6 v7)
theorem e39 (p_Name : List UInt8) (p_Version : Int) (p_Uses : List PV) (p_Datas : List PV) (p_Traits : List PV) (p_Impls : List PV) (p_Funcs : List PV) (p_Actors : List PV) (within : List PV) (e_Kind : Int) (e_Num : Int) (e_Text : List UInt8) (e_Names : List PV) (e_Types : List PV) (e_Args : List PV) (e_Arms : List PV) (e_At : Int) : V 39 [.pv (.agg [.str p_Name, .int .i64 p_Version, .lst p_Uses, .lst p_Datas, .lst p_Traits, .lst p_Impls, .lst p_Funcs, .lst p_Actors]), .pv (.lst within), .pv (.agg [.int .i64 e_Kind, .int .i64 e_Num, .str e_Text, .lst e_Names, .lst e_Types, .lst e_Args, .lst e_Arms, .int .i64 e_At])] =
  bif (e_Kind == (5 : Int)) then
    ((V 55 [.pv (.lst within), .pv (.str e_Text)]).bind retPV).bind fun r =>
      (bif (Sh.bool).fits r then
        L39_1116 within r.toBool p_Name p_Version p_Uses p_Datas p_Traits p_Impls p_Funcs p_Actors e_Kind e_Num e_Text e_Names e_Types e_Args e_Arms e_At
      else none)
  else bif (e_Kind == (9 : Int)) then
    ((V 78 [.pv (.agg [.str p_Name, .int .i64 p_Version, .lst p_Uses, .lst p_Datas, .lst p_Traits, .lst p_Impls, .lst p_Funcs, .lst p_Actors])]).bind retPV).bind fun r1 =>
      (bif (Sh.lst).fits r1 then
        ((V 55 [.pv (.lst r1.toLst), .pv (.str e_Text)]).bind retPV).bind fun r2 =>
          (bif (Sh.bool).fits r2 then
            L39_1116 within r2.toBool p_Name p_Version p_Uses p_Datas p_Traits p_Impls p_Funcs p_Actors e_Kind e_Num e_Text e_Names e_Types e_Args e_Arms e_At
          else none)
      else none)
  else bif (e_Kind == (12 : Int)) then
    ((V 79 [.pv (.agg [.str p_Name, .int .i64 p_Version, .lst p_Uses, .lst p_Datas, .lst p_Traits, .lst p_Impls, .lst p_Funcs, .lst p_Actors])]).bind retPV).bind fun r3 =>
      (bif (Sh.lst).fits r3 then
        ((V 55 [.pv (.lst r3.toLst), .pv (.str e_Text)]).bind retPV).bind fun r4 =>
          (bif (Sh.bool).fits r4 then
            L39_1116 within r4.toBool p_Name p_Version p_Uses p_Datas p_Traits p_Impls p_Funcs p_Actors e_Kind e_Num e_Text e_Names e_Types e_Args e_Arms e_At
          else none)
      else none)
  else bif (e_Kind == (14 : Int)) then
    ((V 80 [.pv (.agg [.str p_Name, .int .i64 p_Version, .lst p_Uses, .lst p_Datas, .lst p_Traits, .lst p_Impls, .lst p_Funcs, .lst p_Actors])]).bind retPV).bind fun r5 =>
      (bif (Sh.lst).fits r5 then
        ((V 55 [.pv (.lst r5.toLst), .pv (.str e_Text)]).bind retPV).bind fun r6 =>
          (bif (Sh.bool).fits r6 then
            L39_1116 within r6.toBool p_Name p_Version p_Uses p_Datas p_Traits p_Impls p_Funcs p_Actors e_Kind e_Num e_Text e_Names e_Types e_Args e_Arms e_At
          else none)
      else none)
  else bif (e_Kind == (10 : Int)) then
    ((V 81 [.pv (.lst e_Names)]).bind retPV).bind fun r7 =>
      (bif (Sh.bool).fits r7 then
        L39_1116 within (!r7.toBool) p_Name p_Version p_Uses p_Datas p_Traits p_Impls p_Funcs p_Actors e_Kind e_Num e_Text e_Names e_Types e_Args e_Arms e_At
      else none)
  else L39_1116 within true p_Name p_Version p_Uses p_Datas p_Traits p_Impls p_Funcs p_Actors e_Kind e_Num e_Text e_Names e_Types e_Args e_Arms e_At :=
  (V_eq pa rfl _).trans (by kernel_rfl)
theorem e39_1116 (within : List PV) (v : Bool) (p_Name : List UInt8) (p_Version : Int) (p_Uses : List PV) (p_Datas : List PV) (p_Traits : List PV) (p_Impls : List PV) (p_Funcs : List PV) (p_Actors : List PV) (e_Kind : Int) (e_Num : Int) (e_Text : List UInt8) (e_Names : List PV) (e_Types : List PV) (e_Args : List PV) (e_Arms : List PV) (e_At : Int) : L39_1116 within v p_Name p_Version p_Uses p_Datas p_Traits p_Impls p_Funcs p_Actors e_Kind e_Num e_Text e_Names e_Types e_Args e_Arms e_At =
  L39_111014 within v e_Arms 0 p_Name p_Version p_Uses p_Datas p_Traits p_Impls p_Funcs p_Actors e_Kind e_Num e_Text e_Names e_Types e_Args e_At :=
  (LV_eq pa 39 _ _).trans (by kernel_rfl)
theorem e39_111014 (within : List PV) (v : Bool) (e_Arms : List PV) (i : Int) (p_Name : List UInt8) (p_Version : Int) (p_Uses : List PV) (p_Datas : List PV) (p_Traits : List PV) (p_Impls : List PV) (p_Funcs : List PV) (p_Actors : List PV) (e_Kind : Int) (e_Num : Int) (e_Text : List UInt8) (e_Names : List PV) (e_Types : List PV) (e_Args : List PV) (e_At : Int) : L39_111014 within v e_Arms i p_Name p_Version p_Uses p_Datas p_Traits p_Impls p_Funcs p_Actors e_Kind e_Num e_Text e_Names e_Types e_Args e_At =
  bif decide (i < (e_Arms.length : Int)) then
    bif decide (0 ≤ i) then
      (e_Arms[i.toNat]?).bind fun x =>
        (bif (Sh.agg [Sh.int .i64, Sh.int .i64, Sh.str, Sh.lst, Sh.int .i64, Sh.int .i64, Sh.str, Sh.lst, Sh.lst, Sh.lst, Sh.lst, Sh.int .i64]).fits x then
          bif v then
            ((V 82 [.pv (.agg [.int .i64 ((x.c 0).toInt), .int .i64 ((x.c 1).toInt), .str ((x.c 2).toStr), .lst ((x.c 3).toLst)])]).bind retPV).bind fun r =>
              (bif (Sh.lst).fits r then
                ((V 81 [.pv (.lst r.toLst)]).bind retPV).bind fun r1 =>
                  (bif (Sh.bool).fits r1 then
                    bif (!r1.toBool) then
                      ((V 83 [.pv (.agg [.str p_Name, .int .i64 p_Version, .lst p_Uses, .lst p_Datas, .lst p_Traits, .lst p_Impls, .lst p_Funcs, .lst p_Actors]), .pv (.agg [.int .i64 ((x.c 0).toInt), .int .i64 ((x.c 1).toInt), .str ((x.c 2).toStr), .lst ((x.c 3).toLst)])]).bind retPV).bind fun r2 =>
                        (bif (Sh.bool).fits r2 then
                          L39_111014 within r2.toBool e_Arms (IntKind.i64.wrap (i + (1 : Int))) p_Name p_Version p_Uses p_Datas p_Traits p_Impls p_Funcs p_Actors e_Kind e_Num e_Text e_Names e_Types e_Args e_At
                        else none)
                    else L39_111014 within false e_Arms (IntKind.i64.wrap (i + (1 : Int))) p_Name p_Version p_Uses p_Datas p_Traits p_Impls p_Funcs p_Actors e_Kind e_Num e_Text e_Names e_Types e_Args e_At
                  else none)
              else none)
          else L39_111014 within false e_Arms (IntKind.i64.wrap (i + (1 : Int))) p_Name p_Version p_Uses p_Datas p_Traits p_Impls p_Funcs p_Actors e_Kind e_Num e_Text e_Names e_Types e_Args e_At
        else none)
    else none
  else bif (!v) then
    some (.pv (.tup [.int .i64 11, .int .i64 e_At]), [])
  else L39_11111014 within e_Args 0 p_Name p_Version p_Uses p_Datas p_Traits p_Impls p_Funcs p_Actors e_Kind e_Num e_Text e_Names e_Types e_Arms e_At :=
  (LV_eq pa 39 _ _).trans (by kernel_rfl)
theorem e39_11111014 (within : List PV) (e_Args : List PV) (i : Int) (p_Name : List UInt8) (p_Version : Int) (p_Uses : List PV) (p_Datas : List PV) (p_Traits : List PV) (p_Impls : List PV) (p_Funcs : List PV) (p_Actors : List PV) (e_Kind : Int) (e_Num : Int) (e_Text : List UInt8) (e_Names : List PV) (e_Types : List PV) (e_Arms : List PV) (e_At : Int) : L39_11111014 within e_Args i p_Name p_Version p_Uses p_Datas p_Traits p_Impls p_Funcs p_Actors e_Kind e_Num e_Text e_Names e_Types e_Arms e_At =
  bif decide (i < (e_Args.length : Int)) then
    bif decide (0 ≤ i) then
      (e_Args[i.toNat]?).bind fun x =>
        (bif (Sh.agg [Sh.int .i64, Sh.int .i64, Sh.str, Sh.lst, Sh.lst, Sh.lst, Sh.lst, Sh.int .i64]).fits x then
          bif (e_Kind == (6 : Int)) then
            L39_111110145110411016 within e_Args i (i == (1 : Int)) p_Name p_Version p_Uses p_Datas p_Traits p_Impls p_Funcs p_Actors e_Kind e_Num e_Text e_Names e_Types e_Arms e_At ((x.c 0).toInt) ((x.c 1).toInt) ((x.c 2).toStr) ((x.c 3).toLst) ((x.c 4).toLst) ((x.c 5).toLst) ((x.c 6).toLst) ((x.c 7).toInt)
          else L39_111110145110411016 within e_Args i false p_Name p_Version p_Uses p_Datas p_Traits p_Impls p_Funcs p_Actors e_Kind e_Num e_Text e_Names e_Types e_Arms e_At ((x.c 0).toInt) ((x.c 1).toInt) ((x.c 2).toStr) ((x.c 3).toLst) ((x.c 4).toLst) ((x.c 5).toLst) ((x.c 6).toLst) ((x.c 7).toInt)
        else none)
    else none
  else L39_111111014 within e_Arms 0 p_Name p_Version p_Uses p_Datas p_Traits p_Impls p_Funcs p_Actors :=
  (LV_eq pa 39 _ _).trans (by kernel_rfl)
theorem e39_111110145110411016 (within : List PV) (e_Args : List PV) (i1 : Int) (b : Bool) (p_Name : List UInt8) (p_Version : Int) (p_Uses : List PV) (p_Datas : List PV) (p_Traits : List PV) (p_Impls : List PV) (p_Funcs : List PV) (p_Actors : List PV) (e_Kind : Int) (e_Num : Int) (e_Text : List UInt8) (e_Names : List PV) (e_Types : List PV) (e_Arms : List PV) (e_At : Int) (v : Int) (v1 : Int) (v2 : List UInt8) (v3 : List PV) (v4 : List PV) (v5 : List PV) (v6 : List PV) (v7 : Int) : L39_111110145110411016 within e_Args i1 b p_Name p_Version p_Uses p_Datas p_Traits p_Impls p_Funcs p_Actors e_Kind e_Num e_Text e_Names e_Types e_Arms e_At v v1 v2 v3 v4 v5 v6 v7 =
  bif b then
    (V 40 [.pv (.lst within)]).bind fun r =>
      ((retB 1 r).bind fun l =>
        (bif small (l.length) 1 16 then
          L39_11111014511041116 within (l ++ [.str e_Text]) e_Args i1 p_Name p_Version p_Uses p_Datas p_Traits p_Impls p_Funcs p_Actors e_Kind e_Num e_Text e_Names e_Types e_Arms e_At v v1 v2 v3 v4 v5 v6 v7
        else none))
  else L39_11111014511041116 within within e_Args i1 p_Name p_Version p_Uses p_Datas p_Traits p_Impls p_Funcs p_Actors e_Kind e_Num e_Text e_Names e_Types e_Arms e_At v v1 v2 v3 v4 v5 v6 v7 :=
  (LV_eq pa 39 _ _).trans (by kernel_rfl)
theorem e39_111111014 (within : List PV) (e_Arms : List PV) (i : Int) (p_Name : List UInt8) (p_Version : Int) (p_Uses : List PV) (p_Datas : List PV) (p_Traits : List PV) (p_Impls : List PV) (p_Funcs : List PV) (p_Actors : List PV) : L39_111111014 within e_Arms i p_Name p_Version p_Uses p_Datas p_Traits p_Impls p_Funcs p_Actors =
  bif decide (i < (e_Arms.length : Int)) then
    bif decide (0 ≤ i) then
      (e_Arms[i.toNat]?).bind fun x =>
        (bif (Sh.agg [Sh.int .i64, Sh.int .i64, Sh.str, Sh.lst, Sh.int .i64, Sh.int .i64, Sh.str, Sh.lst, Sh.lst, Sh.lst, Sh.lst, Sh.int .i64]).fits x then
          (V 40 [.pv (.lst within)]).bind fun r =>
            ((retB 1 r).bind fun l =>
              (((V 82 [.pv (.agg [.int .i64 ((x.c 0).toInt), .int .i64 ((x.c 1).toInt), .str ((x.c 2).toStr), .lst ((x.c 3).toLst)])]).bind retPV).bind fun r1 =>
                (bif (Sh.lst).fits r1 then
                  bif headOk 1 r1.toLst then
                    bif small (l.length) (r1.toLst.length) 16 then
                      ((V 39 [.pv (.agg [.str p_Name, .int .i64 p_Version, .lst p_Uses, .lst p_Datas, .lst p_Traits, .lst p_Impls, .lst p_Funcs, .lst p_Actors]), .pv (.lst (l ++ r1.toLst)), .pv (.agg [.int .i64 ((x.c 4).toInt), .int .i64 ((x.c 5).toInt), .str ((x.c 6).toStr), .lst ((x.c 7).toLst), .lst ((x.c 8).toLst), .lst ((x.c 9).toLst), .lst ((x.c 10).toLst), .int .i64 ((x.c 11).toInt)])]).bind retPV).bind fun r2 =>
                        (bif (Sh.tup [Sh.int .i64, Sh.int .i64]).fits r2 then
                          bif (((r2.r 0).toInt) != (0 : Int)) then
                            some (.pv (.tup [.int .i64 ((r2.r 0).toInt), .int .i64 ((r2.r 1).toInt)]), [])
                          else L39_111111014 within e_Arms (IntKind.i64.wrap (i + (1 : Int))) p_Name p_Version p_Uses p_Datas p_Traits p_Impls p_Funcs p_Actors
                        else none)
                    else none
                  else none
                else none)))
        else none)
    else none
  else some (.pv (.tup [.int .i64 0, .int .i64 0]), []) :=
  (LV_eq pa 39 _ _).trans (by kernel_rfl)
theorem e39_11111014511041116 (within : List PV) (l1 : List PV) (e_Args : List PV) (i : Int) (p_Name : List UInt8) (p_Version : Int) (p_Uses : List PV) (p_Datas : List PV) (p_Traits : List PV) (p_Impls : List PV) (p_Funcs : List PV) (p_Actors : List PV) (e_Kind : Int) (e_Num : Int) (e_Text : List UInt8) (e_Names : List PV) (e_Types : List PV) (e_Arms : List PV) (e_At : Int) (v : Int) (v1 : Int) (v2 : List UInt8) (v3 : List PV) (v4 : List PV) (v5 : List PV) (v6 : List PV) (v7 : Int) : L39_11111014511041116 within l1 e_Args i p_Name p_Version p_Uses p_Datas p_Traits p_Impls p_Funcs p_Actors e_Kind e_Num e_Text e_Names e_Types e_Arms e_At v v1 v2 v3 v4 v5 v6 v7 =
  bif (e_Kind == (10 : Int)) then
    (V 40 [.pv (.lst within)]).bind fun r =>
      ((retB 1 r).bind fun l =>
        (bif headOk 1 e_Names then
          bif small (l.length) (e_Names.length) 16 then
            L39_111110145110411116 within (l ++ e_Names) e_Args i p_Name p_Version p_Uses p_Datas p_Traits p_Impls p_Funcs p_Actors e_Kind e_Num e_Text e_Names e_Types e_Arms e_At v v1 v2 v3 v4 v5 v6 v7
          else none
        else none))
  else L39_111110145110411116 within l1 e_Args i p_Name p_Version p_Uses p_Datas p_Traits p_Impls p_Funcs p_Actors e_Kind e_Num e_Text e_Names e_Types e_Arms e_At v v1 v2 v3 v4 v5 v6 v7 :=
  (LV_eq pa 39 _ _).trans (by kernel_rfl)
theorem e39_111110145110411116 (within : List PV) (l1 : List PV) (e_Args : List PV) (i1 : Int) (p_Name : List UInt8) (p_Version : Int) (p_Uses : List PV) (p_Datas : List PV) (p_Traits : List PV) (p_Impls : List PV) (p_Funcs : List PV) (p_Actors : List PV) (e_Kind : Int) (e_Num : Int) (e_Text : List UInt8) (e_Names : List PV) (e_Types : List PV) (e_Arms : List PV) (e_At : Int) (v : Int) (v1 : Int) (v2 : List UInt8) (v3 : List PV) (v4 : List PV) (v5 : List PV) (v6 : List PV) (v7 : Int) : L39_111110145110411116 within l1 e_Args i1 p_Name p_Version p_Uses p_Datas p_Traits p_Impls p_Funcs p_Actors e_Kind e_Num e_Text e_Names e_Types e_Arms e_At v v1 v2 v3 v4 v5 v6 v7 =
  ((V 39 [.pv (.agg [.str p_Name, .int .i64 p_Version, .lst p_Uses, .lst p_Datas, .lst p_Traits, .lst p_Impls, .lst p_Funcs, .lst p_Actors]), .pv (.lst l1), .pv (.agg [.int .i64 v, .int .i64 v1, .str v2, .lst v3, .lst v4, .lst v5, .lst v6, .int .i64 v7])]).bind retPV).bind fun r =>
    (bif (Sh.tup [Sh.int .i64, Sh.int .i64]).fits r then
      bif (((r.r 0).toInt) != (0 : Int)) then
        some (.pv (.tup [.int .i64 ((r.r 0).toInt), .int .i64 ((r.r 1).toInt)]), [])
      else L39_11111014 within e_Args (IntKind.i64.wrap (i1 + (1 : Int))) p_Name p_Version p_Uses p_Datas p_Traits p_Impls p_Funcs p_Actors e_Kind e_Num e_Text e_Names e_Types e_Arms e_At
    else none) :=
  (LV_eq pa 39 _ _).trans (by kernel_rfl)
/-! 52 roadstead/roadref2.FunsOf -/
def st52_11014 (l : List PV) (p_Impls : List PV) (i : Int) (p_Name : List UInt8) (p_Version : Int) (p_Uses : List PV) (p_Datas : List PV) (p_Traits : List PV) (p_Funcs : List PV) (p_Actors : List PV) : AS :=
  ⟨[.any, .box 0 0, .any, .bld 0 0 l, .any, .any, .any, .pv (.lst p_Impls), .pv (.int .i64 (p_Impls.length : Int)), .pv (.int .i64 i), .any, .any, .any, .any, .any, .any, .any, .any, .any, .any, .any, .any], ⟨[(false, [.pv (.str p_Name), .pv (.int .i64 p_Version), .pv (.lst p_Uses), .pv (.lst p_Datas), .pv (.lst p_Traits), .pv (.lst p_Impls), .pv (.lst p_Funcs), .pv (.lst p_Actors)])], [], [(0, 15)]⟩⟩
noncomputable def L52_11014 (l : List PV) (p_Impls : List PV) (i : Int) (p_Name : List UInt8) (p_Version : Int) (p_Uses : List PV) (p_Datas : List PV) (p_Traits : List PV) (p_Funcs : List PV) (p_Actors : List PV) : Option Out := LV Pr T 52 [1, 1, 0, 1, 4] (st52_11014 l p_Impls i p_Name p_Version p_Uses p_Datas p_Traits p_Funcs p_Actors)
theorem e52 (p_Name : List UInt8) (p_Version : Int) (p_Uses : List PV) (p_Datas : List PV) (p_Traits : List PV) (p_Impls : List PV) (p_Funcs : List PV) (p_Actors : List PV) : V 52 [.pv (.agg [.str p_Name, .int .i64 p_Version, .lst p_Uses, .lst p_Datas, .lst p_Traits, .lst p_Impls, .lst p_Funcs, .lst p_Actors])] =
  L52_11014 [] p_Impls 0 p_Name p_Version p_Uses p_Datas p_Traits p_Funcs p_Actors :=
  (V_eq pa rfl _).trans (by kernel_rfl)
theorem e52_11014 (l : List PV) (p_Impls : List PV) (i : Int) (p_Name : List UInt8) (p_Version : Int) (p_Uses : List PV) (p_Datas : List PV) (p_Traits : List PV) (p_Funcs : List PV) (p_Actors : List PV) : L52_11014 l p_Impls i p_Name p_Version p_Uses p_Datas p_Traits p_Funcs p_Actors =
  bif decide (i < (p_Impls.length : Int)) then
    bif decide (0 ≤ i) then
      (p_Impls[i.toNat]?).bind fun x =>
        (bif (Sh.agg [Sh.str, Sh.str, Sh.lst]).fits x then
          bif headOk 15 (x.c 2).toLst then
            bif small (l.length) ((x.c 2).toLst.length) 272 then
              L52_11014 (l ++ (x.c 2).toLst) p_Impls (IntKind.i64.wrap (i + (1 : Int))) p_Name p_Version p_Uses p_Datas p_Traits p_Funcs p_Actors
            else none
          else none
        else none)
    else none
  else bif headOk 15 p_Funcs then
    bif small (l.length) (p_Funcs.length) 272 then
      some (.bld 15 (l ++ p_Funcs), [])
    else none
  else none :=
  (LV_eq pa 52 _ _).trans (by kernel_rfl)
/-! 78 roadstead/scope.Callable -/
def st78_11014 (l : List PV) (p_Traits : List PV) (i : Int) (p_Name : List UInt8) (p_Version : Int) (p_Uses : List PV) (p_Datas : List PV) (p_Impls : List PV) (p_Funcs : List PV) (p_Actors : List PV) : AS :=
  ⟨[.any, .box 0 0, .any, .bld 0 0 l, .any, .any, .any, .pv (.lst p_Traits), .pv (.int .i64 (p_Traits.length : Int)), .pv (.int .i64 i), .any, .any, .any, .any, .any, .any, .any, .any, .any, .any, .any, .any, .any, .any], ⟨[(false, [.pv (.str p_Name), .pv (.int .i64 p_Version), .pv (.lst p_Uses), .pv (.lst p_Datas), .pv (.lst p_Traits), .pv (.lst p_Impls), .pv (.lst p_Funcs), .pv (.lst p_Actors)])], [], [(0, 1)]⟩⟩
noncomputable def L78_11014 (l : List PV) (p_Traits : List PV) (i : Int) (p_Name : List UInt8) (p_Version : Int) (p_Uses : List PV) (p_Datas : List PV) (p_Impls : List PV) (p_Funcs : List PV) (p_Actors : List PV) : Option Out := LV Pr T 78 [1, 1, 0, 1, 4] (st78_11014 l p_Traits i p_Name p_Version p_Uses p_Datas p_Impls p_Funcs p_Actors)
theorem e78 (p_Name : List UInt8) (p_Version : Int) (p_Uses : List PV) (p_Datas : List PV) (p_Traits : List PV) (p_Impls : List PV) (p_Funcs : List PV) (p_Actors : List PV) : V 78 [.pv (.agg [.str p_Name, .int .i64 p_Version, .lst p_Uses, .lst p_Datas, .lst p_Traits, .lst p_Impls, .lst p_Funcs, .lst p_Actors])] =
  L78_11014 [] p_Traits 0 p_Name p_Version p_Uses p_Datas p_Impls p_Funcs p_Actors :=
  (V_eq pa rfl _).trans (by kernel_rfl)
theorem e78_11014 (l : List PV) (p_Traits : List PV) (i : Int) (p_Name : List UInt8) (p_Version : Int) (p_Uses : List PV) (p_Datas : List PV) (p_Impls : List PV) (p_Funcs : List PV) (p_Actors : List PV) : L78_11014 l p_Traits i p_Name p_Version p_Uses p_Datas p_Impls p_Funcs p_Actors =
  bif decide (i < (p_Traits.length : Int)) then
    bif decide (0 ≤ i) then
      (p_Traits[i.toNat]?).bind fun x =>
        (bif (Sh.agg [Sh.str, Sh.lst]).fits x then
          ((V 97 [.pv (.lst ((x.c 1).toLst))]).bind retPV).bind fun r =>
            (bif (Sh.lst).fits r then
              bif headOk 1 r.toLst then
                bif small (l.length) (r.toLst.length) 16 then
                  L78_11014 (l ++ r.toLst) p_Traits (IntKind.i64.wrap (i + (1 : Int))) p_Name p_Version p_Uses p_Datas p_Impls p_Funcs p_Actors
                else none
              else none
            else none)
        else none)
    else none
  else ((V 97 [.pv (.lst p_Funcs)]).bind retPV).bind fun r1 =>
    (bif (Sh.lst).fits r1 then
      bif headOk 1 r1.toLst then
        bif small (l.length) (r1.toLst.length) 16 then
          some (.bld 1 (l ++ r1.toLst), [])
        else none
      else none
    else none) :=
  (LV_eq pa 78 _ _).trans (by kernel_rfl)
/-! 79 roadstead/scope.Makers -/
def st79_11014 (l1 : List PV) (p_Datas : List PV) (i : Int) : AS :=
  ⟨[.any, .any, .any, .bld 0 0 l1, .any, .any, .any, .any, .any, .pv (.lst p_Datas), .pv (.int .i64 (p_Datas.length : Int)), .pv (.int .i64 i), .any, .any, .any, .any, .any, .any, .any, .any, .any, .any, .any, .any, .any, .any, .any, .any, .any, .any], ⟨[], [], [(0, 1)]⟩⟩
noncomputable def L79_11014 (l1 : List PV) (p_Datas : List PV) (i : Int) : Option Out := LV Pr T 79 [1, 1, 0, 1, 4] (st79_11014 l1 p_Datas i)
def st79_1101451104114 (l : List PV) (p_Datas : List PV) (i1 : Int) (v : List PV) (i : Int) : AS :=
  ⟨[.any, .any, .any, .bld 0 0 l, .any, .any, .any, .any, .any, .pv (.lst p_Datas), .pv (.int .i64 (p_Datas.length : Int)), .pv (.int .i64 i1), .any, .any, .any, .any, .pv (.lst v), .pv (.int .i64 (v.length : Int)), .pv (.int .i64 i), .any, .any, .any, .any, .any, .any, .any, .any, .any, .any, .any], ⟨[], [], [(0, 1)]⟩⟩
noncomputable def L79_1101451104114 (l : List PV) (p_Datas : List PV) (i1 : Int) (v : List PV) (i : Int) : Option Out := LV Pr T 79 [1, 1, 0, 1, 4, 5, 1, 1, 0, 4, 1, 1, 4] (st79_1101451104114 l p_Datas i1 v i)
theorem e79 (p_Name : List UInt8) (p_Version : Int) (p_Uses : List PV) (p_Datas : List PV) (p_Traits : List PV) (p_Impls : List PV) (p_Funcs : List PV) (p_Actors : List PV) : V 79 [.pv (.agg [.str p_Name, .int .i64 p_Version, .lst p_Uses, .lst p_Datas, .lst p_Traits, .lst p_Impls, .lst p_Funcs, .lst p_Actors])] =
  L79_11014 [] p_Datas 0 :=
  (V_eq pa rfl _).trans (by kernel_rfl)
theorem e79_11014 (l1 : List PV) (p_Datas : List PV) (i : Int) : L79_11014 l1 p_Datas i =
  bif decide (i < (p_Datas.length : Int)) then
    bif decide (0 ≤ i) then
      (p_Datas[i.toNat]?).bind fun x =>
        (bif (Sh.agg [Sh.str, Sh.lst, Sh.lst]).fits x then
          L79_1101451104114 l1 p_Datas i ((x.c 2).toLst) 0
        else none)
    else none
  else some (.bld 1 l1, []) :=
  (LV_eq pa 79 _ _).trans (by kernel_rfl)
theorem e79_1101451104114 (l : List PV) (p_Datas : List PV) (i1 : Int) (v : List PV) (i : Int) : L79_1101451104114 l p_Datas i1 v i =
  bif decide (i < (v.length : Int)) then
    bif decide (0 ≤ i) then
      (v[i.toNat]?).bind fun x =>
        (bif (Sh.agg [Sh.str, Sh.lst]).fits x then
          bif small (l.length) 1 16 then
            L79_1101451104114 (l ++ [.str ((x.c 0).toStr)]) p_Datas i1 v (IntKind.i64.wrap (i + (1 : Int)))
          else none
        else none)
    else none
  else L79_11014 l p_Datas (IntKind.i64.wrap (i1 + (1 : Int))) :=
  (LV_eq pa 79 _ _).trans (by kernel_rfl)
/-! 80 roadstead/scope.Actors -/
def st80_11014 (l : List PV) (p_Actors : List PV) (i : Int) : AS :=
  ⟨[.any, .any, .any, .bld 0 0 l, .any, .any, .any, .pv (.lst p_Actors), .pv (.int .i64 (p_Actors.length : Int)), .pv (.int .i64 i), .any, .any, .any, .any, .any, .any, .any, .any, .any, .any], ⟨[], [], [(0, 1)]⟩⟩
noncomputable def L80_11014 (l : List PV) (p_Actors : List PV) (i : Int) : Option Out := LV Pr T 80 [1, 1, 0, 1, 4] (st80_11014 l p_Actors i)
theorem e80 (p_Name : List UInt8) (p_Version : Int) (p_Uses : List PV) (p_Datas : List PV) (p_Traits : List PV) (p_Impls : List PV) (p_Funcs : List PV) (p_Actors : List PV) : V 80 [.pv (.agg [.str p_Name, .int .i64 p_Version, .lst p_Uses, .lst p_Datas, .lst p_Traits, .lst p_Impls, .lst p_Funcs, .lst p_Actors])] =
  L80_11014 [] p_Actors 0 :=
  (V_eq pa rfl _).trans (by kernel_rfl)
theorem e80_11014 (l : List PV) (p_Actors : List PV) (i : Int) : L80_11014 l p_Actors i =
  bif decide (i < (p_Actors.length : Int)) then
    bif decide (0 ≤ i) then
      (p_Actors[i.toNat]?).bind fun x =>
        (bif (Sh.agg [Sh.str, Sh.lst, Sh.lst, Sh.int .i64, Sh.str, Sh.lst, Sh.int .i64, Sh.int .i64, Sh.str, Sh.lst, Sh.lst, Sh.lst, Sh.lst, Sh.int .i64]).fits x then
          bif small (l.length) 1 16 then
            L80_11014 (l ++ [.str ((x.c 0).toStr)]) p_Actors (IntKind.i64.wrap (i + (1 : Int)))
          else none
        else none)
    else none
  else some (.bld 1 l, []) :=
  (LV_eq pa 80 _ _).trans (by kernel_rfl)
/-! 81 roadstead/scope.Twice -/
def st81_1014 (l : List PV) (i : Int) : AS :=
  ⟨[.pv (.lst l), .any, .any, .any, .any, .pv (.lst l), .pv (.int .i64 (l.length : Int)), .pv (.int .i64 i), .any, .any, .any, .any, .any, .any, .any, .any, .any, .any], ⟨[], [], []⟩⟩
noncomputable def L81_1014 (l : List PV) (i : Int) : Option Out := LV Pr T 81 [1, 0, 1, 4] (st81_1014 l i)
theorem e81 (l : List PV) : V 81 [.pv (.lst l)] =
  L81_1014 l 0 :=
  (V_eq pa rfl _).trans (by kernel_rfl)
theorem e81_1014 (l : List PV) (i : Int) : L81_1014 l i =
  bif decide (i < (l.length : Int)) then
    bif decide (0 ≤ i) then
      (l[i.toNat]?).bind fun x =>
        (bif (Sh.str).fits x then
          bif headOk 1 l then
            bif (decide (0 ≤ i) && decide (i ≤ (l.length : Int))) then
              ((V 55 [.pv (.lst (l.take i.toNat)), .pv (.str x.toStr)]).bind retPV).bind fun r =>
                (bif (Sh.bool).fits r then
                  bif r.toBool then
                    some (.pv (.bool true), [])
                  else L81_1014 l (IntKind.i64.wrap (i + (1 : Int)))
                else none)
            else none
          else none
        else none)
    else none
  else some (.pv (.bool false), []) :=
  (LV_eq pa 81 _ _).trans (by kernel_rfl)
/-! 82 roadstead/tree.Bound -/
def st82_101413121014 (l : List PV) (p_Args : List PV) (i : Int) : AS :=
  ⟨[.any, .any, .any, .bld 0 0 l, .any, .any, .any, .any, .any, .any, .any, .any, .any, .any, .any, .any, .pv (.lst p_Args), .pv (.int .i64 (p_Args.length : Int)), .pv (.int .i64 i), .any, .any, .any, .any, .any, .any, .any, .any, .any], ⟨[], [], [(0, 1)]⟩⟩
noncomputable def L82_101413121014 (l : List PV) (p_Args : List PV) (i : Int) : Option Out := LV Pr T 82 [1, 0, 1, 4, 1, 3, 1, 2, 1, 0, 1, 4] (st82_101413121014 l p_Args i)
theorem e82 (p_Kind : Int) (p_Num : Int) (p_Text : List UInt8) (p_Args : List PV) : V 82 [.pv (.agg [.int .i64 p_Kind, .int .i64 p_Num, .str p_Text, .lst p_Args])] =
  bif (p_Kind == (2 : Int)) then
    some (.pv (.lst [.str p_Text]), [])
  else bif (p_Kind == (6 : Int)) then
    L82_101413121014 [] p_Args 0
  else some (.bld 1 [], []) :=
  (V_eq pa rfl _).trans (by kernel_rfl)
theorem e82_101413121014 (l : List PV) (p_Args : List PV) (i : Int) : L82_101413121014 l p_Args i =
  bif decide (i < (p_Args.length : Int)) then
    bif decide (0 ≤ i) then
      (p_Args[i.toNat]?).bind fun x =>
        (bif (Sh.agg [Sh.int .i64, Sh.int .i64, Sh.str, Sh.lst]).fits x then
          ((V 82 [.pv (.agg [.int .i64 ((x.c 0).toInt), .int .i64 ((x.c 1).toInt), .str ((x.c 2).toStr), .lst ((x.c 3).toLst)])]).bind retPV).bind fun r =>
            (bif (Sh.lst).fits r then
              bif headOk 1 r.toLst then
                bif small (l.length) (r.toLst.length) 16 then
                  L82_101413121014 (l ++ r.toLst) p_Args (IntKind.i64.wrap (i + (1 : Int)))
                else none
              else none
            else none)
        else none)
    else none
  else some (.bld 1 l, []) :=
  (LV_eq pa 82 _ _).trans (by kernel_rfl)
/-! 83 roadstead/scope.made -/
def st83_116 (p_Name : List UInt8) (p_Version : Int) (p_Uses : List PV) (p_Datas : List PV) (p_Traits : List PV) (p_Impls : List PV) (p_Funcs : List PV) (p_Actors : List PV) (q_Kind : Int) (q_Num : Int) (q_Text : List UInt8) (q_Args : List PV) : AS :=
  ⟨[.any, .any, .box 0 0, .box 1 0, .any, .any, .any, .any, .any, .any, .any, .any, .any, .any, .any, .any, .any, .any, .any, .any, .any], ⟨[(false, [.pv (.str p_Name), .pv (.int .i64 p_Version), .pv (.lst p_Uses), .pv (.lst p_Datas), .pv (.lst p_Traits), .pv (.lst p_Impls), .pv (.lst p_Funcs), .pv (.lst p_Actors)]), (false, [.pv (.int .i64 q_Kind), .pv (.int .i64 q_Num), .pv (.str q_Text), .pv (.lst q_Args)])], [], []⟩⟩
noncomputable def L83_116 (p_Name : List UInt8) (p_Version : Int) (p_Uses : List PV) (p_Datas : List PV) (p_Traits : List PV) (p_Impls : List PV) (p_Funcs : List PV) (p_Actors : List PV) (q_Kind : Int) (q_Num : Int) (q_Text : List UInt8) (q_Args : List PV) : Option Out := LV Pr T 83 [1, 1, 6] (st83_116 p_Name p_Version p_Uses p_Datas p_Traits p_Impls p_Funcs p_Actors q_Kind q_Num q_Text q_Args)
theorem e83 (p_Name : List UInt8) (p_Version : Int) (p_Uses : List PV) (p_Datas : List PV) (p_Traits : List PV) (p_Impls : List PV) (p_Funcs : List PV) (p_Actors : List PV) (q_Kind : Int) (q_Num : Int) (q_Text : List UInt8) (q_Args : List PV) : V 83 [.pv (.agg [.str p_Name, .int .i64 p_Version, .lst p_Uses, .lst p_Datas, .lst p_Traits, .lst p_Impls, .lst p_Funcs, .lst p_Actors]), .pv (.agg [.int .i64 q_Kind, .int .i64 q_Num, .str q_Text, .lst q_Args])] =
  bif (q_Kind == (6 : Int)) then
    ((V 79 [.pv (.agg [.str p_Name, .int .i64 p_Version, .lst p_Uses, .lst p_Datas, .lst p_Traits, .lst p_Impls, .lst p_Funcs, .lst p_Actors])]).bind retPV).bind fun r =>
      (bif (Sh.lst).fits r then
        ((V 55 [.pv (.lst r.toLst), .pv (.str q_Text)]).bind retPV).bind fun r1 =>
          (bif (Sh.bool).fits r1 then
            bif (!r1.toBool) then
              some (.pv (.bool false), [])
            else L83_116 p_Name p_Version p_Uses p_Datas p_Traits p_Impls p_Funcs p_Actors q_Kind q_Num q_Text q_Args
          else none)
      else none)
  else L83_116 p_Name p_Version p_Uses p_Datas p_Traits p_Impls p_Funcs p_Actors q_Kind q_Num q_Text q_Args :=
  (V_eq pa rfl _).trans (by kernel_rfl)
theorem e83_116 (p_Name : List UInt8) (p_Version : Int) (p_Uses : List PV) (p_Datas : List PV) (p_Traits : List PV) (p_Impls : List PV) (p_Funcs : List PV) (p_Actors : List PV) (q_Kind : Int) (q_Num : Int) (q_Text : List UInt8) (q_Args : List PV) : L83_116 p_Name p_Version p_Uses p_Datas p_Traits p_Impls p_Funcs p_Actors q_Kind q_Num q_Text q_Args =
  ((V 98 [.pv (.lst q_Args), .pv (.fn 99 [.ptr [.str p_Name, .int .i64 p_Version, .lst p_Uses, .lst p_Datas, .lst p_Traits, .lst p_Impls, .lst p_Funcs, .lst p_Actors]])]).bind retPV).bind fun r =>
    (bif (Sh.bool).fits r then
      some (.pv (.bool (!r.toBool)), [])
    else none) :=
  (LV_eq pa 83 _ _).trans (by kernel_rfl)
/-! 97 roadstead/scope.names -/
def st97_11014 (l1 : List PV) (l : List PV) (i : Int) : AS :=
  ⟨[.any, .any, .any, .bld 0 0 l1, .any, .any, .pv (.lst l), .pv (.int .i64 (l.length : Int)), .pv (.int .i64 i), .any, .any, .any, .any, .any, .any, .any, .any, .any, .any], ⟨[], [], [(0, 1)]⟩⟩
noncomputable def L97_11014 (l1 : List PV) (l : List PV) (i : Int) : Option Out := LV Pr T 97 [1, 1, 0, 1, 4] (st97_11014 l1 l i)
theorem e97 (l : List PV) : V 97 [.pv (.lst l)] =
  L97_11014 [] l 0 :=
  (V_eq pa rfl _).trans (by kernel_rfl)
theorem e97_11014 (l1 : List PV) (l : List PV) (i : Int) : L97_11014 l1 l i =
  bif decide (i < (l.length : Int)) then
    bif decide (0 ≤ i) then
      (l[i.toNat]?).bind fun x =>
        (bif (Sh.agg [Sh.str, Sh.lst, Sh.lst, Sh.lst, Sh.int .i64, Sh.str, Sh.lst, Sh.int .i64, Sh.int .i64, Sh.str, Sh.lst, Sh.lst, Sh.lst, Sh.lst, Sh.int .i64]).fits x then
          bif small (l1.length) 1 16 then
            L97_11014 (l1 ++ [.str ((x.c 0).toStr)]) l (IntKind.i64.wrap (i + (1 : Int)))
          else none
        else none)
    else none
  else some (.bld 1 l1, []) :=
  (LV_eq pa 97 _ _).trans (by kernel_rfl)
/-! 98 slices.ContainsFunc[[]roadstead/api.Pat,roadstead/api.Pat] -/
theorem e98 (s : List PV) (f_f : FuncId) (f_c : List PV) : V 98 [.pv (.lst s), .pv (.fn f_f f_c)] =
  ((V 110 [.pv (.lst s), .pv (.fn f_f f_c)]).bind retPV).bind fun r =>
    (bif (Sh.int .i64).fits r then
      some (.pv (.bool (decide ((r.toInt) ≥ (0 : Int)))), [])
    else none) :=
  (V_eq pa rfl _).trans (by kernel_rfl)
/-! 99 roadstead/scope.made$1 -/
theorem e99 (x_Kind : Int) (x_Num : Int) (x_Text : List UInt8) (x_Args : List PV) (c0 : List UInt8) (c01 : Int) (c02 : List PV) (c03 : List PV) (c04 : List PV) (c05 : List PV) (c06 : List PV) (c07 : List PV) : V 99 [.pv (.agg [.int .i64 x_Kind, .int .i64 x_Num, .str x_Text, .lst x_Args]), .pv (.ptr [.str c0, .int .i64 c01, .lst c02, .lst c03, .lst c04, .lst c05, .lst c06, .lst c07])] =
  ((V 83 [.pv (.agg [.str c0, .int .i64 c01, .lst c02, .lst c03, .lst c04, .lst c05, .lst c06, .lst c07]), .pv (.agg [.int .i64 x_Kind, .int .i64 x_Num, .str x_Text, .lst x_Args])]).bind retPV).bind fun r =>
    (bif (Sh.bool).fits r then
      some (.pv (.bool (!r.toBool)), [])
    else none) :=
  (V_eq pa rfl _).trans (by kernel_rfl)
/-! 110 slices.IndexFunc[[]roadstead/api.Pat,roadstead/api.Pat] -/
def st110_1014 (s : List PV) (f_f : FuncId) (f_c : List PV) (i : Int) : AS :=
  ⟨[.pv (.lst s), .pv (.fn f_f f_c), .any, .any, .any, .any, .any, .pv (.int .i64 (s.length : Int)), .pv (.int .i64 i), .any, .any, .any, .any, .any, .any, .any, .any, .any, .any], ⟨[], [], []⟩⟩
noncomputable def L110_1014 (s : List PV) (f_f : FuncId) (f_c : List PV) (i : Int) : Option Out := LV Pr T 110 [1, 0, 1, 4] (st110_1014 s f_f f_c i)
theorem e110 (s : List PV) (f_f : FuncId) (f_c : List PV) : V 110 [.pv (.lst s), .pv (.fn f_f f_c)] =
  L110_1014 s f_f f_c 0 :=
  (V_eq pa rfl _).trans (by kernel_rfl)
theorem e110_1014 (s : List PV) (f_f : FuncId) (f_c : List PV) (i : Int) : L110_1014 s f_f f_c i =
  bif decide (i < (s.length : Int)) then
    bif decide (0 ≤ i) then
      (s[i.toNat]?).bind fun x =>
        (bif (Sh.agg [Sh.int .i64, Sh.int .i64, Sh.str, Sh.lst]).fits x then
          ((V f_f ((([.agg [.int .i64 ((x.c 0).toInt), .int .i64 ((x.c 1).toInt), .str ((x.c 2).toStr), .lst ((x.c 3).toLst)]] : List PV) ++ f_c).map .pv)).bind retPV).bind fun r =>
            (bif (Sh.bool).fits r then
              bif r.toBool then
                some (.pv (.int .i64 i), [])
              else L110_1014 s f_f f_c (IntKind.i64.wrap (i + (1 : Int)))
            else none)
        else none)
    else none
  else some (.pv (.int .i64 (-1)), []) :=
  (LV_eq pa 110 _ _).trans (by kernel_rfl)
end Go.AL.S1
