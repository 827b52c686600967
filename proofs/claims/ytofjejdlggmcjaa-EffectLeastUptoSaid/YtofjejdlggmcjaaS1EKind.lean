/- Equations of functions in the abstract machine: printed by gen.py. -/
import Derived.Test.YtofjejdlggmcjaaS1T
set_option linter.unusedVariables false
set_option maxRecDepth 100000
namespace Go.AL.S1
open Go Go.AL
/-! 6 roadstead/roadkeep2.KindPut -/
theorem e6 (p_Name : List UInt8) (p_Version : Int) (p_Uses : List PV) (p_Datas : List PV) (p_Traits : List PV) (p_Impls : List PV) (p_Funcs : List PV) (p_Actors : List PV) (params : List PV) (t_Kind : Int) (t_Name : List UInt8) (t_Args : List PV) (l : List PV) : V 6 [.pv (.agg [.str p_Name, .int .i64 p_Version, .lst p_Uses, .lst p_Datas, .lst p_Traits, .lst p_Impls, .lst p_Funcs, .lst p_Actors]), .pv (.lst params), .pv (.agg [.int .i64 t_Kind, .str t_Name, .lst t_Args]), .pv (.lst l)] =
  ((V 18 []).bind retPV).bind fun r =>
    (bif (Sh.bool).fits r then
      bif (!r.toBool) then
        some (.pv (.bool false), [])
      else bif headOk 3 l then
        bif (decide (0 ≤ (bif decide ((params.length : Int) < (l.length : Int)) then (params.length : Int) else (l.length : Int))) && decide ((bif decide ((params.length : Int) < (l.length : Int)) then (params.length : Int) else (l.length : Int)) ≤ (l.length : Int))) then
          bif decide (((l.take (bif decide ((params.length : Int) < (l.length : Int)) then (params.length : Int) else (l.length : Int)).toNat).length : Int) < (params.length : Int)) then
            some (.pv (.bool true), [])
          else ((V 20 [.pv (.agg [.str p_Name, .int .i64 p_Version, .lst p_Uses, .lst p_Datas, .lst p_Traits, .lst p_Impls, .lst p_Funcs, .lst p_Actors]), .pv (.lst params), .pv (.agg [.int .i64 t_Kind, .str t_Name, .lst t_Args])]).bind retPV).bind fun r1 =>
            (bif (Sh.int .i64).fits r1 then
              bif ((r1.toInt) != (0 : Int)) then
                some (.pv (.bool true), [])
              else ((V 27 [.pv (.agg [.str p_Name, .int .i64 p_Version, .lst p_Uses, .lst p_Datas, .lst p_Traits, .lst p_Impls, .lst p_Funcs, .lst p_Actors]), .pv (.lst []), .pv (.lst (l.take (bif decide ((params.length : Int) < (l.length : Int)) then (params.length : Int) else (l.length : Int)).toNat))]).bind retPV).bind fun r2 =>
                (bif (Sh.int .i64).fits r2 then
                  bif ((r2.toInt) != (0 : Int)) then
                    some (.pv (.bool true), [])
                  else ((V 28 [.pv (.agg [.int .i64 t_Kind, .str t_Name, .lst t_Args]), .pv (.lst params), .pv (.lst (l.take (bif decide ((params.length : Int) < (l.length : Int)) then (params.length : Int) else (l.length : Int)).toNat))]).bind retPV).bind fun r3 =>
                    (bif (Sh.agg [Sh.int .i64, Sh.str, Sh.lst]).fits r3 then
                      ((V 20 [.pv (.agg [.str p_Name, .int .i64 p_Version, .lst p_Uses, .lst p_Datas, .lst p_Traits, .lst p_Impls, .lst p_Funcs, .lst p_Actors]), .pv (.lst []), .pv (.agg [.int .i64 ((r3.c 0).toInt), .str ((r3.c 1).toStr), .lst ((r3.c 2).toLst)])]).bind retPV).bind fun r4 =>
                        (bif (Sh.int .i64).fits r4 then
                          bif ((r4.toInt) == (0 : Int)) then
                            ((V 28 [.pv (.agg [.int .i64 ((r3.c 0).toInt), .str ((r3.c 1).toStr), .lst ((r3.c 2).toLst)]), .pv (.lst params), .pv (.lst (l.take (bif decide ((params.length : Int) < (l.length : Int)) then (params.length : Int) else (l.length : Int)).toNat))]).bind retPV).bind fun r5 =>
                              (bif (Sh.agg [Sh.int .i64, Sh.str, Sh.lst]).fits r5 then
                                ((V 29 [.pv (.agg [.int .i64 ((r5.c 0).toInt), .str ((r5.c 1).toStr), .lst ((r5.c 2).toLst)]), .pv (.agg [.int .i64 ((r3.c 0).toInt), .str ((r3.c 1).toStr), .lst ((r3.c 2).toLst)])]).bind retPV).bind fun r6 =>
                                  (bif (Sh.bool).fits r6 then
                                    some (.pv (.bool r6.toBool), [])
                                  else none)
                              else none)
                          else some (.pv (.bool false), [])
                        else none)
                    else none)
                else none)
            else none)
        else none
      else none
    else none) :=
  (V_eq pa rfl _).trans (by kernel_rfl)
/-! 18 roadstead/roadkeep2.kinds -/
theorem e18  : V 18 [] =
  ((V 20 [.pv (.agg [.str [], .int .i64 0, .lst [], .lst [.agg [.str [68], .lst [.str [97]], .lst []]], .lst [], .lst [], .lst [], .lst []]), .pv (.lst []), .pv (.agg [.int .i64 6, .str [68], .lst []])]).bind retPV).bind fun r =>
    (bif (Sh.int .i64).fits r then
      bif ((r.toInt) == (13 : Int)) then
        ((V 20 [.pv (.agg [.str [], .int .i64 0, .lst [], .lst [.agg [.str [68], .lst [.str [97]], .lst []]], .lst [], .lst [], .lst [], .lst []]), .pv (.lst []), .pv (.agg [.int .i64 6, .str [68], .lst [.agg [.int .i64 1, .str [], .lst []]]])]).bind retPV).bind fun r1 =>
          (bif (Sh.int .i64).fits r1 then
            some (.pv (.bool ((r1.toInt) == (0 : Int))), [])
          else none)
      else some (.pv (.bool false), [])
    else none) :=
  (V_eq pa rfl _).trans (by kernel_rfl)
/-! 20 roadstead/kind.Type -/
def st20_116 (params : List PV) (p_Name : List UInt8) (p_Version : Int) (p_Uses : List PV) (p_Datas : List PV) (p_Traits : List PV) (p_Impls : List PV) (p_Funcs : List PV) (p_Actors : List PV) (t_Kind : Int) (t_Name : List UInt8) (t_Args : List PV) : AS :=
  ⟨[.any, .pv (.lst params), .any, .box 0 0, .any, .box 1 0, .any, .any, .any, .any, .any, .any, .any, .any, .any, .any, .any, .any, .any, .any, .any, .any, .any, .any, .any, .any, .any, .any, .any, .any, .any, .any, .any, .any, .any, .any, .any, .any, .any, .any, .any, .any], ⟨[(false, [.pv (.str p_Name), .pv (.int .i64 p_Version), .pv (.lst p_Uses), .pv (.lst p_Datas), .pv (.lst p_Traits), .pv (.lst p_Impls), .pv (.lst p_Funcs), .pv (.lst p_Actors)]), (false, [.pv (.int .i64 t_Kind), .pv (.str t_Name), .pv (.lst t_Args)])], [], []⟩⟩
noncomputable def L20_116 (params : List PV) (p_Name : List UInt8) (p_Version : Int) (p_Uses : List PV) (p_Datas : List PV) (p_Traits : List PV) (p_Impls : List PV) (p_Funcs : List PV) (p_Actors : List PV) (t_Kind : Int) (t_Name : List UInt8) (t_Args : List PV) : Option Out := LV Pr T 20 [1, 1, 6] (st20_116 params p_Name p_Version p_Uses p_Datas p_Traits p_Impls p_Funcs p_Actors t_Kind t_Name t_Args)
theorem e20 (p_Name : List UInt8) (p_Version : Int) (p_Uses : List PV) (p_Datas : List PV) (p_Traits : List PV) (p_Impls : List PV) (p_Funcs : List PV) (p_Actors : List PV) (params : List PV) (t_Kind : Int) (t_Name : List UInt8) (t_Args : List PV) : V 20 [.pv (.agg [.str p_Name, .int .i64 p_Version, .lst p_Uses, .lst p_Datas, .lst p_Traits, .lst p_Impls, .lst p_Funcs, .lst p_Actors]), .pv (.lst params), .pv (.agg [.int .i64 t_Kind, .str t_Name, .lst t_Args])] =
  bif (t_Kind == (5 : Int)) then
    ((V 55 [.pv (.lst params), .pv (.str t_Name)]).bind retPV).bind fun r =>
      (bif (Sh.bool).fits r then
        bif (!r.toBool) then
          some (.pv (.int .i64 11), [])
        else L20_116 params p_Name p_Version p_Uses p_Datas p_Traits p_Impls p_Funcs p_Actors t_Kind t_Name t_Args
      else none)
  else bif (t_Kind == (6 : Int)) then
    ((V 62 [.pv (.agg [.str p_Name, .int .i64 p_Version, .lst p_Uses, .lst p_Datas, .lst p_Traits, .lst p_Impls, .lst p_Funcs, .lst p_Actors]), .pv (.str t_Name)]).bind retPV).bind fun r1 =>
      (bif (Sh.tup [Sh.agg [Sh.str, Sh.lst, Sh.lst], Sh.int .i64]).fits r1 then
        bif (((r1.r 1).toInt) != (0 : Int)) then
          some (.pv (.int .i64 ((r1.r 1).toInt)), [])
        else bif ((((r1.r 0).c 1).toLst.length : Int) != (t_Args.length : Int)) then
          some (.pv (.int .i64 13), [])
        else L20_116 params p_Name p_Version p_Uses p_Datas p_Traits p_Impls p_Funcs p_Actors t_Kind t_Name t_Args
      else none)
  else L20_116 params p_Name p_Version p_Uses p_Datas p_Traits p_Impls p_Funcs p_Actors t_Kind t_Name t_Args :=
  (V_eq pa rfl _).trans (by kernel_rfl)
theorem e20_116 (params : List PV) (p_Name : List UInt8) (p_Version : Int) (p_Uses : List PV) (p_Datas : List PV) (p_Traits : List PV) (p_Impls : List PV) (p_Funcs : List PV) (p_Actors : List PV) (t_Kind : Int) (t_Name : List UInt8) (t_Args : List PV) : L20_116 params p_Name p_Version p_Uses p_Datas p_Traits p_Impls p_Funcs p_Actors t_Kind t_Name t_Args =
  ((V 27 [.pv (.agg [.str p_Name, .int .i64 p_Version, .lst p_Uses, .lst p_Datas, .lst p_Traits, .lst p_Impls, .lst p_Funcs, .lst p_Actors]), .pv (.lst params), .pv (.lst t_Args)]).bind retPV).bind fun r =>
    (bif (Sh.int .i64).fits r then
      some (.pv (.int .i64 r.toInt), [])
    else none) :=
  (LV_eq pa 20 _ _).trans (by kernel_rfl)
/-! 27 roadstead/kind.Types -/
def st27_1014 (params : List PV) (l : List PV) (i : Int) (p_Name : List UInt8) (p_Version : Int) (p_Uses : List PV) (p_Datas : List PV) (p_Traits : List PV) (p_Impls : List PV) (p_Funcs : List PV) (p_Actors : List PV) : AS :=
  ⟨[.any, .pv (.lst params), .any, .box 0 0, .any, .any, .any, .any, .any, .any, .pv (.lst l), .pv (.int .i64 (l.length : Int)), .pv (.int .i64 i), .any, .any, .any, .any, .any, .any, .any, .any, .any, .any, .any], ⟨[(false, [.pv (.str p_Name), .pv (.int .i64 p_Version), .pv (.lst p_Uses), .pv (.lst p_Datas), .pv (.lst p_Traits), .pv (.lst p_Impls), .pv (.lst p_Funcs), .pv (.lst p_Actors)])], [], []⟩⟩
noncomputable def L27_1014 (params : List PV) (l : List PV) (i : Int) (p_Name : List UInt8) (p_Version : Int) (p_Uses : List PV) (p_Datas : List PV) (p_Traits : List PV) (p_Impls : List PV) (p_Funcs : List PV) (p_Actors : List PV) : Option Out := LV Pr T 27 [1, 0, 1, 4] (st27_1014 params l i p_Name p_Version p_Uses p_Datas p_Traits p_Impls p_Funcs p_Actors)
theorem e27 (p_Name : List UInt8) (p_Version : Int) (p_Uses : List PV) (p_Datas : List PV) (p_Traits : List PV) (p_Impls : List PV) (p_Funcs : List PV) (p_Actors : List PV) (params : List PV) (l : List PV) : V 27 [.pv (.agg [.str p_Name, .int .i64 p_Version, .lst p_Uses, .lst p_Datas, .lst p_Traits, .lst p_Impls, .lst p_Funcs, .lst p_Actors]), .pv (.lst params), .pv (.lst l)] =
  L27_1014 params l 0 p_Name p_Version p_Uses p_Datas p_Traits p_Impls p_Funcs p_Actors :=
  (V_eq pa rfl _).trans (by kernel_rfl)
theorem e27_1014 (params : List PV) (l : List PV) (i : Int) (p_Name : List UInt8) (p_Version : Int) (p_Uses : List PV) (p_Datas : List PV) (p_Traits : List PV) (p_Impls : List PV) (p_Funcs : List PV) (p_Actors : List PV) : L27_1014 params l i p_Name p_Version p_Uses p_Datas p_Traits p_Impls p_Funcs p_Actors =
  bif decide (i < (l.length : Int)) then
    bif decide (0 ≤ i) then
      (l[i.toNat]?).bind fun x =>
        (bif (Sh.agg [Sh.int .i64, Sh.str, Sh.lst]).fits x then
          ((V 20 [.pv (.agg [.str p_Name, .int .i64 p_Version, .lst p_Uses, .lst p_Datas, .lst p_Traits, .lst p_Impls, .lst p_Funcs, .lst p_Actors]), .pv (.lst params), .pv (.agg [.int .i64 ((x.c 0).toInt), .str ((x.c 1).toStr), .lst ((x.c 2).toLst)])]).bind retPV).bind fun r =>
            (bif (Sh.int .i64).fits r then
              bif ((r.toInt) != (0 : Int)) then
                some (.pv (.int .i64 r.toInt), [])
              else L27_1014 params l (IntKind.i64.wrap (i + (1 : Int))) p_Name p_Version p_Uses p_Datas p_Traits p_Impls p_Funcs p_Actors
            else none)
        else none)
    else none
  else some (.pv (.int .i64 0), []) :=
  (LV_eq pa 27 _ _).trans (by kernel_rfl)
/-! 28 roadstead/kind.Put -/
def st28_1012116 (names : List PV) (l : List PV) (v : Int) (b : Bool) (t_Kind : Int) (t_Name : List UInt8) (t_Args : List PV) : AS :=
  ⟨[.any, .pv (.lst names), .pv (.lst l), .box 0 0, .any, .any, .box 1 0, .pv (.int .i64 v), .any, .any, .any, .any, .any, .any, .any, .any, .any, .any, .any, .any, .any, .any, .any, .any, .pv (.bool b), .any, .any, .any, .any, .any, .any, .any, .any, .any, .any, .any, .any, .any, .any, .any, .any, .any, .any, .any, .any, .any, .any, .any, .any, .any, .any, .any, .any, .any, .any, .any], ⟨[(false, [.pv (.int .i64 t_Kind), .pv (.str t_Name), .pv (.lst t_Args)]), (false, [.pv (.int .i64 0), .pv (.str []), .pv .nils])], [], []⟩⟩
noncomputable def L28_1012116 (names : List PV) (l : List PV) (v : Int) (b : Bool) (t_Kind : Int) (t_Name : List UInt8) (t_Args : List PV) : Option Out := LV Pr T 28 [1, 0, 1, 2, 1, 1, 6] (st28_1012116 names l v b t_Kind t_Name t_Args)
def st28_111014 (names : List PV) (l : List PV) (l1 : List PV) (i : Int) (t_Kind : Int) (t_Name : List UInt8) (l2 : List PV) : AS :=
  ⟨[.any, .pv (.lst names), .pv (.lst l), .box 0 0, .any, .any, .box 1 0, .any, .any, .any, .any, .any, .any, .any, .any, .any, .any, .any, .any, .any, .any, .any, .any, .any, .any, .any, .any, .any, .any, .any, .any, .any, .any, .any, .any, .any, .any, .any, .any, .vec 0 0, .pv (.int .i64 (l1.length : Int)), .pv (.int .i64 i), .any, .any, .any, .any, .any, .any, .any, .any, .any, .any, .any, .any, .any, .any], ⟨[(false, [.pv (.int .i64 t_Kind), .pv (.str t_Name), .vec 0 0]), (false, [.pv (.int .i64 0), .pv (.str []), .pv .nils])], [some (0, 3, l2)], []⟩⟩
noncomputable def L28_111014 (names : List PV) (l : List PV) (l1 : List PV) (i : Int) (t_Kind : Int) (t_Name : List UInt8) (l2 : List PV) : Option Out := LV Pr T 28 [1, 1, 1, 0, 1, 4] (st28_111014 names l l1 i t_Kind t_Name l2)
theorem e28 (t_Kind : Int) (t_Name : List UInt8) (t_Args : List PV) (names : List PV) (l : List PV) : V 28 [.pv (.agg [.int .i64 t_Kind, .str t_Name, .lst t_Args]), .pv (.lst names), .pv (.lst l)] =
  bif (t_Kind == (5 : Int)) then
    ((V 67 [.pv (.lst names), .pv (.str t_Name)]).bind retPV).bind fun r =>
      (bif (Sh.int .i64).fits r then
        bif decide ((r.toInt) ≥ (0 : Int)) then
          L28_1012116 names l r.toInt (decide ((r.toInt) < (l.length : Int))) t_Kind t_Name t_Args
        else L28_1012116 names l r.toInt false t_Kind t_Name t_Args
      else none)
  else (V 69 [.pv (.lst t_Args)]).bind fun r1 =>
    ((retV 3 r1).bind fun l1 =>
      (L28_111014 names l l1 0 t_Kind t_Name l1)) :=
  (V_eq pa rfl _).trans (by kernel_rfl)
theorem e28_1012116 (names : List PV) (l : List PV) (v : Int) (b : Bool) (t_Kind : Int) (t_Name : List UInt8) (t_Args : List PV) : L28_1012116 names l v b t_Kind t_Name t_Args =
  bif b then
    bif decide (0 ≤ v) then
      (l[v.toNat]?).bind fun x =>
        (bif (Sh.agg [Sh.int .i64, Sh.str, Sh.lst]).fits x then
          ((V 68 [.pv (.agg [.int .i64 ((x.c 0).toInt), .str ((x.c 1).toStr), .lst ((x.c 2).toLst)])]).bind retPV).bind fun r =>
            (bif (Sh.agg [Sh.int .i64, Sh.str, Sh.lst]).fits r then
              some (.pv (.agg [.int .i64 ((r.c 0).toInt), .str ((r.c 1).toStr), .lst ((r.c 2).toLst)]), [])
            else none)
        else none)
    else none
  else (V 69 [.pv (.lst t_Args)]).bind fun r1 =>
    ((retV 3 r1).bind fun l1 =>
      (L28_111014 names l l1 0 t_Kind t_Name l1)) :=
  (LV_eq pa 28 _ _).trans (by kernel_rfl)
theorem e28_111014 (names : List PV) (l : List PV) (l1 : List PV) (i : Int) (t_Kind : Int) (t_Name : List UInt8) (l2 : List PV) : L28_111014 names l l1 i t_Kind t_Name l2 =
  bif decide (i < (l1.length : Int)) then
    bif (decide (0 ≤ i) && decide (i < (l2.length : Int))) then
      (l2[i.toNat]?).bind fun y =>
        (bif (Sh.agg [Sh.int .i64, Sh.str, Sh.lst]).fits y then
          ((V 28 [.pv (.agg [.int .i64 ((y.c 0).toInt), .str ((y.c 1).toStr), .lst ((y.c 2).toLst)]), .pv (.lst names), .pv (.lst l)]).bind retPV).bind fun r =>
            (bif (Sh.agg [Sh.int .i64, Sh.str, Sh.lst]).fits r then
              bif (decide (0 ≤ i) && decide (i < (l2.length : Int))) then
                (l2[i.toNat]?).bind fun z =>
                  (bif ((Sh.agg [Sh.int .i64, Sh.str, Sh.lst]).fits z && true) then
                    L28_111014 names l l1 (IntKind.i64.wrap (i + (1 : Int))) t_Kind t_Name (l2.set i.toNat (.agg [.int .i64 ((r.c 0).toInt), .str ((r.c 1).toStr), .lst ((r.c 2).toLst)]))
                  else none)
              else none
            else none)
        else none)
    else none
  else some (.pv (.agg [.int .i64 t_Kind, .str t_Name, .lst l2]), []) :=
  (LV_eq pa 28 _ _).trans (by kernel_rfl)
/-! 29 roadstead/tree.SameType -/
theorem e29 (a_Kind : Int) (a_Name : List UInt8) (a_Args : List PV) (b_Kind : Int) (b_Name : List UInt8) (b_Args : List PV) : V 29 [.pv (.agg [.int .i64 a_Kind, .str a_Name, .lst a_Args]), .pv (.agg [.int .i64 b_Kind, .str b_Name, .lst b_Args])] =
  bif (a_Kind == b_Kind) then
    bif (a_Name == b_Name) then
      ((V 70 [.pv (.lst a_Args), .pv (.lst b_Args), .pv (.fn 29 [])]).bind retPV).bind fun r =>
        (bif (Sh.bool).fits r then
          some (.pv (.bool r.toBool), [])
        else none)
    else some (.pv (.bool false), [])
  else some (.pv (.bool false), []) :=
  (V_eq pa rfl _).trans (by kernel_rfl)
/-! 55 slices.Contains[[]string,string] -/
theorem e55 (s : List PV) (v : List UInt8) : V 55 [.pv (.lst s), .pv (.str v)] =
  ((V 67 [.pv (.lst s), .pv (.str v)]).bind retPV).bind fun r =>
    (bif (Sh.int .i64).fits r then
      some (.pv (.bool (decide ((r.toInt) ≥ (0 : Int)))), [])
    else none) :=
  (V_eq pa rfl _).trans (by kernel_rfl)
/-! 62 roadstead/kind.Data -/
def st62_1014 (name : List UInt8) (p_Datas : List PV) (i : Int) (p_Name : List UInt8) (p_Version : Int) (p_Uses : List PV) (p_Traits : List PV) (p_Impls : List PV) (p_Funcs : List PV) (p_Actors : List PV) : AS :=
  ⟨[.any, .pv (.str name), .any, .any, .box 1 0, .any, .any, .any, .any, .pv (.lst p_Datas), .pv (.int .i64 (p_Datas.length : Int)), .pv (.int .i64 i), .any, .any, .any, .any, .any, .any, .any, .any, .any, .any], ⟨[(false, [.pv (.str p_Name), .pv (.int .i64 p_Version), .pv (.lst p_Uses), .pv (.lst p_Datas), .pv (.lst p_Traits), .pv (.lst p_Impls), .pv (.lst p_Funcs), .pv (.lst p_Actors)]), (false, [.pv (.str []), .pv .nils, .pv .nils])], [], []⟩⟩
noncomputable def L62_1014 (name : List UInt8) (p_Datas : List PV) (i : Int) (p_Name : List UInt8) (p_Version : Int) (p_Uses : List PV) (p_Traits : List PV) (p_Impls : List PV) (p_Funcs : List PV) (p_Actors : List PV) : Option Out := LV Pr T 62 [1, 0, 1, 4] (st62_1014 name p_Datas i p_Name p_Version p_Uses p_Traits p_Impls p_Funcs p_Actors)
theorem e62 (p_Name : List UInt8) (p_Version : Int) (p_Uses : List PV) (p_Datas : List PV) (p_Traits : List PV) (p_Impls : List PV) (p_Funcs : List PV) (p_Actors : List PV) (name : List UInt8) : V 62 [.pv (.agg [.str p_Name, .int .i64 p_Version, .lst p_Uses, .lst p_Datas, .lst p_Traits, .lst p_Impls, .lst p_Funcs, .lst p_Actors]), .pv (.str name)] =
  L62_1014 name p_Datas 0 p_Name p_Version p_Uses p_Traits p_Impls p_Funcs p_Actors :=
  (V_eq pa rfl _).trans (by kernel_rfl)
theorem e62_1014 (name : List UInt8) (p_Datas : List PV) (i : Int) (p_Name : List UInt8) (p_Version : Int) (p_Uses : List PV) (p_Traits : List PV) (p_Impls : List PV) (p_Funcs : List PV) (p_Actors : List PV) : L62_1014 name p_Datas i p_Name p_Version p_Uses p_Traits p_Impls p_Funcs p_Actors =
  bif decide (i < (p_Datas.length : Int)) then
    bif decide (0 ≤ i) then
      (p_Datas[i.toNat]?).bind fun x =>
        (bif (Sh.agg [Sh.str, Sh.lst, Sh.lst]).fits x then
          bif ((x.c 0).toStr == name) then
            some (.pv (.tup [.agg [.str ((x.c 0).toStr), .lst ((x.c 1).toLst), .lst ((x.c 2).toLst)], .int .i64 0]), [])
          else L62_1014 name p_Datas (IntKind.i64.wrap (i + (1 : Int))) p_Name p_Version p_Uses p_Traits p_Impls p_Funcs p_Actors
        else none)
    else none
  else some (.pv (.tup [.agg [.str [], .lst [], .lst []], .int .i64 11]), []) :=
  (LV_eq pa 62 _ _).trans (by kernel_rfl)
/-! 67 slices.Index[[]string,string] -/
def st67_1014 (s : List PV) (v : List UInt8) (i : Int) : AS :=
  ⟨[.pv (.lst s), .pv (.str v), .any, .any, .any, .any, .any, .pv (.int .i64 (s.length : Int)), .pv (.int .i64 i), .any, .any, .any, .any, .any, .any, .any, .any, .any, .any], ⟨[], [], []⟩⟩
noncomputable def L67_1014 (s : List PV) (v : List UInt8) (i : Int) : Option Out := LV Pr T 67 [1, 0, 1, 4] (st67_1014 s v i)
theorem e67 (s : List PV) (v : List UInt8) : V 67 [.pv (.lst s), .pv (.str v)] =
  L67_1014 s v 0 :=
  (V_eq pa rfl _).trans (by kernel_rfl)
theorem e67_1014 (s : List PV) (v : List UInt8) (i : Int) : L67_1014 s v i =
  bif decide (i < (s.length : Int)) then
    bif decide (0 ≤ i) then
      (s[i.toNat]?).bind fun x =>
        (bif (Sh.str).fits x then
          bif (v == x.toStr) then
            some (.pv (.int .i64 i), [])
          else L67_1014 s v (IntKind.i64.wrap (i + (1 : Int)))
        else none)
    else none
  else some (.pv (.int .i64 (-1)), []) :=
  (LV_eq pa 67 _ _).trans (by kernel_rfl)
/-! 68 roadstead/kind.Copy -/
theorem e68 (t_Kind : Int) (t_Name : List UInt8) (t_Args : List PV) : V 68 [.pv (.agg [.int .i64 t_Kind, .str t_Name, .lst t_Args])] =
  ((V 28 [.pv (.agg [.int .i64 t_Kind, .str t_Name, .lst t_Args]), .pv (.lst []), .pv (.lst [])]).bind retPV).bind fun r =>
    (bif (Sh.agg [Sh.int .i64, Sh.str, Sh.lst]).fits r then
      some (.pv (.agg [.int .i64 ((r.c 0).toInt), .str ((r.c 1).toStr), .lst ((r.c 2).toLst)]), [])
    else none) :=
  (V_eq pa rfl _).trans (by kernel_rfl)
/-! 70 slices.EqualFunc[[]roadstead/api.Type,[]roadstead/api.Type,roadstead/api.Type,roadstead/api.Type] -/
def st70_11014 (s2 : List PV) (eq_f : FuncId) (eq_c : List PV) (s1 : List PV) (i : Int) : AS :=
  ⟨[.any, .pv (.lst s2), .pv (.fn eq_f eq_c), .any, .any, .any, .any, .any, .any, .any, .any, .any, .any, .any, .any, .pv (.lst s1), .pv (.int .i64 (s1.length : Int)), .pv (.int .i64 i), .any, .any, .any, .any, .any, .any, .any, .any, .any, .any, .any, .any, .any, .any], ⟨[], [], []⟩⟩
noncomputable def L70_11014 (s2 : List PV) (eq_f : FuncId) (eq_c : List PV) (s1 : List PV) (i : Int) : Option Out := LV Pr T 70 [1, 1, 0, 1, 4] (st70_11014 s2 eq_f eq_c s1 i)
theorem e70 (s1 : List PV) (s2 : List PV) (eq_f : FuncId) (eq_c : List PV) : V 70 [.pv (.lst s1), .pv (.lst s2), .pv (.fn eq_f eq_c)] =
  bif ((s1.length : Int) != (s2.length : Int)) then
    some (.pv (.bool false), [])
  else L70_11014 s2 eq_f eq_c s1 0 :=
  (V_eq pa rfl _).trans (by kernel_rfl)
theorem e70_11014 (s2 : List PV) (eq_f : FuncId) (eq_c : List PV) (s1 : List PV) (i : Int) : L70_11014 s2 eq_f eq_c s1 i =
  bif decide (i < (s1.length : Int)) then
    bif decide (0 ≤ i) then
      (s1[i.toNat]?).bind fun x =>
        (bif (Sh.agg [Sh.int .i64, Sh.str, Sh.lst]).fits x then
          bif decide (0 ≤ i) then
            (s2[i.toNat]?).bind fun x1 =>
              (bif (Sh.agg [Sh.int .i64, Sh.str, Sh.lst]).fits x1 then
                ((V eq_f ((([.agg [.int .i64 ((x.c 0).toInt), .str ((x.c 1).toStr), .lst ((x.c 2).toLst)], .agg [.int .i64 ((x1.c 0).toInt), .str ((x1.c 1).toStr), .lst ((x1.c 2).toLst)]] : List PV) ++ eq_c).map .pv)).bind retPV).bind fun r =>
                  (bif (Sh.bool).fits r then
                    bif (!r.toBool) then
                      some (.pv (.bool false), [])
                    else L70_11014 s2 eq_f eq_c s1 (IntKind.i64.wrap (i + (1 : Int)))
                  else none)
              else none)
          else none
        else none)
    else none
  else some (.pv (.bool true), []) :=
  (LV_eq pa 70 _ _).trans (by kernel_rfl)
end Go.AL.S1
