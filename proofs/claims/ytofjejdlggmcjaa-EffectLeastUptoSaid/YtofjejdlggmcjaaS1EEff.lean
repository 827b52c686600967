/- Equations of functions in the abstract machine: printed by gen.py. -/
import Derived.Test.YtofjejdlggmcjaaS1T
set_option linter.unusedVariables false
set_option maxRecDepth 100000
namespace Go.AL.S1
open Go Go.AL
/-! 13 roadstead/roadkeep2.EffectMore -/
def st13_11111111014 (v : List PV) (v1 : List PV) (i : Int) : AS :=
  ⟨[.any, .any, .any, .any, .any, .any, .pv (.lst v), .any, .pv (.lst v1), .any, .any, .any, .any, .any, .any, .any, .any, .any, .any, .any, .any, .any, .any, .any, .any, .any, .any, .any, .any, .any, .any, .any, .any, .any, .any, .any, .any, .any, .any, .any, .any, .any, .any, .any, .any, .any, .any, .any, .any, .any, .any, .any, .any, .pv (.int .i64 (v.length : Int)), .pv (.int .i64 i), .any, .any, .any, .any, .any, .any, .any, .any, .any, .any, .any, .any, .any], ⟨[], [], []⟩⟩
noncomputable def L13_11111111014 (v : List PV) (v1 : List PV) (i : Int) : Option Out := LV Pr T 13 [1, 1, 1, 1, 1, 1, 1, 1, 0, 1, 4] (st13_11111111014 v v1 i)
theorem e13 (p_Name : List UInt8) (p_Version : Int) (p_Uses : List PV) (p_Datas : List PV) (p_Traits : List PV) (p_Impls : List PV) (p_Funcs : List PV) (p_Actors : List PV) (f_Name : List UInt8) (f_Params : List PV) (f_Names : List PV) (f_Types : List PV) (f_Out_Kind : Int) (f_Out_Name : List UInt8) (f_Out_Args : List PV) (f_Body_Kind : Int) (f_Body_Num : Int) (f_Body_Text : List UInt8) (f_Body_Names : List PV) (f_Body_Types : List PV) (f_Body_Args : List PV) (f_Body_Arms : List PV) (f_Body_At : Int) : V 13 [.pv (.agg [.str p_Name, .int .i64 p_Version, .lst p_Uses, .lst p_Datas, .lst p_Traits, .lst p_Impls, .lst p_Funcs, .lst p_Actors]), .pv (.agg [.str f_Name, .lst f_Params, .lst f_Names, .lst f_Types, .int .i64 f_Out_Kind, .str f_Out_Name, .lst f_Out_Args, .int .i64 f_Body_Kind, .int .i64 f_Body_Num, .str f_Body_Text, .lst f_Body_Names, .lst f_Body_Types, .lst f_Body_Args, .lst f_Body_Arms, .int .i64 f_Body_At])] =
  ((V 36 [.pv (.agg [.str p_Name, .int .i64 p_Version, .lst p_Uses, .lst p_Datas, .lst p_Traits, .lst p_Impls, .lst p_Funcs, .lst p_Actors])]).bind retPV).bind fun r =>
    (bif (Sh.bool).fits r then
      bif (!r.toBool) then
        some (.pv (.bool true), [])
      else ((V 43 [.pv (.agg [.int .i64 f_Body_Kind, .int .i64 f_Body_Num, .str f_Body_Text, .lst f_Body_Names, .lst f_Body_Types, .lst f_Body_Args, .lst f_Body_Arms, .int .i64 f_Body_At])]).bind retPV).bind fun r1 =>
        (bif (Sh.int .i64).fits r1 then
          bif decide ((r1.toInt) > (200 : Int)) then
            some (.pv (.bool true), [])
          else ((V 44 []).bind retPV).bind fun r2 =>
            (bif (Sh.bool).fits r2 then
              bif (!r2.toBool) then
                some (.pv (.bool false), [])
              else (V 45 [.pv (.lst p_Funcs)]).bind fun r3 =>
                ((retB 15 r3).bind fun l =>
                  (bif small (l.length) 1 272 then
                    ((V 46 [.pv (.agg [.str p_Name, .int .i64 p_Version, .lst p_Uses, .lst p_Datas, .lst p_Traits, .lst p_Impls, .lst p_Funcs, .lst p_Actors])]).bind retPV).bind fun r4 =>
                      (bif (Sh.tup [Sh.lst, Sh.int .i64]).fits r4 then
                        ((V 46 [.pv (.agg [.str p_Name, .int .i64 p_Version, .lst p_Uses, .lst p_Datas, .lst p_Traits, .lst p_Impls, .lst (l ++ [.agg [.str f_Name, .lst f_Params, .lst f_Names, .lst f_Types, .int .i64 f_Out_Kind, .str f_Out_Name, .lst f_Out_Args, .int .i64 f_Body_Kind, .int .i64 f_Body_Num, .str f_Body_Text, .lst f_Body_Names, .lst f_Body_Types, .lst f_Body_Args, .lst f_Body_Arms, .int .i64 f_Body_At]]), .lst p_Actors])]).bind retPV).bind fun r5 =>
                          (bif (Sh.tup [Sh.lst, Sh.int .i64]).fits r5 then
                            bif (((r5.r 0).toLst.length : Int) != (IntKind.i64.wrap (((r4.r 0).toLst.length : Int) + (1 : Int)))) then
                              some (.pv (.bool false), [])
                            else bif ((IntKind.i64.wrap (BitVec.ofInt (IntKind.bits .i64) ((r4.r 1).toInt) &&& ~~~ BitVec.ofInt (IntKind.bits .i64) ((r5.r 1).toInt)).toNat) != (0 : Int)) then
                              some (.pv (.bool false), [])
                            else L13_11111111014 ((r4.r 0).toLst) ((r5.r 0).toLst) 0
                          else none)
                      else none)
                  else none))
            else none)
        else none)
    else none) :=
  (V_eq pa rfl _).trans (by kernel_rfl)
theorem e13_11111111014 (v : List PV) (v1 : List PV) (i : Int) : L13_11111111014 v v1 i =
  bif decide (i < (v.length : Int)) then
    bif decide (0 ≤ i) then
      (v[i.toNat]?).bind fun x =>
        (bif (Sh.int .i64).fits x then
          bif decide (0 ≤ i) then
            (v1[i.toNat]?).bind fun x1 =>
              (bif (Sh.int .i64).fits x1 then
                bif ((IntKind.i64.wrap (BitVec.ofInt (IntKind.bits .i64) (x.toInt) &&& ~~~ BitVec.ofInt (IntKind.bits .i64) (x1.toInt)).toNat) != (0 : Int)) then
                  some (.pv (.bool false), [])
                else L13_11111111014 v v1 (IntKind.i64.wrap (i + (1 : Int)))
              else none)
          else none
        else none)
    else none
  else some (.pv (.bool true), []) :=
  (LV_eq pa 13 _ _).trans (by kernel_rfl)
/-! 15 roadstead/roadkeep2.EffectLeast -/
def st15_111111014 (v : List PV) (v1 : List PV) (i : Int) (p_Name : List UInt8) (p_Version : Int) (p_Uses : List PV) (p_Datas : List PV) (p_Traits : List PV) (p_Impls : List PV) (p_Funcs : List PV) (p_Actors : List PV) : AS :=
  ⟨[.any, .box 0 0, .any, .pv (.lst v), .any, .pv (.lst v1), .any, .any, .any, .any, .any, .any, .any, .any, .any, .any, .any, .any, .any, .any, .any, .any, .any, .any, .any, .any, .any, .pv (.lst v1), .pv (.int .i64 (v1.length : Int)), .pv (.int .i64 i), .any, .any, .any, .any, .any, .any, .any, .any, .any, .any, .any, .any, .any, .any, .any, .any, .any, .any, .any, .any, .any, .any, .any, .any, .any, .any, .any, .any, .any, .any, .any, .any, .any, .any, .any, .any, .any, .any, .any, .any, .any, .any, .any, .any, .any, .any, .any, .any, .any, .any, .any], ⟨[(false, [.pv (.str p_Name), .pv (.int .i64 p_Version), .pv (.lst p_Uses), .pv (.lst p_Datas), .pv (.lst p_Traits), .pv (.lst p_Impls), .pv (.lst p_Funcs), .pv (.lst p_Actors)])], [], []⟩⟩
noncomputable def L15_111111014 (v : List PV) (v1 : List PV) (i : Int) (p_Name : List UInt8) (p_Version : Int) (p_Uses : List PV) (p_Datas : List PV) (p_Traits : List PV) (p_Impls : List PV) (p_Funcs : List PV) (p_Actors : List PV) : Option Out := LV Pr T 15 [1, 1, 1, 1, 1, 1, 0, 1, 4] (st15_111111014 v v1 i p_Name p_Version p_Uses p_Datas p_Traits p_Impls p_Funcs p_Actors)
def st15_111111014511041114 (v : List PV) (v1 : List PV) (i1 : Int) (i : Int) (p_Name : List UInt8) (p_Version : Int) (p_Uses : List PV) (p_Datas : List PV) (p_Traits : List PV) (p_Impls : List PV) (p_Funcs : List PV) (p_Actors : List PV) (v2 : List UInt8) (v3 : List PV) (v4 : List PV) (v5 : List PV) (v6 : Int) (v7 : List UInt8) (v8 : List PV) (v9 : Int) (v10 : Int) (v11 : List UInt8) (v12 : List PV) (v13 : List PV) (v14 : List PV) (v15 : List PV) (v16 : Int) : AS :=
  ⟨[.any, .box 0 0, .any, .pv (.lst v), .any, .pv (.lst v1), .pv (.int .i64 i1), .box 1 0, .any, .any, .any, .any, .any, .any, .any, .any, .any, .any, .any, .any, .any, .any, .any, .any, .any, .any, .any, .pv (.lst v1), .pv (.int .i64 (v1.length : Int)), .pv (.int .i64 i1), .any, .any, .any, .any, .any, .any, .any, .any, .any, .any, .any, .any, .any, .any, .any, .any, .any, .any, .any, .any, .any, .any, .any, .any, .pv (.lst v1), .pv (.int .i64 (v1.length : Int)), .pv (.int .i64 i), .any, .any, .any, .any, .any, .any, .any, .any, .any, .any, .any, .any, .any, .any, .any, .any, .any, .any, .any, .any, .any, .any, .any, .any], ⟨[(false, [.pv (.str p_Name), .pv (.int .i64 p_Version), .pv (.lst p_Uses), .pv (.lst p_Datas), .pv (.lst p_Traits), .pv (.lst p_Impls), .pv (.lst p_Funcs), .pv (.lst p_Actors)]), (false, [.pv (.str v2), .pv (.lst v3), .pv (.lst v4), .pv (.lst v5), .pv (.int .i64 v6), .pv (.str v7), .pv (.lst v8), .pv (.int .i64 v9), .pv (.int .i64 v10), .pv (.str v11), .pv (.lst v12), .pv (.lst v13), .pv (.lst v14), .pv (.lst v15), .pv (.int .i64 v16)])], [], []⟩⟩
noncomputable def L15_111111014511041114 (v : List PV) (v1 : List PV) (i1 : Int) (i : Int) (p_Name : List UInt8) (p_Version : Int) (p_Uses : List PV) (p_Datas : List PV) (p_Traits : List PV) (p_Impls : List PV) (p_Funcs : List PV) (p_Actors : List PV) (v2 : List UInt8) (v3 : List PV) (v4 : List PV) (v5 : List PV) (v6 : Int) (v7 : List UInt8) (v8 : List PV) (v9 : Int) (v10 : Int) (v11 : List UInt8) (v12 : List PV) (v13 : List PV) (v14 : List PV) (v15 : List PV) (v16 : Int) : Option Out := LV Pr T 15 [1, 1, 1, 1, 1, 1, 0, 1, 4, 5, 1, 1, 0, 4, 1, 1, 1, 4] (st15_111111014511041114 v v1 i1 i p_Name p_Version p_Uses p_Datas p_Traits p_Impls p_Funcs p_Actors v2 v3 v4 v5 v6 v7 v8 v9 v10 v11 v12 v13 v14 v15 v16)
theorem e15 (p_Name : List UInt8) (p_Version : Int) (p_Uses : List PV) (p_Datas : List PV) (p_Traits : List PV) (p_Impls : List PV) (p_Funcs : List PV) (p_Actors : List PV) : V 15 [.pv (.agg [.str p_Name, .int .i64 p_Version, .lst p_Uses, .lst p_Datas, .lst p_Traits, .lst p_Impls, .lst p_Funcs, .lst p_Actors])] =
  ((V 36 [.pv (.agg [.str p_Name, .int .i64 p_Version, .lst p_Uses, .lst p_Datas, .lst p_Traits, .lst p_Impls, .lst p_Funcs, .lst p_Actors])]).bind retPV).bind fun r =>
    (bif (Sh.bool).fits r then
      bif (!r.toBool) then
        some (.pv (.bool true), [])
      else ((V 44 []).bind retPV).bind fun r1 =>
        (bif (Sh.bool).fits r1 then
          bif (!r1.toBool) then
            some (.pv (.bool false), [])
          else ((V 46 [.pv (.agg [.str p_Name, .int .i64 p_Version, .lst p_Uses, .lst p_Datas, .lst p_Traits, .lst p_Impls, .lst p_Funcs, .lst p_Actors])]).bind retPV).bind fun r2 =>
            (bif (Sh.tup [Sh.lst, Sh.int .i64]).fits r2 then
              ((V 52 [.pv (.agg [.str p_Name, .int .i64 p_Version, .lst p_Uses, .lst p_Datas, .lst p_Traits, .lst p_Impls, .lst p_Funcs, .lst p_Actors])]).bind retPV).bind fun r3 =>
                (bif (Sh.lst).fits r3 then
                  bif (((r2.r 0).toLst.length : Int) != (r3.toLst.length : Int)) then
                    some (.pv (.bool false), [])
                  else L15_111111014 ((r2.r 0).toLst) r3.toLst 0 p_Name p_Version p_Uses p_Datas p_Traits p_Impls p_Funcs p_Actors
                else none)
            else none)
        else none)
    else none) :=
  (V_eq pa rfl _).trans (by kernel_rfl)
theorem e15_111111014 (v : List PV) (v1 : List PV) (i : Int) (p_Name : List UInt8) (p_Version : Int) (p_Uses : List PV) (p_Datas : List PV) (p_Traits : List PV) (p_Impls : List PV) (p_Funcs : List PV) (p_Actors : List PV) : L15_111111014 v v1 i p_Name p_Version p_Uses p_Datas p_Traits p_Impls p_Funcs p_Actors =
  bif decide (i < (v1.length : Int)) then
    bif decide (0 ≤ i) then
      (v1[i.toNat]?).bind fun x =>
        (bif (Sh.agg [Sh.str, Sh.lst, Sh.lst, Sh.lst, Sh.int .i64, Sh.str, Sh.lst, Sh.int .i64, Sh.int .i64, Sh.str, Sh.lst, Sh.lst, Sh.lst, Sh.lst, Sh.int .i64]).fits x then
          bif decide (0 ≤ i) then
            (v[i.toNat]?).bind fun x1 =>
              (bif (Sh.int .i64).fits x1 then
                ((V 53 [.pv (.agg [.str p_Name, .int .i64 p_Version, .lst p_Uses, .lst p_Datas, .lst p_Traits, .lst p_Impls, .lst p_Funcs, .lst p_Actors]), .pv (.agg [.int .i64 ((x.c 7).toInt), .int .i64 ((x.c 8).toInt), .str ((x.c 9).toStr), .lst ((x.c 10).toLst), .lst ((x.c 11).toLst), .lst ((x.c 12).toLst), .lst ((x.c 13).toLst), .int .i64 ((x.c 14).toInt)])]).bind retPV).bind fun r =>
                  (bif (Sh.int .i64).fits r then
                    bif ((x1.toInt) != (r.toInt)) then
                      some (.pv (.bool false), [])
                    else ((V 54 [.pv (.agg [.int .i64 ((x.c 7).toInt), .int .i64 ((x.c 8).toInt), .str ((x.c 9).toStr), .lst ((x.c 10).toLst), .lst ((x.c 11).toLst), .lst ((x.c 12).toLst), .lst ((x.c 13).toLst), .int .i64 ((x.c 14).toInt)])]).bind retPV).bind fun r1 =>
                      (bif (Sh.int .i64).fits r1 then
                        bif decide (0 ≤ i) then
                          (v[i.toNat]?).bind fun x2 =>
                            (bif (Sh.int .i64).fits x2 then
                              bif ((IntKind.i64.wrap (BitVec.ofInt (IntKind.bits .i64) (r1.toInt) &&& ~~~ BitVec.ofInt (IntKind.bits .i64) (x2.toInt)).toNat) != (0 : Int)) then
                                some (.pv (.bool false), [])
                              else L15_111111014511041114 v v1 i 0 p_Name p_Version p_Uses p_Datas p_Traits p_Impls p_Funcs p_Actors ((x.c 0).toStr) ((x.c 1).toLst) ((x.c 2).toLst) ((x.c 3).toLst) ((x.c 4).toInt) ((x.c 5).toStr) ((x.c 6).toLst) ((x.c 7).toInt) ((x.c 8).toInt) ((x.c 9).toStr) ((x.c 10).toLst) ((x.c 11).toLst) ((x.c 12).toLst) ((x.c 13).toLst) ((x.c 14).toInt)
                            else none)
                        else none
                      else none)
                  else none)
              else none)
          else none
        else none)
    else none
  else some (.pv (.bool true), []) :=
  (LV_eq pa 15 _ _).trans (by kernel_rfl)
theorem e15_111111014511041114 (v : List PV) (v1 : List PV) (i1 : Int) (i : Int) (p_Name : List UInt8) (p_Version : Int) (p_Uses : List PV) (p_Datas : List PV) (p_Traits : List PV) (p_Impls : List PV) (p_Funcs : List PV) (p_Actors : List PV) (v2 : List UInt8) (v3 : List PV) (v4 : List PV) (v5 : List PV) (v6 : Int) (v7 : List UInt8) (v8 : List PV) (v9 : Int) (v10 : Int) (v11 : List UInt8) (v12 : List PV) (v13 : List PV) (v14 : List PV) (v15 : List PV) (v16 : Int) : L15_111111014511041114 v v1 i1 i p_Name p_Version p_Uses p_Datas p_Traits p_Impls p_Funcs p_Actors v2 v3 v4 v5 v6 v7 v8 v9 v10 v11 v12 v13 v14 v15 v16 =
  bif decide (i < (v1.length : Int)) then
    bif decide (0 ≤ i) then
      (v1[i.toNat]?).bind fun x =>
        (bif (Sh.agg [Sh.str, Sh.lst, Sh.lst, Sh.lst, Sh.int .i64, Sh.str, Sh.lst, Sh.int .i64, Sh.int .i64, Sh.str, Sh.lst, Sh.lst, Sh.lst, Sh.lst, Sh.int .i64]).fits x then
          ((V 56 [.pv (.agg [.int .i64 ((x.c 7).toInt), .int .i64 ((x.c 8).toInt), .str ((x.c 9).toStr), .lst ((x.c 10).toLst), .lst ((x.c 11).toLst), .lst ((x.c 12).toLst), .lst ((x.c 13).toLst), .int .i64 ((x.c 14).toInt)])]).bind retPV).bind fun r =>
            (bif (Sh.lst).fits r then
              ((V 55 [.pv (.lst r.toLst), .pv (.str v2)]).bind retPV).bind fun r1 =>
                (bif (Sh.bool).fits r1 then
                  bif r1.toBool then
                    bif decide (0 ≤ i1) then
                      (v[i1.toNat]?).bind fun x1 =>
                        (bif (Sh.int .i64).fits x1 then
                          bif decide (0 ≤ i) then
                            (v[i.toNat]?).bind fun x2 =>
                              (bif (Sh.int .i64).fits x2 then
                                bif ((IntKind.i64.wrap (BitVec.ofInt (IntKind.bits .i64) (x1.toInt) &&& ~~~ BitVec.ofInt (IntKind.bits .i64) (x2.toInt)).toNat) != (0 : Int)) then
                                  some (.pv (.bool false), [])
                                else L15_111111014511041114 v v1 i1 (IntKind.i64.wrap (i + (1 : Int))) p_Name p_Version p_Uses p_Datas p_Traits p_Impls p_Funcs p_Actors v2 v3 v4 v5 v6 v7 v8 v9 v10 v11 v12 v13 v14 v15 v16
                              else none)
                          else none
                        else none)
                    else none
                  else L15_111111014511041114 v v1 i1 (IntKind.i64.wrap (i + (1 : Int))) p_Name p_Version p_Uses p_Datas p_Traits p_Impls p_Funcs p_Actors v2 v3 v4 v5 v6 v7 v8 v9 v10 v11 v12 v13 v14 v15 v16
                else none)
            else none)
        else none)
    else none
  else L15_111111014 v v1 (IntKind.i64.wrap (i1 + (1 : Int))) p_Name p_Version p_Uses p_Datas p_Traits p_Impls p_Funcs p_Actors :=
  (LV_eq pa 15 _ _).trans (by kernel_rfl)
/-! 23 slices.Equal[[]int,int] -/
def st23_11014 (s1 : List PV) (s2 : List PV) (i : Int) : AS :=
  ⟨[.pv (.lst s1), .pv (.lst s2), .any, .any, .any, .any, .any, .any, .any, .any, .any, .any, .pv (.int .i64 (s1.length : Int)), .pv (.int .i64 i), .any, .any, .any, .any, .any, .any, .any, .any, .any, .any, .any, .any], ⟨[], [], []⟩⟩
noncomputable def L23_11014 (s1 : List PV) (s2 : List PV) (i : Int) : Option Out := LV Pr T 23 [1, 1, 0, 1, 4] (st23_11014 s1 s2 i)
theorem e23 (s1 : List PV) (s2 : List PV) : V 23 [.pv (.lst s1), .pv (.lst s2)] =
  bif ((s1.length : Int) != (s2.length : Int)) then
    some (.pv (.bool false), [])
  else L23_11014 s1 s2 0 :=
  (V_eq pa rfl _).trans (by kernel_rfl)
theorem e23_11014 (s1 : List PV) (s2 : List PV) (i : Int) : L23_11014 s1 s2 i =
  bif decide (i < (s1.length : Int)) then
    bif decide (0 ≤ i) then
      (s1[i.toNat]?).bind fun x =>
        (bif (Sh.int .i64).fits x then
          bif decide (0 ≤ i) then
            (s2[i.toNat]?).bind fun x1 =>
              (bif (Sh.int .i64).fits x1 then
                bif ((x.toInt) != (x1.toInt)) then
                  some (.pv (.bool false), [])
                else L23_11014 s1 s2 (IntKind.i64.wrap (i + (1 : Int)))
              else none)
          else none
        else none)
    else none
  else some (.pv (.bool true), []) :=
  (LV_eq pa 23 _ _).trans (by kernel_rfl)
/-! 44 roadstead/roadkeep2.effects -/
theorem e44  : V 44 [] =
  ((V 54 [.pv (.agg [.int .i64 20, .int .i64 0, .str [], .lst [], .lst [], .lst [.agg [.int .i64 2, .int .i64 0, .str [], .lst [], .lst [], .lst [], .lst [], .int .i64 0]], .lst [], .int .i64 0])]).bind retPV).bind fun r =>
    (bif (Sh.int .i64).fits r then
      some (.pv (.bool ((r.toInt) == (1 : Int))), [])
    else none) :=
  (V_eq pa rfl _).trans (by kernel_rfl)
/-! 46 roadstead/effect.Least -/
def st46_1114 (v : List PV) (i : Int) (p_Name : List UInt8) (p_Version : Int) (p_Uses : List PV) (p_Datas : List PV) (p_Traits : List PV) (p_Impls : List PV) (p_Funcs : List PV) (p_Actors : List PV) (l : List PV) : AS :=
  ⟨[.any, .box 0 0, .any, .any, .pv (.lst v), .vec 0 0, .pv (.int .i64 i), .any, .any, .any, .any, .any, .any, .any, .any, .any, .any, .any, .any, .any, .any, .any, .any, .any, .any, .any, .any, .any, .any, .any, .any, .any, .any, .any, .any, .any, .any, .any, .any, .any, .any, .any, .any, .any, .any, .any, .any, .any, .any, .any, .any, .any, .any, .any, .any, .any, .any, .any, .any, .any, .any, .any, .any, .any, .any, .any, .any, .any, .any, .any, .any, .any, .any, .any, .any, .any, .any, .any, .any], ⟨[(false, [.pv (.str p_Name), .pv (.int .i64 p_Version), .pv (.lst p_Uses), .pv (.lst p_Datas), .pv (.lst p_Traits), .pv (.lst p_Impls), .pv (.lst p_Funcs), .pv (.lst p_Actors)])], [some (0, 1, l)], []⟩⟩
noncomputable def L46_1114 (v : List PV) (i : Int) (p_Name : List UInt8) (p_Version : Int) (p_Uses : List PV) (p_Datas : List PV) (p_Traits : List PV) (p_Impls : List PV) (p_Funcs : List PV) (p_Actors : List PV) (l : List PV) : Option Out := LV Pr T 46 [1, 1, 1, 4] (st46_1114 v i p_Name p_Version p_Uses p_Datas p_Traits p_Impls p_Funcs p_Actors l)
def st46_1114541014 (v : List PV) (i1 : Int) (i : Int) (p_Name : List UInt8) (p_Version : Int) (p_Uses : List PV) (p_Datas : List PV) (p_Traits : List PV) (p_Impls : List PV) (p_Funcs : List PV) (p_Actors : List PV) (l1 : List PV) (l : List PV) : AS :=
  ⟨[.any, .box 0 0, .any, .any, .pv (.lst v), .vec 0 0, .pv (.int .i64 i1), .vec 1 0, .pv (.int .i64 i1), .any, .any, .any, .any, .any, .any, .any, .any, .any, .any, .any, .any, .any, .any, .any, .pv (.lst v), .pv (.int .i64 (v.length : Int)), .pv (.int .i64 i), .any, .any, .any, .any, .any, .any, .any, .any, .any, .any, .any, .any, .any, .any, .any, .any, .any, .any, .any, .any, .any, .any, .any, .any, .any, .any, .any, .any, .any, .any, .any, .any, .any, .any, .any, .any, .any, .any, .any, .any, .any, .any, .any, .any, .any, .any, .any, .any, .any, .any, .any, .any], ⟨[(false, [.pv (.str p_Name), .pv (.int .i64 p_Version), .pv (.lst p_Uses), .pv (.lst p_Datas), .pv (.lst p_Traits), .pv (.lst p_Impls), .pv (.lst p_Funcs), .pv (.lst p_Actors)])], [some (0, 1, l1), some (0, 1, l)], []⟩⟩
noncomputable def L46_1114541014 (v : List PV) (i1 : Int) (i : Int) (p_Name : List UInt8) (p_Version : Int) (p_Uses : List PV) (p_Datas : List PV) (p_Traits : List PV) (p_Impls : List PV) (p_Funcs : List PV) (p_Actors : List PV) (l1 : List PV) (l : List PV) : Option Out := LV Pr T 46 [1, 1, 1, 4, 5, 4, 1, 0, 1, 4] (st46_1114541014 v i1 i p_Name p_Version p_Uses p_Datas p_Traits p_Impls p_Funcs p_Actors l1 l)
def st46_11145411014 (v : List PV) (i2 : Int) (i1 : Int) (v1 : List PV) (i : Int) (p_Name : List UInt8) (p_Version : Int) (p_Uses : List PV) (p_Datas : List PV) (p_Traits : List PV) (p_Impls : List PV) (p_Funcs : List PV) (p_Actors : List PV) (l2 : List PV) (l1 : List PV) : AS :=
  ⟨[.any, .box 0 0, .any, .any, .pv (.lst v), .vec 0 0, .pv (.int .i64 i2), .vec 1 0, .pv (.int .i64 i1), .any, .any, .any, .any, .any, .any, .any, .any, .any, .any, .any, .any, .any, .any, .any, .any, .any, .any, .any, .any, .any, .any, .any, .any, .any, .any, .any, .any, .any, .any, .any, .any, .any, .pv (.lst v1), .pv (.int .i64 (v1.length : Int)), .pv (.int .i64 i), .any, .any, .any, .any, .any, .any, .any, .any, .any, .any, .any, .any, .any, .any, .any, .any, .any, .any, .any, .any, .any, .any, .any, .any, .any, .any, .any, .any, .any, .any, .any, .any, .any, .any], ⟨[(false, [.pv (.str p_Name), .pv (.int .i64 p_Version), .pv (.lst p_Uses), .pv (.lst p_Datas), .pv (.lst p_Traits), .pv (.lst p_Impls), .pv (.lst p_Funcs), .pv (.lst p_Actors)])], [some (0, 1, l2), some (0, 1, l1)], []⟩⟩
noncomputable def L46_11145411014 (v : List PV) (i2 : Int) (i1 : Int) (v1 : List PV) (i : Int) (p_Name : List UInt8) (p_Version : Int) (p_Uses : List PV) (p_Datas : List PV) (p_Traits : List PV) (p_Impls : List PV) (p_Funcs : List PV) (p_Actors : List PV) (l2 : List PV) (l1 : List PV) : Option Out := LV Pr T 46 [1, 1, 1, 4, 5, 4, 1, 1, 0, 1, 4] (st46_11145411014 v i2 i1 v1 i p_Name p_Version p_Uses p_Datas p_Traits p_Impls p_Funcs p_Actors l2 l1)
def st46_1114541101451104114 (v : List PV) (i3 : Int) (i : Int) (v1 : List PV) (i2 : Int) (v2 : List PV) (i1 : Int) (p_Name : List UInt8) (p_Version : Int) (p_Uses : List PV) (p_Datas : List PV) (p_Traits : List PV) (p_Impls : List PV) (p_Funcs : List PV) (p_Actors : List PV) (l : List PV) (l1 : List PV) : AS :=
  ⟨[.any, .box 0 0, .any, .any, .pv (.lst v), .vec 0 0, .pv (.int .i64 i3), .vec 1 0, .pv (.int .i64 i), .any, .any, .any, .any, .any, .any, .any, .any, .any, .any, .any, .any, .any, .any, .any, .any, .any, .any, .any, .any, .any, .any, .any, .any, .any, .any, .any, .any, .any, .any, .any, .any, .any, .pv (.lst v1), .pv (.int .i64 (v1.length : Int)), .pv (.int .i64 i2), .any, .any, .any, .any, .pv (.lst v2), .pv (.int .i64 (v2.length : Int)), .pv (.int .i64 i1), .any, .any, .any, .any, .any, .any, .any, .any, .any, .any, .any, .any, .any, .any, .any, .any, .any, .any, .any, .any, .any, .any, .any, .any, .any, .any, .any], ⟨[(false, [.pv (.str p_Name), .pv (.int .i64 p_Version), .pv (.lst p_Uses), .pv (.lst p_Datas), .pv (.lst p_Traits), .pv (.lst p_Impls), .pv (.lst p_Funcs), .pv (.lst p_Actors)])], [some (0, 1, l), some (0, 1, l1)], []⟩⟩
noncomputable def L46_1114541101451104114 (v : List PV) (i3 : Int) (i : Int) (v1 : List PV) (i2 : Int) (v2 : List PV) (i1 : Int) (p_Name : List UInt8) (p_Version : Int) (p_Uses : List PV) (p_Datas : List PV) (p_Traits : List PV) (p_Impls : List PV) (p_Funcs : List PV) (p_Actors : List PV) (l : List PV) (l1 : List PV) : Option Out := LV Pr T 46 [1, 1, 1, 4, 5, 4, 1, 1, 0, 1, 4, 5, 1, 1, 0, 4, 1, 1, 4] (st46_1114541101451104114 v i3 i v1 i2 v2 i1 p_Name p_Version p_Uses p_Datas p_Traits p_Impls p_Funcs p_Actors l l1)
theorem e46 (p_Name : List UInt8) (p_Version : Int) (p_Uses : List PV) (p_Datas : List PV) (p_Traits : List PV) (p_Impls : List PV) (p_Funcs : List PV) (p_Actors : List PV) : V 46 [.pv (.agg [.str p_Name, .int .i64 p_Version, .lst p_Uses, .lst p_Datas, .lst p_Traits, .lst p_Impls, .lst p_Funcs, .lst p_Actors])] =
  ((V 88 [.pv (.agg [.str p_Name, .int .i64 p_Version, .lst p_Uses, .lst p_Datas, .lst p_Traits, .lst p_Impls, .lst p_Funcs, .lst p_Actors])]).bind retPV).bind fun r =>
    (bif (Sh.lst).fits r then
      bif (decide (0 ≤ (r.toLst.length : Int)) && decide ((r.toLst.length : Int) ≤ (r.toLst.length : Int)) && decide ((r.toLst.length : Int) ≤ 2147483648) && Nat.ble 8 65536 && Nat.blt 0 1) then
        L46_1114 r.toLst 0 p_Name p_Version p_Uses p_Datas p_Traits p_Impls p_Funcs p_Actors (List.replicate (r.toLst.length : Int).toNat (.int .i64 0) : List PV)
      else none
    else none) :=
  (V_eq pa rfl _).trans (by kernel_rfl)
theorem e46_1114 (v : List PV) (i : Int) (p_Name : List UInt8) (p_Version : Int) (p_Uses : List PV) (p_Datas : List PV) (p_Traits : List PV) (p_Impls : List PV) (p_Funcs : List PV) (p_Actors : List PV) (l : List PV) : L46_1114 v i p_Name p_Version p_Uses p_Datas p_Traits p_Impls p_Funcs p_Actors l =
  bif (decide (0 ≤ (v.length : Int)) && decide ((v.length : Int) ≤ (v.length : Int)) && decide ((v.length : Int) ≤ 2147483648) && Nat.ble 8 65536 && Nat.blt 0 1) then
    L46_1114541014 v i 0 p_Name p_Version p_Uses p_Datas p_Traits p_Impls p_Funcs p_Actors l (List.replicate (v.length : Int).toNat (.int .i64 0) : List PV)
  else none :=
  (LV_eq pa 46 _ _).trans (by kernel_rfl)
theorem e46_1114541014 (v : List PV) (i1 : Int) (i : Int) (p_Name : List UInt8) (p_Version : Int) (p_Uses : List PV) (p_Datas : List PV) (p_Traits : List PV) (p_Impls : List PV) (p_Funcs : List PV) (p_Actors : List PV) (l1 : List PV) (l : List PV) : L46_1114541014 v i1 i p_Name p_Version p_Uses p_Datas p_Traits p_Impls p_Funcs p_Actors l1 l =
  bif decide (i < (v.length : Int)) then
    bif decide (0 ≤ i) then
      (v[i.toNat]?).bind fun x =>
        (bif (Sh.agg [Sh.str, Sh.lst, Sh.lst, Sh.lst, Sh.int .i64, Sh.str, Sh.lst, Sh.int .i64, Sh.int .i64, Sh.str, Sh.lst, Sh.lst, Sh.lst, Sh.lst, Sh.int .i64]).fits x then
          (V 89 [.pv (.agg [.str p_Name, .int .i64 p_Version, .lst p_Uses, .lst p_Datas, .lst p_Traits, .lst p_Impls, .lst p_Funcs, .lst p_Actors]), .pv (.agg [.int .i64 ((x.c 7).toInt), .int .i64 ((x.c 8).toInt), .str ((x.c 9).toStr), .lst ((x.c 10).toLst), .lst ((x.c 11).toLst), .lst ((x.c 12).toLst), .lst ((x.c 13).toLst), .int .i64 ((x.c 14).toInt)]), .pv (.lst l1), .pv (.int .i64 i1)]).bind fun r =>
            ((retPV r).bind fun r1 =>
              (bif (Sh.int .i64).fits r1 then
                bif (decide (0 ≤ i) && decide (i < (l.length : Int))) then
                  (l[i.toNat]?).bind fun z =>
                    (bif (Nat.blt 0 z.cells.length && true) then
                      L46_1114541014 v i1 (IntKind.i64.wrap (i + (1 : Int))) p_Name p_Version p_Uses p_Datas p_Traits p_Impls p_Funcs p_Actors l1 (l.set i.toNat (z.setc 0 (.int .i64 r1.toInt)))
                    else none)
                else none
              else none))
        else none)
    else none
  else ((V 90 [.pv (.agg [.str p_Name, .int .i64 p_Version, .lst p_Uses, .lst p_Datas, .lst p_Traits, .lst p_Impls, .lst p_Funcs, .lst p_Actors])]).bind retPV).bind fun r2 =>
    (bif (Sh.lst).fits r2 then
      L46_11145411014 v i1 i1 r2.toLst 0 p_Name p_Version p_Uses p_Datas p_Traits p_Impls p_Funcs p_Actors l1 l
    else none) :=
  (LV_eq pa 46 _ _).trans (by kernel_rfl)
theorem e46_11145411014 (v : List PV) (i2 : Int) (i1 : Int) (v1 : List PV) (i : Int) (p_Name : List UInt8) (p_Version : Int) (p_Uses : List PV) (p_Datas : List PV) (p_Traits : List PV) (p_Impls : List PV) (p_Funcs : List PV) (p_Actors : List PV) (l2 : List PV) (l1 : List PV) : L46_11145411014 v i2 i1 v1 i p_Name p_Version p_Uses p_Datas p_Traits p_Impls p_Funcs p_Actors l2 l1 =
  bif decide (i < (v1.length : Int)) then
    bif decide (0 ≤ i) then
      (v1[i.toNat]?).bind fun x =>
        (bif (Sh.agg [Sh.int .i64, Sh.int .i64, Sh.str, Sh.lst, Sh.lst, Sh.lst, Sh.lst, Sh.int .i64]).fits x then
          ((V 50 [.pv (.agg [.int .i64 ((x.c 0).toInt), .int .i64 ((x.c 1).toInt), .str ((x.c 2).toStr), .lst ((x.c 3).toLst), .lst ((x.c 4).toLst), .lst ((x.c 5).toLst), .lst ((x.c 6).toLst), .int .i64 ((x.c 7).toInt)])]).bind retPV).bind fun r =>
            (bif (Sh.lst).fits r then
              L46_1114541101451104114 v i2 i1 v1 i r.toLst 0 p_Name p_Version p_Uses p_Datas p_Traits p_Impls p_Funcs p_Actors l2 l1
            else none)
        else none)
    else none
  else bif (i1 == i2) then
    (V 23 [.pv (.lst l1), .pv (.lst l2)]).bind fun r1 =>
      ((retPV r1).bind fun r2 =>
        (bif (Sh.bool).fits r2 then
          bif r2.toBool then
            some (.pv (.tup [.lst l2, .int .i64 i2]), [])
          else L46_1114 v i1 p_Name p_Version p_Uses p_Datas p_Traits p_Impls p_Funcs p_Actors l1
        else none))
  else L46_1114 v i1 p_Name p_Version p_Uses p_Datas p_Traits p_Impls p_Funcs p_Actors l1 :=
  (LV_eq pa 46 _ _).trans (by kernel_rfl)
theorem e46_1114541101451104114 (v : List PV) (i3 : Int) (i : Int) (v1 : List PV) (i2 : Int) (v2 : List PV) (i1 : Int) (p_Name : List UInt8) (p_Version : Int) (p_Uses : List PV) (p_Datas : List PV) (p_Traits : List PV) (p_Impls : List PV) (p_Funcs : List PV) (p_Actors : List PV) (l : List PV) (l1 : List PV) : L46_1114541101451104114 v i3 i v1 i2 v2 i1 p_Name p_Version p_Uses p_Datas p_Traits p_Impls p_Funcs p_Actors l l1 =
  bif decide (i1 < (v2.length : Int)) then
    bif decide (0 ≤ i1) then
      (v2[i1.toNat]?).bind fun x =>
        (bif (Sh.agg [Sh.int .i64, Sh.int .i64, Sh.str, Sh.lst, Sh.lst, Sh.lst, Sh.lst, Sh.int .i64]).fits x then
          bif (((x.c 0).toInt) == (10 : Int)) then
            (V 89 [.pv (.agg [.str p_Name, .int .i64 p_Version, .lst p_Uses, .lst p_Datas, .lst p_Traits, .lst p_Impls, .lst p_Funcs, .lst p_Actors]), .pv (.agg [.int .i64 ((x.c 0).toInt), .int .i64 ((x.c 1).toInt), .str ((x.c 2).toStr), .lst ((x.c 3).toLst), .lst ((x.c 4).toLst), .lst ((x.c 5).toLst), .lst ((x.c 6).toLst), .int .i64 ((x.c 7).toInt)]), .pv (.lst l), .pv (.int .i64 i3)]).bind fun r =>
              ((retPV r).bind fun r1 =>
                (bif (Sh.int .i64).fits r1 then
                  L46_1114541101451104114 v i3 (IntKind.i64.wrap (BitVec.ofInt (IntKind.bits .i64) i ||| BitVec.ofInt (IntKind.bits .i64) (r1.toInt)).toNat) v1 i2 v2 (IntKind.i64.wrap (i1 + (1 : Int))) p_Name p_Version p_Uses p_Datas p_Traits p_Impls p_Funcs p_Actors l l1
                else none))
          else L46_1114541101451104114 v i3 i v1 i2 v2 (IntKind.i64.wrap (i1 + (1 : Int))) p_Name p_Version p_Uses p_Datas p_Traits p_Impls p_Funcs p_Actors l l1
        else none)
    else none
  else L46_11145411014 v i3 i v1 (IntKind.i64.wrap (i2 + (1 : Int))) p_Name p_Version p_Uses p_Datas p_Traits p_Impls p_Funcs p_Actors l l1 :=
  (LV_eq pa 46 _ _).trans (by kernel_rfl)
/-! 53 roadstead/effect.Body -/
theorem e53 (p_Name : List UInt8) (p_Version : Int) (p_Uses : List PV) (p_Datas : List PV) (p_Traits : List PV) (p_Impls : List PV) (p_Funcs : List PV) (p_Actors : List PV) (e_Kind : Int) (e_Num : Int) (e_Text : List UInt8) (e_Names : List PV) (e_Types : List PV) (e_Args : List PV) (e_Arms : List PV) (e_At : Int) : V 53 [.pv (.agg [.str p_Name, .int .i64 p_Version, .lst p_Uses, .lst p_Datas, .lst p_Traits, .lst p_Impls, .lst p_Funcs, .lst p_Actors]), .pv (.agg [.int .i64 e_Kind, .int .i64 e_Num, .str e_Text, .lst e_Names, .lst e_Types, .lst e_Args, .lst e_Arms, .int .i64 e_At])] =
  ((V 46 [.pv (.agg [.str p_Name, .int .i64 p_Version, .lst p_Uses, .lst p_Datas, .lst p_Traits, .lst p_Impls, .lst p_Funcs, .lst p_Actors])]).bind retPV).bind fun r =>
    (bif (Sh.tup [Sh.lst, Sh.int .i64]).fits r then
      ((V 89 [.pv (.agg [.str p_Name, .int .i64 p_Version, .lst p_Uses, .lst p_Datas, .lst p_Traits, .lst p_Impls, .lst p_Funcs, .lst p_Actors]), .pv (.agg [.int .i64 e_Kind, .int .i64 e_Num, .str e_Text, .lst e_Names, .lst e_Types, .lst e_Args, .lst e_Arms, .int .i64 e_At]), .pv (.lst ((r.r 0).toLst)), .pv (.int .i64 ((r.r 1).toInt))]).bind retPV).bind fun r1 =>
        (bif (Sh.int .i64).fits r1 then
          some (.pv (.int .i64 r1.toInt), [])
        else none)
    else none) :=
  (V_eq pa rfl _).trans (by kernel_rfl)
/-! 54 roadstead/effect.Own -/
def st54_11014 (i : Int) (v : List PV) (i1 : Int) : AS :=
  ⟨[.any, .any, .any, .pv (.int .i64 i), .any, .any, .any, .pv (.lst v), .pv (.int .i64 (v.length : Int)), .pv (.int .i64 i1), .any, .any, .any, .any, .any, .any, .any, .any, .any, .any, .any, .any, .any, .any, .any, .any, .any, .any, .any, .any, .any, .any, .any, .any, .any, .any, .any, .any, .any, .any, .any, .any, .any, .any, .any, .any, .any, .any], ⟨[], [], []⟩⟩
noncomputable def L54_11014 (i : Int) (v : List PV) (i1 : Int) : Option Out := LV Pr T 54 [1, 1, 0, 1, 4] (st54_11014 i v i1)
def st54_1101451104114131313131316 (i2 : Int) (v : List PV) (i3 : Int) (v1 : Int) (b : Bool) : AS :=
  ⟨[.any, .any, .any, .pv (.int .i64 i2), .any, .any, .any, .pv (.lst v), .pv (.int .i64 (v.length : Int)), .pv (.int .i64 i3), .any, .any, .any, .any, .pv (.int .i64 v1), .any, .any, .any, .any, .any, .any, .any, .any, .any, .any, .any, .any, .any, .any, .any, .any, .any, .any, .any, .any, .pv (.bool b), .any, .any, .any, .any, .any, .any, .any, .any, .any, .any, .any, .any], ⟨[], [], []⟩⟩
noncomputable def L54_1101451104114131313131316 (i2 : Int) (v : List PV) (i3 : Int) (v1 : Int) (b : Bool) : Option Out := LV Pr T 54 [1, 1, 0, 1, 4, 5, 1, 1, 0, 4, 1, 1, 4, 1, 3, 1, 3, 1, 3, 1, 3, 1, 3, 1, 6] (st54_1101451104114131313131316 i2 v i3 v1 b)
theorem e54 (e_Kind : Int) (e_Num : Int) (e_Text : List UInt8) (e_Names : List PV) (e_Types : List PV) (e_Args : List PV) (e_Arms : List PV) (e_At : Int) : V 54 [.pv (.agg [.int .i64 e_Kind, .int .i64 e_Num, .str e_Text, .lst e_Names, .lst e_Types, .lst e_Args, .lst e_Arms, .int .i64 e_At])] =
  ((V 50 [.pv (.agg [.int .i64 e_Kind, .int .i64 e_Num, .str e_Text, .lst e_Names, .lst e_Types, .lst e_Args, .lst e_Arms, .int .i64 e_At])]).bind retPV).bind fun r =>
    (bif (Sh.lst).fits r then
      L54_11014 0 r.toLst 0
    else none) :=
  (V_eq pa rfl _).trans (by kernel_rfl)
theorem e54_11014 (i : Int) (v : List PV) (i1 : Int) : L54_11014 i v i1 =
  bif decide (i1 < (v.length : Int)) then
    bif decide (0 ≤ i1) then
      (v[i1.toNat]?).bind fun x =>
        (bif (Sh.agg [Sh.int .i64, Sh.int .i64, Sh.str, Sh.lst, Sh.lst, Sh.lst, Sh.lst, Sh.int .i64]).fits x then
          bif (((x.c 0).toInt) == (20 : Int)) then
            L54_11014 (IntKind.i64.wrap (BitVec.ofInt (IntKind.bits .i64) i ||| BitVec.ofInt (IntKind.bits .i64) (1 : Int)).toNat) v (IntKind.i64.wrap (i1 + (1 : Int)))
          else bif (((x.c 0).toInt) == (15 : Int)) then
            L54_11014 (IntKind.i64.wrap (BitVec.ofInt (IntKind.bits .i64) i ||| BitVec.ofInt (IntKind.bits .i64) (2 : Int)).toNat) v (IntKind.i64.wrap (i1 + (1 : Int)))
          else bif (((x.c 0).toInt) == (14 : Int)) then
            L54_11014 (IntKind.i64.wrap (BitVec.ofInt (IntKind.bits .i64) i ||| BitVec.ofInt (IntKind.bits .i64) (4 : Int)).toNat) v (IntKind.i64.wrap (i1 + (1 : Int)))
          else bif (((x.c 0).toInt) == (18 : Int)) then
            L54_11014 (IntKind.i64.wrap (BitVec.ofInt (IntKind.bits .i64) i ||| BitVec.ofInt (IntKind.bits .i64) (8 : Int)).toNat) v (IntKind.i64.wrap (i1 + (1 : Int)))
          else bif (((x.c 0).toInt) == (19 : Int)) then
            L54_11014 (IntKind.i64.wrap (BitVec.ofInt (IntKind.bits .i64) i ||| BitVec.ofInt (IntKind.bits .i64) (16 : Int)).toNat) v (IntKind.i64.wrap (i1 + (1 : Int)))
          else bif (((x.c 0).toInt) == (24 : Int)) then
            L54_1101451104114131313131316 i v i1 ((x.c 0).toInt) (((x.c 0).toInt) == (24 : Int))
          else L54_1101451104114131313131316 i v i1 ((x.c 0).toInt) (((x.c 0).toInt) == (25 : Int))
        else none)
    else none
  else some (.pv (.int .i64 i), []) :=
  (LV_eq pa 54 _ _).trans (by kernel_rfl)
theorem e54_1101451104114131313131316 (i2 : Int) (v : List PV) (i3 : Int) (v1 : Int) (b : Bool) : L54_1101451104114131313131316 i2 v i3 v1 b =
  bif b then
    L54_11014 (IntKind.i64.wrap (BitVec.ofInt (IntKind.bits .i64) i2 ||| BitVec.ofInt (IntKind.bits .i64) (32 : Int)).toNat) v (IntKind.i64.wrap (i3 + (1 : Int)))
  else bif (v1 == (21 : Int)) then
    bif (v1 == (21 : Int)) then
      L54_11014 (IntKind.i64.wrap (BitVec.ofInt (IntKind.bits .i64) i2 ||| BitVec.ofInt (IntKind.bits .i64) (64 : Int)).toNat) v (IntKind.i64.wrap (i3 + (1 : Int)))
    else L54_11014 i2 v (IntKind.i64.wrap (i3 + (1 : Int)))
  else bif (v1 == (22 : Int)) then
    bif (v1 == (22 : Int)) then
      L54_11014 (IntKind.i64.wrap (BitVec.ofInt (IntKind.bits .i64) i2 ||| BitVec.ofInt (IntKind.bits .i64) (64 : Int)).toNat) v (IntKind.i64.wrap (i3 + (1 : Int)))
    else L54_11014 i2 v (IntKind.i64.wrap (i3 + (1 : Int)))
  else bif (v1 == (23 : Int)) then
    L54_11014 (IntKind.i64.wrap (BitVec.ofInt (IntKind.bits .i64) i2 ||| BitVec.ofInt (IntKind.bits .i64) (64 : Int)).toNat) v (IntKind.i64.wrap (i3 + (1 : Int)))
  else L54_11014 i2 v (IntKind.i64.wrap (i3 + (1 : Int))) :=
  (LV_eq pa 54 _ _).trans (by kernel_rfl)
/-! 56 roadstead/effect.Calls -/
def st56_11014 (l : List PV) (v : List PV) (i : Int) : AS :=
  ⟨[.any, .any, .any, .bld 0 0 l, .any, .any, .any, .pv (.lst v), .pv (.int .i64 (v.length : Int)), .pv (.int .i64 i), .any, .any, .any, .any, .any, .any, .any, .any, .any, .any, .any, .any, .any, .any, .any, .any, .any, .any, .any, .any], ⟨[], [], [(0, 1)]⟩⟩
noncomputable def L56_11014 (l : List PV) (v : List PV) (i : Int) : Option Out := LV Pr T 56 [1, 1, 0, 1, 4] (st56_11014 l v i)
def st56_1101451104116 (l1 : List PV) (v : List PV) (i1 : Int) (b : Bool) (v2 : Int) (v3 : Int) (v4 : List UInt8) (v5 : List PV) (v6 : List PV) (v7 : List PV) (v8 : List PV) (v9 : Int) : AS :=
  ⟨[.any, .any, .any, .bld 0 0 l1, .any, .box 0 0, .any, .pv (.lst v), .pv (.int .i64 (v.length : Int)), .pv (.int .i64 i1), .any, .any, .any, .any, .any, .any, .any, .any, .any, .any, .any, .any, .pv (.bool b), .any, .any, .any, .any, .any, .any, .any], ⟨[(false, [.pv (.int .i64 v2), .pv (.int .i64 v3), .pv (.str v4), .pv (.lst v5), .pv (.lst v6), .pv (.lst v7), .pv (.lst v8), .pv (.int .i64 v9)])], [], [(0, 1)]⟩⟩
noncomputable def L56_1101451104116 (l1 : List PV) (v : List PV) (i1 : Int) (b : Bool) (v2 : Int) (v3 : Int) (v4 : List UInt8) (v5 : List PV) (v6 : List PV) (v7 : List PV) (v8 : List PV) (v9 : Int) : Option Out := LV Pr T 56 [1, 1, 0, 1, 4, 5, 1, 1, 0, 4, 1, 1, 6] (st56_1101451104116 l1 v i1 b v2 v3 v4 v5 v6 v7 v8 v9)
theorem e56 (e_Kind : Int) (e_Num : Int) (e_Text : List UInt8) (e_Names : List PV) (e_Types : List PV) (e_Args : List PV) (e_Arms : List PV) (e_At : Int) : V 56 [.pv (.agg [.int .i64 e_Kind, .int .i64 e_Num, .str e_Text, .lst e_Names, .lst e_Types, .lst e_Args, .lst e_Arms, .int .i64 e_At])] =
  ((V 50 [.pv (.agg [.int .i64 e_Kind, .int .i64 e_Num, .str e_Text, .lst e_Names, .lst e_Types, .lst e_Args, .lst e_Arms, .int .i64 e_At])]).bind retPV).bind fun r =>
    (bif (Sh.lst).fits r then
      L56_11014 [] r.toLst 0
    else none) :=
  (V_eq pa rfl _).trans (by kernel_rfl)
theorem e56_11014 (l : List PV) (v : List PV) (i : Int) : L56_11014 l v i =
  bif decide (i < (v.length : Int)) then
    bif decide (0 ≤ i) then
      (v[i.toNat]?).bind fun x =>
        (bif (Sh.agg [Sh.int .i64, Sh.int .i64, Sh.str, Sh.lst, Sh.lst, Sh.lst, Sh.lst, Sh.int .i64]).fits x then
          bif (((x.c 0).toInt) == (9 : Int)) then
            ((V 55 [.pv (.lst l), .pv (.str ((x.c 2).toStr))]).bind retPV).bind fun r =>
              (bif (Sh.bool).fits r then
                L56_1101451104116 l v i (!r.toBool) ((x.c 0).toInt) ((x.c 1).toInt) ((x.c 2).toStr) ((x.c 3).toLst) ((x.c 4).toLst) ((x.c 5).toLst) ((x.c 6).toLst) ((x.c 7).toInt)
              else none)
          else L56_1101451104116 l v i false ((x.c 0).toInt) ((x.c 1).toInt) ((x.c 2).toStr) ((x.c 3).toLst) ((x.c 4).toLst) ((x.c 5).toLst) ((x.c 6).toLst) ((x.c 7).toInt)
        else none)
    else none
  else some (.bld 1 l, []) :=
  (LV_eq pa 56 _ _).trans (by kernel_rfl)
theorem e56_1101451104116 (l1 : List PV) (v : List PV) (i1 : Int) (b : Bool) (v2 : Int) (v3 : Int) (v4 : List UInt8) (v5 : List PV) (v6 : List PV) (v7 : List PV) (v8 : List PV) (v9 : Int) : L56_1101451104116 l1 v i1 b v2 v3 v4 v5 v6 v7 v8 v9 =
  bif b then
    bif small (l1.length) 1 16 then
      L56_11014 (l1 ++ [.str v4]) v (IntKind.i64.wrap (i1 + (1 : Int)))
    else none
  else L56_11014 l1 v (IntKind.i64.wrap (i1 + (1 : Int))) :=
  (LV_eq pa 56 _ _).trans (by kernel_rfl)
/-! 88 roadstead/effect.Funs -/
def st88_11014 (l : List PV) (p_Impls : List PV) (i : Int) (p_Name : List UInt8) (p_Version : Int) (p_Uses : List PV) (p_Datas : List PV) (p_Traits : List PV) (p_Funcs : List PV) (p_Actors : List PV) : AS :=
  ⟨[.any, .box 0 0, .any, .bld 0 0 l, .any, .any, .any, .pv (.lst p_Impls), .pv (.int .i64 (p_Impls.length : Int)), .pv (.int .i64 i), .any, .any, .any, .any, .any, .any, .any, .any, .any, .any, .any, .any], ⟨[(false, [.pv (.str p_Name), .pv (.int .i64 p_Version), .pv (.lst p_Uses), .pv (.lst p_Datas), .pv (.lst p_Traits), .pv (.lst p_Impls), .pv (.lst p_Funcs), .pv (.lst p_Actors)])], [], [(0, 15)]⟩⟩
noncomputable def L88_11014 (l : List PV) (p_Impls : List PV) (i : Int) (p_Name : List UInt8) (p_Version : Int) (p_Uses : List PV) (p_Datas : List PV) (p_Traits : List PV) (p_Funcs : List PV) (p_Actors : List PV) : Option Out := LV Pr T 88 [1, 1, 0, 1, 4] (st88_11014 l p_Impls i p_Name p_Version p_Uses p_Datas p_Traits p_Funcs p_Actors)
theorem e88 (p_Name : List UInt8) (p_Version : Int) (p_Uses : List PV) (p_Datas : List PV) (p_Traits : List PV) (p_Impls : List PV) (p_Funcs : List PV) (p_Actors : List PV) : V 88 [.pv (.agg [.str p_Name, .int .i64 p_Version, .lst p_Uses, .lst p_Datas, .lst p_Traits, .lst p_Impls, .lst p_Funcs, .lst p_Actors])] =
  L88_11014 [] p_Impls 0 p_Name p_Version p_Uses p_Datas p_Traits p_Funcs p_Actors :=
  (V_eq pa rfl _).trans (by kernel_rfl)
theorem e88_11014 (l : List PV) (p_Impls : List PV) (i : Int) (p_Name : List UInt8) (p_Version : Int) (p_Uses : List PV) (p_Datas : List PV) (p_Traits : List PV) (p_Funcs : List PV) (p_Actors : List PV) : L88_11014 l p_Impls i p_Name p_Version p_Uses p_Datas p_Traits p_Funcs p_Actors =
  bif decide (i < (p_Impls.length : Int)) then
    bif decide (0 ≤ i) then
      (p_Impls[i.toNat]?).bind fun x =>
        (bif (Sh.agg [Sh.str, Sh.str, Sh.lst]).fits x then
          bif headOk 15 (x.c 2).toLst then
            bif small (l.length) ((x.c 2).toLst.length) 272 then
              L88_11014 (l ++ (x.c 2).toLst) p_Impls (IntKind.i64.wrap (i + (1 : Int))) p_Name p_Version p_Uses p_Datas p_Traits p_Funcs p_Actors
            else none
          else none
        else none)
    else none
  else bif headOk 15 p_Funcs then
    bif small (l.length) (p_Funcs.length) 272 then
      some (.bld 15 (l ++ p_Funcs), [])
    else none
  else none :=
  (LV_eq pa 88 _ _).trans (by kernel_rfl)
/-! 89 roadstead/effect.once -/
def st89_11014 (has : List PV) (any : Int) (v : Int) (v1 : List PV) (i : Int) (p_Name : List UInt8) (p_Version : Int) (p_Uses : List PV) (p_Datas : List PV) (p_Traits : List PV) (p_Impls : List PV) (p_Funcs : List PV) (p_Actors : List PV) (e_Kind : Int) (e_Num : Int) (e_Text : List UInt8) (e_Names : List PV) (e_Types : List PV) (e_Args : List PV) (e_Arms : List PV) (e_At : Int) : AS :=
  ⟨[.any, .any, .pv (.lst has), .pv (.int .i64 any), .any, .box 1 0, .any, .any, .any, .pv (.int .i64 v), .any, .any, .any, .any, .any, .pv (.lst v1), .pv (.int .i64 (v1.length : Int)), .pv (.int .i64 i), .any, .any, .any, .any, .any, .any, .any, .any, .any, .any, .any, .any, .any, .any, .any, .any, .any, .any, .any, .any, .any, .any], ⟨[(false, [.pv (.str p_Name), .pv (.int .i64 p_Version), .pv (.lst p_Uses), .pv (.lst p_Datas), .pv (.lst p_Traits), .pv (.lst p_Impls), .pv (.lst p_Funcs), .pv (.lst p_Actors)]), (false, [.pv (.int .i64 e_Kind), .pv (.int .i64 e_Num), .pv (.str e_Text), .pv (.lst e_Names), .pv (.lst e_Types), .pv (.lst e_Args), .pv (.lst e_Arms), .pv (.int .i64 e_At)])], [], []⟩⟩
noncomputable def L89_11014 (has : List PV) (any : Int) (v : Int) (v1 : List PV) (i : Int) (p_Name : List UInt8) (p_Version : Int) (p_Uses : List PV) (p_Datas : List PV) (p_Traits : List PV) (p_Impls : List PV) (p_Funcs : List PV) (p_Actors : List PV) (e_Kind : Int) (e_Num : Int) (e_Text : List UInt8) (e_Names : List PV) (e_Types : List PV) (e_Args : List PV) (e_Arms : List PV) (e_At : Int) : Option Out := LV Pr T 89 [1, 1, 0, 1, 4] (st89_11014 has any v v1 i p_Name p_Version p_Uses p_Datas p_Traits p_Impls p_Funcs p_Actors e_Kind e_Num e_Text e_Names e_Types e_Args e_Arms e_At)
theorem e89 (p_Name : List UInt8) (p_Version : Int) (p_Uses : List PV) (p_Datas : List PV) (p_Traits : List PV) (p_Impls : List PV) (p_Funcs : List PV) (p_Actors : List PV) (e_Kind : Int) (e_Num : Int) (e_Text : List UInt8) (e_Names : List PV) (e_Types : List PV) (e_Args : List PV) (e_Arms : List PV) (e_At : Int) (has : List PV) (any : Int) : V 89 [.pv (.agg [.str p_Name, .int .i64 p_Version, .lst p_Uses, .lst p_Datas, .lst p_Traits, .lst p_Impls, .lst p_Funcs, .lst p_Actors]), .pv (.agg [.int .i64 e_Kind, .int .i64 e_Num, .str e_Text, .lst e_Names, .lst e_Types, .lst e_Args, .lst e_Arms, .int .i64 e_At]), .pv (.lst has), .pv (.int .i64 any)] =
  ((V 54 [.pv (.agg [.int .i64 e_Kind, .int .i64 e_Num, .str e_Text, .lst e_Names, .lst e_Types, .lst e_Args, .lst e_Arms, .int .i64 e_At])]).bind retPV).bind fun r =>
    (bif (Sh.int .i64).fits r then
      ((V 88 [.pv (.agg [.str p_Name, .int .i64 p_Version, .lst p_Uses, .lst p_Datas, .lst p_Traits, .lst p_Impls, .lst p_Funcs, .lst p_Actors])]).bind retPV).bind fun r1 =>
        (bif (Sh.lst).fits r1 then
          L89_11014 has any r.toInt r1.toLst 0 p_Name p_Version p_Uses p_Datas p_Traits p_Impls p_Funcs p_Actors e_Kind e_Num e_Text e_Names e_Types e_Args e_Arms e_At
        else none)
    else none) :=
  (V_eq pa rfl _).trans (by kernel_rfl)
theorem e89_11014 (has : List PV) (any : Int) (v : Int) (v1 : List PV) (i : Int) (p_Name : List UInt8) (p_Version : Int) (p_Uses : List PV) (p_Datas : List PV) (p_Traits : List PV) (p_Impls : List PV) (p_Funcs : List PV) (p_Actors : List PV) (e_Kind : Int) (e_Num : Int) (e_Text : List UInt8) (e_Names : List PV) (e_Types : List PV) (e_Args : List PV) (e_Arms : List PV) (e_At : Int) : L89_11014 has any v v1 i p_Name p_Version p_Uses p_Datas p_Traits p_Impls p_Funcs p_Actors e_Kind e_Num e_Text e_Names e_Types e_Args e_Arms e_At =
  bif decide (i < (v1.length : Int)) then
    bif decide (0 ≤ i) then
      (v1[i.toNat]?).bind fun x =>
        (bif (Sh.agg [Sh.str, Sh.lst, Sh.lst, Sh.lst, Sh.int .i64, Sh.str, Sh.lst, Sh.int .i64, Sh.int .i64, Sh.str, Sh.lst, Sh.lst, Sh.lst, Sh.lst, Sh.int .i64]).fits x then
          ((V 56 [.pv (.agg [.int .i64 e_Kind, .int .i64 e_Num, .str e_Text, .lst e_Names, .lst e_Types, .lst e_Args, .lst e_Arms, .int .i64 e_At])]).bind retPV).bind fun r =>
            (bif (Sh.lst).fits r then
              ((V 55 [.pv (.lst r.toLst), .pv (.str ((x.c 0).toStr))]).bind retPV).bind fun r1 =>
                (bif (Sh.bool).fits r1 then
                  bif r1.toBool then
                    bif decide (0 ≤ i) then
                      (has[i.toNat]?).bind fun x1 =>
                        (bif (Sh.int .i64).fits x1 then
                          L89_11014 has any (IntKind.i64.wrap (BitVec.ofInt (IntKind.bits .i64) v ||| BitVec.ofInt (IntKind.bits .i64) (x1.toInt)).toNat) v1 (IntKind.i64.wrap (i + (1 : Int))) p_Name p_Version p_Uses p_Datas p_Traits p_Impls p_Funcs p_Actors e_Kind e_Num e_Text e_Names e_Types e_Args e_Arms e_At
                        else none)
                    else none
                  else L89_11014 has any v v1 (IntKind.i64.wrap (i + (1 : Int))) p_Name p_Version p_Uses p_Datas p_Traits p_Impls p_Funcs p_Actors e_Kind e_Num e_Text e_Names e_Types e_Args e_Arms e_At
                else none)
            else none)
        else none)
    else none
  else ((V 107 [.pv (.agg [.int .i64 e_Kind, .int .i64 e_Num, .str e_Text, .lst e_Names, .lst e_Types, .lst e_Args, .lst e_Arms, .int .i64 e_At])]).bind retPV).bind fun r2 =>
    (bif (Sh.bool).fits r2 then
      bif r2.toBool then
        some (.pv (.int .i64 (IntKind.i64.wrap (BitVec.ofInt (IntKind.bits .i64) v ||| BitVec.ofInt (IntKind.bits .i64) any).toNat)), [])
      else some (.pv (.int .i64 v), [])
    else none) :=
  (LV_eq pa 89 _ _).trans (by kernel_rfl)
/-! 90 roadstead/tree.Bodies -/
def st90_11014 (l1 : List PV) (p_Impls : List PV) (i : Int) (p_Name : List UInt8) (p_Version : Int) (p_Uses : List PV) (p_Datas : List PV) (p_Traits : List PV) (p_Funcs : List PV) (p_Actors : List PV) : AS :=
  ⟨[.any, .box 0 0, .any, .bld 0 0 l1, .any, .any, .any, .any, .any, .any, .any, .any, .any, .pv (.lst p_Impls), .pv (.int .i64 (p_Impls.length : Int)), .pv (.int .i64 i), .any, .any, .any, .any, .any, .any, .any, .any, .any, .any, .any, .any, .any, .any, .any, .any, .any, .any, .any, .any, .any, .any, .any, .any, .any, .any, .any, .any, .any, .any, .any, .any, .any, .any, .any, .any, .any, .any, .any, .any, .any, .any, .any, .any], ⟨[(false, [.pv (.str p_Name), .pv (.int .i64 p_Version), .pv (.lst p_Uses), .pv (.lst p_Datas), .pv (.lst p_Traits), .pv (.lst p_Impls), .pv (.lst p_Funcs), .pv (.lst p_Actors)])], [], [(0, 8)]⟩⟩
noncomputable def L90_11014 (l1 : List PV) (p_Impls : List PV) (i : Int) (p_Name : List UInt8) (p_Version : Int) (p_Uses : List PV) (p_Datas : List PV) (p_Traits : List PV) (p_Funcs : List PV) (p_Actors : List PV) : Option Out := LV Pr T 90 [1, 1, 0, 1, 4] (st90_11014 l1 p_Impls i p_Name p_Version p_Uses p_Datas p_Traits p_Funcs p_Actors)
def st90_1101451104114 (l : List PV) (p_Impls : List PV) (i1 : Int) (v : List PV) (i : Int) (p_Name : List UInt8) (p_Version : Int) (p_Uses : List PV) (p_Datas : List PV) (p_Traits : List PV) (p_Funcs : List PV) (p_Actors : List PV) : AS :=
  ⟨[.any, .box 0 0, .any, .bld 0 0 l, .any, .any, .any, .any, .any, .any, .any, .any, .any, .pv (.lst p_Impls), .pv (.int .i64 (p_Impls.length : Int)), .pv (.int .i64 i1), .any, .any, .any, .any, .pv (.lst v), .pv (.int .i64 (v.length : Int)), .pv (.int .i64 i), .any, .any, .any, .any, .any, .any, .any, .any, .any, .any, .any, .any, .any, .any, .any, .any, .any, .any, .any, .any, .any, .any, .any, .any, .any, .any, .any, .any, .any, .any, .any, .any, .any, .any, .any, .any, .any], ⟨[(false, [.pv (.str p_Name), .pv (.int .i64 p_Version), .pv (.lst p_Uses), .pv (.lst p_Datas), .pv (.lst p_Traits), .pv (.lst p_Impls), .pv (.lst p_Funcs), .pv (.lst p_Actors)])], [], [(0, 8)]⟩⟩
noncomputable def L90_1101451104114 (l : List PV) (p_Impls : List PV) (i1 : Int) (v : List PV) (i : Int) (p_Name : List UInt8) (p_Version : Int) (p_Uses : List PV) (p_Datas : List PV) (p_Traits : List PV) (p_Funcs : List PV) (p_Actors : List PV) : Option Out := LV Pr T 90 [1, 1, 0, 1, 4, 5, 1, 1, 0, 4, 1, 1, 4] (st90_1101451104114 l p_Impls i1 v i p_Name p_Version p_Uses p_Datas p_Traits p_Funcs p_Actors)
def st90_111014 (l : List PV) (p_Funcs : List PV) (i : Int) (p_Name : List UInt8) (p_Version : Int) (p_Uses : List PV) (p_Datas : List PV) (p_Traits : List PV) (p_Impls : List PV) (p_Actors : List PV) : AS :=
  ⟨[.any, .box 0 0, .any, .bld 0 0 l, .any, .any, .any, .any, .any, .any, .any, .any, .any, .any, .any, .any, .any, .any, .any, .any, .any, .any, .any, .any, .any, .any, .any, .any, .any, .any, .any, .any, .any, .any, .pv (.lst p_Funcs), .pv (.int .i64 (p_Funcs.length : Int)), .pv (.int .i64 i), .any, .any, .any, .any, .any, .any, .any, .any, .any, .any, .any, .any, .any, .any, .any, .any, .any, .any, .any, .any, .any, .any, .any], ⟨[(false, [.pv (.str p_Name), .pv (.int .i64 p_Version), .pv (.lst p_Uses), .pv (.lst p_Datas), .pv (.lst p_Traits), .pv (.lst p_Impls), .pv (.lst p_Funcs), .pv (.lst p_Actors)])], [], [(0, 8)]⟩⟩
noncomputable def L90_111014 (l : List PV) (p_Funcs : List PV) (i : Int) (p_Name : List UInt8) (p_Version : Int) (p_Uses : List PV) (p_Datas : List PV) (p_Traits : List PV) (p_Impls : List PV) (p_Actors : List PV) : Option Out := LV Pr T 90 [1, 1, 1, 0, 1, 4] (st90_111014 l p_Funcs i p_Name p_Version p_Uses p_Datas p_Traits p_Impls p_Actors)
def st90_1111014 (l : List PV) (p_Actors : List PV) (i : Int) : AS :=
  ⟨[.any, .any, .any, .bld 0 0 l, .any, .any, .any, .any, .any, .any, .any, .any, .any, .any, .any, .any, .any, .any, .any, .any, .any, .any, .any, .any, .any, .any, .any, .any, .any, .any, .any, .any, .any, .any, .any, .any, .any, .any, .any, .any, .any, .any, .any, .any, .any, .any, .any, .pv (.lst p_Actors), .pv (.int .i64 (p_Actors.length : Int)), .pv (.int .i64 i), .any, .any, .any, .any, .any, .any, .any, .any, .any, .any], ⟨[], [], [(0, 8)]⟩⟩
noncomputable def L90_1111014 (l : List PV) (p_Actors : List PV) (i : Int) : Option Out := LV Pr T 90 [1, 1, 1, 1, 0, 1, 4] (st90_1111014 l p_Actors i)
theorem e90 (p_Name : List UInt8) (p_Version : Int) (p_Uses : List PV) (p_Datas : List PV) (p_Traits : List PV) (p_Impls : List PV) (p_Funcs : List PV) (p_Actors : List PV) : V 90 [.pv (.agg [.str p_Name, .int .i64 p_Version, .lst p_Uses, .lst p_Datas, .lst p_Traits, .lst p_Impls, .lst p_Funcs, .lst p_Actors])] =
  L90_11014 [] p_Impls 0 p_Name p_Version p_Uses p_Datas p_Traits p_Funcs p_Actors :=
  (V_eq pa rfl _).trans (by kernel_rfl)
theorem e90_11014 (l1 : List PV) (p_Impls : List PV) (i : Int) (p_Name : List UInt8) (p_Version : Int) (p_Uses : List PV) (p_Datas : List PV) (p_Traits : List PV) (p_Funcs : List PV) (p_Actors : List PV) : L90_11014 l1 p_Impls i p_Name p_Version p_Uses p_Datas p_Traits p_Funcs p_Actors =
  bif decide (i < (p_Impls.length : Int)) then
    bif decide (0 ≤ i) then
      (p_Impls[i.toNat]?).bind fun x =>
        (bif (Sh.agg [Sh.str, Sh.str, Sh.lst]).fits x then
          L90_1101451104114 l1 p_Impls i ((x.c 2).toLst) 0 p_Name p_Version p_Uses p_Datas p_Traits p_Funcs p_Actors
        else none)
    else none
  else L90_111014 l1 p_Funcs 0 p_Name p_Version p_Uses p_Datas p_Traits p_Impls p_Actors :=
  (LV_eq pa 90 _ _).trans (by kernel_rfl)
theorem e90_1101451104114 (l : List PV) (p_Impls : List PV) (i1 : Int) (v : List PV) (i : Int) (p_Name : List UInt8) (p_Version : Int) (p_Uses : List PV) (p_Datas : List PV) (p_Traits : List PV) (p_Funcs : List PV) (p_Actors : List PV) : L90_1101451104114 l p_Impls i1 v i p_Name p_Version p_Uses p_Datas p_Traits p_Funcs p_Actors =
  bif decide (i < (v.length : Int)) then
    bif decide (0 ≤ i) then
      (v[i.toNat]?).bind fun x =>
        (bif (Sh.agg [Sh.str, Sh.lst, Sh.lst, Sh.lst, Sh.int .i64, Sh.str, Sh.lst, Sh.int .i64, Sh.int .i64, Sh.str, Sh.lst, Sh.lst, Sh.lst, Sh.lst, Sh.int .i64]).fits x then
          bif small (l.length) 1 136 then
            L90_1101451104114 (l ++ [.agg [.int .i64 ((x.c 7).toInt), .int .i64 ((x.c 8).toInt), .str ((x.c 9).toStr), .lst ((x.c 10).toLst), .lst ((x.c 11).toLst), .lst ((x.c 12).toLst), .lst ((x.c 13).toLst), .int .i64 ((x.c 14).toInt)]]) p_Impls i1 v (IntKind.i64.wrap (i + (1 : Int))) p_Name p_Version p_Uses p_Datas p_Traits p_Funcs p_Actors
          else none
        else none)
    else none
  else L90_11014 l p_Impls (IntKind.i64.wrap (i1 + (1 : Int))) p_Name p_Version p_Uses p_Datas p_Traits p_Funcs p_Actors :=
  (LV_eq pa 90 _ _).trans (by kernel_rfl)
theorem e90_111014 (l : List PV) (p_Funcs : List PV) (i : Int) (p_Name : List UInt8) (p_Version : Int) (p_Uses : List PV) (p_Datas : List PV) (p_Traits : List PV) (p_Impls : List PV) (p_Actors : List PV) : L90_111014 l p_Funcs i p_Name p_Version p_Uses p_Datas p_Traits p_Impls p_Actors =
  bif decide (i < (p_Funcs.length : Int)) then
    bif decide (0 ≤ i) then
      (p_Funcs[i.toNat]?).bind fun x =>
        (bif (Sh.agg [Sh.str, Sh.lst, Sh.lst, Sh.lst, Sh.int .i64, Sh.str, Sh.lst, Sh.int .i64, Sh.int .i64, Sh.str, Sh.lst, Sh.lst, Sh.lst, Sh.lst, Sh.int .i64]).fits x then
          bif small (l.length) 1 136 then
            L90_111014 (l ++ [.agg [.int .i64 ((x.c 7).toInt), .int .i64 ((x.c 8).toInt), .str ((x.c 9).toStr), .lst ((x.c 10).toLst), .lst ((x.c 11).toLst), .lst ((x.c 12).toLst), .lst ((x.c 13).toLst), .int .i64 ((x.c 14).toInt)]]) p_Funcs (IntKind.i64.wrap (i + (1 : Int))) p_Name p_Version p_Uses p_Datas p_Traits p_Impls p_Actors
          else none
        else none)
    else none
  else L90_1111014 l p_Actors 0 :=
  (LV_eq pa 90 _ _).trans (by kernel_rfl)
theorem e90_1111014 (l : List PV) (p_Actors : List PV) (i : Int) : L90_1111014 l p_Actors i =
  bif decide (i < (p_Actors.length : Int)) then
    bif decide (0 ≤ i) then
      (p_Actors[i.toNat]?).bind fun x =>
        (bif (Sh.agg [Sh.str, Sh.lst, Sh.lst, Sh.int .i64, Sh.str, Sh.lst, Sh.int .i64, Sh.int .i64, Sh.str, Sh.lst, Sh.lst, Sh.lst, Sh.lst, Sh.int .i64]).fits x then
          bif small (l.length) 1 136 then
            L90_1111014 (l ++ [.agg [.int .i64 ((x.c 6).toInt), .int .i64 ((x.c 7).toInt), .str ((x.c 8).toStr), .lst ((x.c 9).toLst), .lst ((x.c 10).toLst), .lst ((x.c 11).toLst), .lst ((x.c 12).toLst), .int .i64 ((x.c 13).toInt)]]) p_Actors (IntKind.i64.wrap (i + (1 : Int)))
          else none
        else none)
    else none
  else some (.bld 8 l, []) :=
  (LV_eq pa 90 _ _).trans (by kernel_rfl)
/-! 107 roadstead/effect.applies -/
theorem e107 (e_Kind : Int) (e_Num : Int) (e_Text : List UInt8) (e_Names : List PV) (e_Types : List PV) (e_Args : List PV) (e_Arms : List PV) (e_At : Int) : V 107 [.pv (.agg [.int .i64 e_Kind, .int .i64 e_Num, .str e_Text, .lst e_Names, .lst e_Types, .lst e_Args, .lst e_Arms, .int .i64 e_At])] =
  ((V 50 [.pv (.agg [.int .i64 e_Kind, .int .i64 e_Num, .str e_Text, .lst e_Names, .lst e_Types, .lst e_Args, .lst e_Arms, .int .i64 e_At])]).bind retPV).bind fun r =>
    (bif (Sh.lst).fits r then
      ((V 113 [.pv (.lst r.toLst), .pv (.fn 114 [])]).bind retPV).bind fun r1 =>
        (bif (Sh.bool).fits r1 then
          some (.pv (.bool r1.toBool), [])
        else none)
    else none) :=
  (V_eq pa rfl _).trans (by kernel_rfl)
/-! 113 slices.ContainsFunc[[]roadstead/api.Expr,roadstead/api.Expr] -/
theorem e113 (s : List PV) (f_f : FuncId) (f_c : List PV) : V 113 [.pv (.lst s), .pv (.fn f_f f_c)] =
  ((V 115 [.pv (.lst s), .pv (.fn f_f f_c)]).bind retPV).bind fun r =>
    (bif (Sh.int .i64).fits r then
      some (.pv (.bool (decide ((r.toInt) ≥ (0 : Int)))), [])
    else none) :=
  (V_eq pa rfl _).trans (by kernel_rfl)
/-! 114 roadstead/effect.applies$1 -/
theorem e114 (x_Kind : Int) (x_Num : Int) (x_Text : List UInt8) (x_Names : List PV) (x_Types : List PV) (x_Args : List PV) (x_Arms : List PV) (x_At : Int) : V 114 [.pv (.agg [.int .i64 x_Kind, .int .i64 x_Num, .str x_Text, .lst x_Names, .lst x_Types, .lst x_Args, .lst x_Arms, .int .i64 x_At])] =
  some (.pv (.bool (x_Kind == (11 : Int))), []) :=
  (V_eq pa rfl _).trans (by kernel_rfl)
/-! 115 slices.IndexFunc[[]roadstead/api.Expr,roadstead/api.Expr] -/
def st115_1014 (s : List PV) (f_f : FuncId) (f_c : List PV) (i : Int) : AS :=
  ⟨[.pv (.lst s), .pv (.fn f_f f_c), .any, .any, .any, .any, .any, .pv (.int .i64 (s.length : Int)), .pv (.int .i64 i), .any, .any, .any, .any, .any, .any, .any, .any, .any, .any], ⟨[], [], []⟩⟩
noncomputable def L115_1014 (s : List PV) (f_f : FuncId) (f_c : List PV) (i : Int) : Option Out := LV Pr T 115 [1, 0, 1, 4] (st115_1014 s f_f f_c i)
theorem e115 (s : List PV) (f_f : FuncId) (f_c : List PV) : V 115 [.pv (.lst s), .pv (.fn f_f f_c)] =
  L115_1014 s f_f f_c 0 :=
  (V_eq pa rfl _).trans (by kernel_rfl)
theorem e115_1014 (s : List PV) (f_f : FuncId) (f_c : List PV) (i : Int) : L115_1014 s f_f f_c i =
  bif decide (i < (s.length : Int)) then
    bif decide (0 ≤ i) then
      (s[i.toNat]?).bind fun x =>
        (bif (Sh.agg [Sh.int .i64, Sh.int .i64, Sh.str, Sh.lst, Sh.lst, Sh.lst, Sh.lst, Sh.int .i64]).fits x then
          ((V f_f ((([.agg [.int .i64 ((x.c 0).toInt), .int .i64 ((x.c 1).toInt), .str ((x.c 2).toStr), .lst ((x.c 3).toLst), .lst ((x.c 4).toLst), .lst ((x.c 5).toLst), .lst ((x.c 6).toLst), .int .i64 ((x.c 7).toInt)]] : List PV) ++ f_c).map .pv)).bind retPV).bind fun r =>
            (bif (Sh.bool).fits r then
              bif r.toBool then
                some (.pv (.int .i64 i), [])
              else L115_1014 s f_f f_c (IntKind.i64.wrap (i + (1 : Int)))
            else none)
        else none)
    else none
  else some (.pv (.int .i64 (-1)), []) :=
  (LV_eq pa 115 _ _).trans (by kernel_rfl)
end Go.AL.S1
