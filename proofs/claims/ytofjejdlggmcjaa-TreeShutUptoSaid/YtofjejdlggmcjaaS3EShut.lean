/- Equations of functions in the abstract machine: printed by gen.py. -/
import Derived.Test.YtofjejdlggmcjaaS3T
set_option linter.unusedVariables false
set_option maxRecDepth 100000
namespace Go.AL.S3
open Go Go.AL
/-! 16 roadstead/roadkeep2.TreeShut -/
theorem e16 (e_Kind : Int) (e_Num : Int) (e_Text : List UInt8) (e_Names : List PV) (e_Types : List PV) (e_Args : List PV) (e_Arms : List PV) (e_At : Int) (name : List UInt8) : V 16 [.pv (.agg [.int .i64 e_Kind, .int .i64 e_Num, .str e_Text, .lst e_Names, .lst e_Types, .lst e_Args, .lst e_Arms, .int .i64 e_At]), .pv (.str name)] =
  ((V 43 [.pv (.agg [.int .i64 e_Kind, .int .i64 e_Num, .str e_Text, .lst e_Names, .lst e_Types, .lst e_Args, .lst e_Arms, .int .i64 e_At])]).bind retPV).bind fun r =>
    (bif (Sh.int .i64).fits r then
      bif decide ((r.toInt) > (400 : Int)) then
        some (.pv (.bool true), [])
      else ((V 47 []).bind retPV).bind fun r1 =>
        (bif (Sh.bool).fits r1 then
          bif (!r1.toBool) then
            some (.pv (.bool false), [])
          else ((V 57 [.pv (.agg [.int .i64 6, .int .i64 0, .str name, .lst [], .lst [], .lst [.agg [.int .i64 1, .int .i64 0, .str [], .lst [], .lst [], .lst [], .lst [], .int .i64 0], .agg [.int .i64 e_Kind, .int .i64 e_Num, .str e_Text, .lst e_Names, .lst e_Types, .lst e_Args, .lst e_Arms, .int .i64 e_At]], .lst [], .int .i64 0])]).bind retPV).bind fun r2 =>
            (bif (Sh.lst).fits r2 then
              ((V 57 [.pv (.agg [.int .i64 e_Kind, .int .i64 e_Num, .str e_Text, .lst e_Names, .lst e_Types, .lst e_Args, .lst e_Arms, .int .i64 e_At])]).bind retPV).bind fun r3 =>
                (bif (Sh.lst).fits r3 then
                  (V 40 [.pv (.lst r3.toLst)]).bind fun r4 =>
                    ((retV 1 r4).bind fun l =>
                      ((V 58 [.vec 1 l, .pv (.fn 59 [.ptr [.str name]])]).bind fun r5 =>
                        (bif refFits [] [0] r5.2 then
                          (retW r5).bind fun q =>
                            (bif (Nat.ble q.1 q.2 && Nat.ble q.2 (Out.v r5 0).length) then
                              (V 60 [.pv (.lst r2.toLst), .pv (.lst (((Out.v r5 0).take q.2).drop q.1))]).bind fun r6 =>
                                ((retPV r6).bind fun r7 =>
                                  (bif (Sh.bool).fits r7 then
                                    some (.pv (.bool r7.toBool), [])
                                  else none))
                            else none)
                        else none)))
                else none)
            else none)
        else none)
    else none) :=
  (V_eq pa rfl _).trans (by kernel_rfl)
/-! 43 roadstead/roadref2.SizeOf -/
def st43_11014 (i : Int) (v : List PV) (i1 : Int) : AS :=
  ⟨[.any, .any, .any, .pv (.int .i64 i), .any, .any, .any, .any, .any, .pv (.lst v), .pv (.int .i64 (v.length : Int)), .pv (.int .i64 i1), .any, .any, .any, .any, .any, .any, .any, .any, .any, .any, .any, .any, .any, .any, .any, .any, .any, .any, .any, .any, .any], ⟨[], [], [], 0, 0⟩⟩
noncomputable def L43_11014 (i : Int) (v : List PV) (i1 : Int) : Option Out := LV Pr T 43 [1, 1, 0, 1, 4] (st43_11014 i v i1)
def st43_11014511041114 (i : Int) (v : List PV) (i2 : Int) (v1 : List PV) (i1 : Int) : AS :=
  ⟨[.any, .any, .any, .pv (.int .i64 i), .any, .any, .any, .any, .any, .pv (.lst v), .pv (.int .i64 (v.length : Int)), .pv (.int .i64 i2), .any, .any, .any, .any, .any, .any, .pv (.lst v1), .pv (.int .i64 (v1.length : Int)), .pv (.int .i64 i1), .any, .any, .any, .any, .any, .any, .any, .any, .any, .any, .any, .any], ⟨[], [], [], 0, 0⟩⟩
noncomputable def L43_11014511041114 (i : Int) (v : List PV) (i2 : Int) (v1 : List PV) (i1 : Int) : Option Out := LV Pr T 43 [1, 1, 0, 1, 4, 5, 1, 1, 0, 4, 1, 1, 1, 4] (st43_11014511041114 i v i2 v1 i1)
theorem e43 (e_Kind : Int) (e_Num : Int) (e_Text : List UInt8) (e_Names : List PV) (e_Types : List PV) (e_Args : List PV) (e_Arms : List PV) (e_At : Int) : V 43 [.pv (.agg [.int .i64 e_Kind, .int .i64 e_Num, .str e_Text, .lst e_Names, .lst e_Types, .lst e_Args, .lst e_Arms, .int .i64 e_At])] =
  ((V 86 [.pv (.agg [.int .i64 e_Kind, .int .i64 e_Num, .str e_Text, .lst e_Names, .lst e_Types, .lst e_Args, .lst e_Arms, .int .i64 e_At])]).bind retPV).bind fun r =>
    (bif (Sh.lst).fits r then
      L43_11014 0 r.toLst 0
    else none) :=
  (V_eq pa rfl _).trans (by kernel_rfl)
theorem e43_11014 (i : Int) (v : List PV) (i1 : Int) : L43_11014 i v i1 =
  bif decide (i1 < (v.length : Int)) then
    bif decide (0 ≤ i1) then
      (v[i1.toNat]?).bind fun x =>
        (bif (Sh.agg [Sh.int .i64, Sh.int .i64, Sh.str, Sh.lst, Sh.lst, Sh.lst, Sh.lst, Sh.int .i64]).fits x then
          L43_11014511041114 (IntKind.i64.wrap (i + (1 : Int))) v i1 ((x.c 6).toLst) 0
        else none)
    else none
  else some (.pv (.int .i64 i), []) :=
  (LV_eq pa 43 _ _).trans (by kernel_rfl)
theorem e43_11014511041114 (i : Int) (v : List PV) (i2 : Int) (v1 : List PV) (i1 : Int) : L43_11014511041114 i v i2 v1 i1 =
  bif decide (i1 < (v1.length : Int)) then
    bif decide (0 ≤ i1) then
      (v1[i1.toNat]?).bind fun x =>
        (bif (Sh.agg [Sh.int .i64, Sh.int .i64, Sh.str, Sh.lst, Sh.int .i64, Sh.int .i64, Sh.str, Sh.lst, Sh.lst, Sh.lst, Sh.lst, Sh.int .i64]).fits x then
          ((V 87 [.pv (.agg [.int .i64 ((x.c 0).toInt), .int .i64 ((x.c 1).toInt), .str ((x.c 2).toStr), .lst ((x.c 3).toLst)])]).bind retPV).bind fun r =>
            (bif (Sh.lst).fits r then
              L43_11014511041114 (IntKind.i64.wrap (i + (r.toLst.length : Int))) v i2 v1 (IntKind.i64.wrap (i1 + (1 : Int)))
            else none)
        else none)
    else none
  else L43_11014 i v (IntKind.i64.wrap (i2 + (1 : Int))) :=
  (LV_eq pa 43 _ _).trans (by kernel_rfl)
/-! 47 roadstead/roadkeep2.walks -/
theorem e47  : V 47 [] =
  ((V 49 [.pv (.agg [.int .i64 6, .int .i64 0, .str [120], .lst [], .lst [], .lst [.agg [.int .i64 2, .int .i64 0, .str [], .lst [], .lst [], .lst [], .lst [], .int .i64 0], .agg [.int .i64 5, .int .i64 0, .str [121], .lst [], .lst [], .lst [], .lst [], .int .i64 0]], .lst [], .int .i64 0])]).bind retPV).bind fun r =>
    (bif (Sh.int .i64).fits r then
      bif ((r.toInt) == (3 : Int)) then
        ((V 50 [.pv (.agg [.int .i64 6, .int .i64 0, .str [120], .lst [], .lst [], .lst [.agg [.int .i64 2, .int .i64 0, .str [], .lst [], .lst [], .lst [], .lst [], .int .i64 0], .agg [.int .i64 5, .int .i64 0, .str [121], .lst [], .lst [], .lst [], .lst [], .int .i64 0]], .lst [], .int .i64 0])]).bind retPV).bind fun r1 =>
          (bif (Sh.lst).fits r1 then
            bif ((r1.toLst.length : Int) == (3 : Int)) then
              ((V 57 [.pv (.agg [.int .i64 6, .int .i64 0, .str [120], .lst [], .lst [], .lst [.agg [.int .i64 2, .int .i64 0, .str [], .lst [], .lst [], .lst [], .lst [], .int .i64 0], .agg [.int .i64 5, .int .i64 0, .str [121], .lst [], .lst [], .lst [], .lst [], .int .i64 0]], .lst [], .int .i64 0])]).bind retPV).bind fun r2 =>
                (bif (Sh.lst).fits r2 then
                  ((V 60 [.pv (.lst r2.toLst), .pv (.lst [.str [121]])]).bind retPV).bind fun r3 =>
                    (bif (Sh.bool).fits r3 then
                      some (.pv (.bool r3.toBool), [])
                    else none)
                else none)
            else some (.pv (.bool false), [])
          else none)
      else some (.pv (.bool false), [])
    else none) :=
  (V_eq pa rfl _).trans (by kernel_rfl)
/-! 48 roadstead/tree.Parts -/
def st48_11014 (l : List PV) (e_Arms : List PV) (i : Int) : AS :=
  ⟨[.any, .any, .any, .bld 0 0 l, .any, .any, .any, .any, .any, .any, .pv (.lst e_Arms), .pv (.int .i64 (e_Arms.length : Int)), .pv (.int .i64 i), .any, .any, .any, .any, .any, .any, .any, .any, .any, .any], ⟨[], [], [(0, 8)], 0, 0⟩⟩
noncomputable def L48_11014 (l : List PV) (e_Arms : List PV) (i : Int) : Option Out := LV Pr T 48 [1, 1, 0, 1, 4] (st48_11014 l e_Arms i)
theorem e48 (e_Kind : Int) (e_Num : Int) (e_Text : List UInt8) (e_Names : List PV) (e_Types : List PV) (e_Args : List PV) (e_Arms : List PV) (e_At : Int) : V 48 [.pv (.agg [.int .i64 e_Kind, .int .i64 e_Num, .str e_Text, .lst e_Names, .lst e_Types, .lst e_Args, .lst e_Arms, .int .i64 e_At])] =
  (V 91 [.pv (.lst e_Args)]).bind fun r =>
    ((retB 8 r).bind fun l =>
      (L48_11014 l e_Arms 0)) :=
  (V_eq pa rfl _).trans (by kernel_rfl)
theorem e48_11014 (l : List PV) (e_Arms : List PV) (i : Int) : L48_11014 l e_Arms i =
  bif decide (i < (e_Arms.length : Int)) then
    bif decide (0 ≤ i) then
      (e_Arms[i.toNat]?).bind fun x =>
        (bif (Sh.agg [Sh.int .i64, Sh.int .i64, Sh.str, Sh.lst, Sh.int .i64, Sh.int .i64, Sh.str, Sh.lst, Sh.lst, Sh.lst, Sh.lst, Sh.int .i64]).fits x then
          bif small (l.length) 1 136 then
            L48_11014 (l ++ [.agg [.int .i64 ((x.c 4).toInt), .int .i64 ((x.c 5).toInt), .str ((x.c 6).toStr), .lst ((x.c 7).toLst), .lst ((x.c 8).toLst), .lst ((x.c 9).toLst), .lst ((x.c 10).toLst), .int .i64 ((x.c 11).toInt)]]) e_Arms (IntKind.i64.wrap (i + (1 : Int)))
          else none
        else none)
    else none
  else some (.bld 8 l, []) :=
  (LV_eq pa 48 _ _).trans (by kernel_rfl)
/-! 49 roadstead/tree.Size -/
def st49_11014 (i : Int) (e_Args : List PV) (i1 : Int) (e_Kind : Int) (e_Num : Int) (e_Text : List UInt8) (e_Names : List PV) (e_Types : List PV) (e_Arms : List PV) (e_At : Int) : AS :=
  ⟨[.any, .box 0 0, .any, .pv (.int .i64 i), .any, .any, .any, .any, .any, .pv (.lst e_Args), .pv (.int .i64 (e_Args.length : Int)), .pv (.int .i64 i1), .any, .any, .any, .any, .any, .any, .any, .any, .any, .any, .any, .any, .any, .any, .any, .any, .any, .any, .any, .any, .any, .any, .any, .any, .any, .any], ⟨[(false, [.pv (.int .i64 e_Kind), .pv (.int .i64 e_Num), .pv (.str e_Text), .pv (.lst e_Names), .pv (.lst e_Types), .pv (.lst e_Args), .pv (.lst e_Arms), .pv (.int .i64 e_At)])], [], [], 0, 0⟩⟩
noncomputable def L49_11014 (i : Int) (e_Args : List PV) (i1 : Int) (e_Kind : Int) (e_Num : Int) (e_Text : List UInt8) (e_Names : List PV) (e_Types : List PV) (e_Arms : List PV) (e_At : Int) : Option Out := LV Pr T 49 [1, 1, 0, 1, 4] (st49_11014 i e_Args i1 e_Kind e_Num e_Text e_Names e_Types e_Arms e_At)
def st49_111014 (i1 : Int) (e_Arms : List PV) (i : Int) : AS :=
  ⟨[.any, .any, .any, .pv (.int .i64 i1), .any, .any, .any, .any, .any, .any, .any, .any, .any, .any, .any, .any, .any, .any, .any, .any, .any, .pv (.lst e_Arms), .pv (.int .i64 (e_Arms.length : Int)), .pv (.int .i64 i), .any, .any, .any, .any, .any, .any, .any, .any, .any, .any, .any, .any, .any, .any], ⟨[], [], [], 0, 0⟩⟩
noncomputable def L49_111014 (i1 : Int) (e_Arms : List PV) (i : Int) : Option Out := LV Pr T 49 [1, 1, 1, 0, 1, 4] (st49_111014 i1 e_Arms i)
theorem e49 (e_Kind : Int) (e_Num : Int) (e_Text : List UInt8) (e_Names : List PV) (e_Types : List PV) (e_Args : List PV) (e_Arms : List PV) (e_At : Int) : V 49 [.pv (.agg [.int .i64 e_Kind, .int .i64 e_Num, .str e_Text, .lst e_Names, .lst e_Types, .lst e_Args, .lst e_Arms, .int .i64 e_At])] =
  L49_11014 1 e_Args 0 e_Kind e_Num e_Text e_Names e_Types e_Arms e_At :=
  (V_eq pa rfl _).trans (by kernel_rfl)
theorem e49_11014 (i : Int) (e_Args : List PV) (i1 : Int) (e_Kind : Int) (e_Num : Int) (e_Text : List UInt8) (e_Names : List PV) (e_Types : List PV) (e_Arms : List PV) (e_At : Int) : L49_11014 i e_Args i1 e_Kind e_Num e_Text e_Names e_Types e_Arms e_At =
  bif decide (i1 < (e_Args.length : Int)) then
    bif decide (0 ≤ i1) then
      (e_Args[i1.toNat]?).bind fun x =>
        (bif (Sh.agg [Sh.int .i64, Sh.int .i64, Sh.str, Sh.lst, Sh.lst, Sh.lst, Sh.lst, Sh.int .i64]).fits x then
          ((V 49 [.pv (.agg [.int .i64 ((x.c 0).toInt), .int .i64 ((x.c 1).toInt), .str ((x.c 2).toStr), .lst ((x.c 3).toLst), .lst ((x.c 4).toLst), .lst ((x.c 5).toLst), .lst ((x.c 6).toLst), .int .i64 ((x.c 7).toInt)])]).bind retPV).bind fun r =>
            (bif (Sh.int .i64).fits r then
              L49_11014 (IntKind.i64.wrap (i + (r.toInt))) e_Args (IntKind.i64.wrap (i1 + (1 : Int))) e_Kind e_Num e_Text e_Names e_Types e_Arms e_At
            else none)
        else none)
    else none
  else L49_111014 i e_Arms 0 :=
  (LV_eq pa 49 _ _).trans (by kernel_rfl)
theorem e49_111014 (i1 : Int) (e_Arms : List PV) (i : Int) : L49_111014 i1 e_Arms i =
  bif decide (i < (e_Arms.length : Int)) then
    bif decide (0 ≤ i) then
      (e_Arms[i.toNat]?).bind fun x =>
        (bif (Sh.agg [Sh.int .i64, Sh.int .i64, Sh.str, Sh.lst, Sh.int .i64, Sh.int .i64, Sh.str, Sh.lst, Sh.lst, Sh.lst, Sh.lst, Sh.int .i64]).fits x then
          ((V 49 [.pv (.agg [.int .i64 ((x.c 4).toInt), .int .i64 ((x.c 5).toInt), .str ((x.c 6).toStr), .lst ((x.c 7).toLst), .lst ((x.c 8).toLst), .lst ((x.c 9).toLst), .lst ((x.c 10).toLst), .int .i64 ((x.c 11).toInt)])]).bind retPV).bind fun r =>
            (bif (Sh.int .i64).fits r then
              ((V 92 [.pv (.agg [.int .i64 ((x.c 0).toInt), .int .i64 ((x.c 1).toInt), .str ((x.c 2).toStr), .lst ((x.c 3).toLst)])]).bind retPV).bind fun r1 =>
                (bif (Sh.int .i64).fits r1 then
                  L49_111014 (IntKind.i64.wrap (i1 + (IntKind.i64.wrap ((r.toInt) + (r1.toInt))))) e_Arms (IntKind.i64.wrap (i + (1 : Int)))
                else none)
            else none)
        else none)
    else none
  else some (.pv (.int .i64 i1), []) :=
  (LV_eq pa 49 _ _).trans (by kernel_rfl)
/-! 50 roadstead/tree.Walk -/
def st50_11014 (l : List PV) (v : List PV) (i : Int) : AS :=
  ⟨[.any, .any, .any, .bld 0 0 l, .any, .any, .any, .any, .any, .pv (.lst v), .pv (.int .i64 (v.length : Int)), .pv (.int .i64 i), .any, .any, .any, .any, .any, .any, .any, .any, .any], ⟨[], [], [(0, 8)], 0, 0⟩⟩
noncomputable def L50_11014 (l : List PV) (v : List PV) (i : Int) : Option Out := LV Pr T 50 [1, 1, 0, 1, 4] (st50_11014 l v i)
theorem e50 (e_Kind : Int) (e_Num : Int) (e_Text : List UInt8) (e_Names : List PV) (e_Types : List PV) (e_Args : List PV) (e_Arms : List PV) (e_At : Int) : V 50 [.pv (.agg [.int .i64 e_Kind, .int .i64 e_Num, .str e_Text, .lst e_Names, .lst e_Types, .lst e_Args, .lst e_Arms, .int .i64 e_At])] =
  ((V 48 [.pv (.agg [.int .i64 e_Kind, .int .i64 e_Num, .str e_Text, .lst e_Names, .lst e_Types, .lst e_Args, .lst e_Arms, .int .i64 e_At])]).bind retPV).bind fun r =>
    (bif (Sh.lst).fits r then
      L50_11014 [.agg [.int .i64 e_Kind, .int .i64 e_Num, .str e_Text, .lst e_Names, .lst e_Types, .lst e_Args, .lst e_Arms, .int .i64 e_At]] r.toLst 0
    else none) :=
  (V_eq pa rfl _).trans (by kernel_rfl)
theorem e50_11014 (l : List PV) (v : List PV) (i : Int) : L50_11014 l v i =
  bif decide (i < (v.length : Int)) then
    bif decide (0 ≤ i) then
      (v[i.toNat]?).bind fun x =>
        (bif (Sh.agg [Sh.int .i64, Sh.int .i64, Sh.str, Sh.lst, Sh.lst, Sh.lst, Sh.lst, Sh.int .i64]).fits x then
          ((V 50 [.pv (.agg [.int .i64 ((x.c 0).toInt), .int .i64 ((x.c 1).toInt), .str ((x.c 2).toStr), .lst ((x.c 3).toLst), .lst ((x.c 4).toLst), .lst ((x.c 5).toLst), .lst ((x.c 6).toLst), .int .i64 ((x.c 7).toInt)])]).bind retPV).bind fun r =>
            (bif (Sh.lst).fits r then
              bif headOk 8 r.toLst then
                bif small (l.length) (r.toLst.length) 136 then
                  L50_11014 (l ++ r.toLst) v (IntKind.i64.wrap (i + (1 : Int)))
                else none
              else none
            else none)
        else none)
    else none
  else some (.bld 8 l, []) :=
  (LV_eq pa 50 _ _).trans (by kernel_rfl)
/-! 55 slices.Contains[[]string,string] -/
theorem e55 (s : List PV) (v : List UInt8) : V 55 [.pv (.lst s), .pv (.str v)] =
  ((V 67 [.pv (.lst s), .pv (.str v)]).bind retPV).bind fun r =>
    (bif (Sh.int .i64).fits r then
      some (.pv (.bool (decide ((r.toInt) ≥ (0 : Int)))), [])
    else none) :=
  (V_eq pa rfl _).trans (by kernel_rfl)
/-! 57 roadstead/tree.Free -/
theorem e57 (e_Kind : Int) (e_Num : Int) (e_Text : List UInt8) (e_Names : List PV) (e_Types : List PV) (e_Args : List PV) (e_Arms : List PV) (e_At : Int) : V 57 [.pv (.agg [.int .i64 e_Kind, .int .i64 e_Num, .str e_Text, .lst e_Names, .lst e_Types, .lst e_Args, .lst e_Arms, .int .i64 e_At])] =
  (V 94 [.pv (.agg [.int .i64 e_Kind, .int .i64 e_Num, .str e_Text, .lst e_Names, .lst e_Types, .lst e_Args, .lst e_Arms, .int .i64 e_At]), .pv (.lst []), .bld 1 []]).bind fun r =>
    ((retB 1 r).bind fun l =>
      (some (.bld 1 l, []))) :=
  (V_eq pa rfl _).trans (by kernel_rfl)
/-! 58 slices.DeleteFunc[[]string,string] -/
def st58_111014 (del_f : FuncId) (del_c : List PV) (v : Int) (i : Int) (s : List PV) : AS :=
  ⟨[.vec 0 0, .pv (.fn del_f del_c), .any, .any, .any, .pv (.int .i64 v), .pv (.int .i64 i), .any, .any, .any, .any, .any, .any, .any, .any, .any, .any, .any, .any, .any, .any, .any, .any, .any, .any, .any, .any, .any, .any, .any, .any, .any, .any, .any, .any, .any, .any, .any, .any, .any, .any, .any], ⟨[], [some (0, 1, s)], [], 0, 1⟩⟩
noncomputable def L58_111014 (del_f : FuncId) (del_c : List PV) (v : Int) (i : Int) (s : List PV) : Option Out := LV Pr T 58 [1, 1, 1, 0, 1, 4] (st58_111014 del_f del_c v i s)
theorem e58 (s : List PV) (del_f : FuncId) (del_c : List PV) : V 58 [.vec 1 s, .pv (.fn del_f del_c)] =
  bif ((s.all fun x => Nat.beq x.cells.length 1) && true) then
    (V 95 [.pv (.lst s), .pv (.fn del_f del_c)]).bind fun r =>
      ((retPV r).bind fun r1 =>
        (bif (Sh.int .i64).fits r1 then
          bif ((r1.toInt) == (-1 : Int)) then
            some (.box [.int .i64 ((0 : Nat) : Int), .int .i64 (((s.length) : Nat) : Int)], [.vec s])
          else L58_111014 del_f del_c r1.toInt (IntKind.i64.wrap ((r1.toInt) + (1 : Int))) s
        else none))
  else none :=
  (V_eq pa rfl _).trans (by kernel_rfl)
theorem e58_111014 (del_f : FuncId) (del_c : List PV) (v : Int) (i : Int) (s : List PV) : L58_111014 del_f del_c v i s =
  bif decide (i < (s.length : Int)) then
    bif (decide (0 ≤ i) && decide (i < (s.length : Int))) then
      (s[i.toNat]?).bind fun y =>
        (bif (Nat.blt 0 y.cells.length && (Sh.str).fits (y.cl 0)) then
          ((V del_f ((([.str ((y.cl 0).toStr)] : List PV) ++ del_c).map .pv)).bind retPV).bind fun r =>
            (bif (Sh.bool).fits r then
              bif (!r.toBool) then
                bif (decide (0 ≤ v) && decide (v < (s.length : Int))) then
                  (s[v.toNat]?).bind fun z =>
                    (bif (Nat.blt 0 z.cells.length && true) then
                      L58_111014 del_f del_c (IntKind.i64.wrap (v + (1 : Int))) (IntKind.i64.wrap (i + (1 : Int))) (s.set v.toNat (z.setc 0 (.str ((y.cl 0).toStr))))
                    else none)
                else none
              else L58_111014 del_f del_c v (IntKind.i64.wrap (i + (1 : Int))) s
            else none)
        else none)
    else none
  else bif (decide (0 ≤ v) && decide (v ≤ (s.length : Int))) then
    bif (decide (0 ≤ v) && decide (v ≤ ((clr s v.toNat (s.length) (.str [])).length : Int))) then
      some (.box [.int .i64 ((0 : Nat) : Int), .int .i64 ((v.toNat : Nat) : Int)], [.vec (clr s v.toNat (s.length) (.str []))])
    else none
  else none :=
  (LV_eq pa 58 _ _).trans (by kernel_rfl)
/-! 59 roadstead/roadkeep2.TreeShut$1 -/
theorem e59 (s : List UInt8) (c0 : List UInt8) : V 59 [.pv (.str s), .pv (.ptr [.str c0])] =
  some (.pv (.bool (s == c0)), []) :=
  (V_eq pa rfl _).trans (by kernel_rfl)
/-! 60 slices.Equal[[]string,string] -/
def st60_11014 (s1 : List PV) (s2 : List PV) (i : Int) : AS :=
  ⟨[.pv (.lst s1), .pv (.lst s2), .any, .any, .any, .any, .any, .any, .any, .any, .any, .any, .pv (.int .i64 (s1.length : Int)), .pv (.int .i64 i), .any, .any, .any, .any, .any, .any, .any, .any, .any, .any, .any, .any], ⟨[], [], [], 0, 0⟩⟩
noncomputable def L60_11014 (s1 : List PV) (s2 : List PV) (i : Int) : Option Out := LV Pr T 60 [1, 1, 0, 1, 4] (st60_11014 s1 s2 i)
theorem e60 (s1 : List PV) (s2 : List PV) : V 60 [.pv (.lst s1), .pv (.lst s2)] =
  bif ((s1.length : Int) != (s2.length : Int)) then
    some (.pv (.bool false), [])
  else L60_11014 s1 s2 0 :=
  (V_eq pa rfl _).trans (by kernel_rfl)
theorem e60_11014 (s1 : List PV) (s2 : List PV) (i : Int) : L60_11014 s1 s2 i =
  bif decide (i < (s1.length : Int)) then
    bif decide (0 ≤ i) then
      (s1[i.toNat]?).bind fun x =>
        (bif (Sh.str).fits x then
          bif decide (0 ≤ i) then
            (s2[i.toNat]?).bind fun x1 =>
              (bif (Sh.str).fits x1 then
                bif (!(x.toStr == x1.toStr)) then
                  some (.pv (.bool false), [])
                else L60_11014 s1 s2 (IntKind.i64.wrap (i + (1 : Int)))
              else none)
          else none
        else none)
    else none
  else some (.pv (.bool true), []) :=
  (LV_eq pa 60 _ _).trans (by kernel_rfl)
/-! 67 slices.Index[[]string,string] -/
def st67_1014 (s : List PV) (v : List UInt8) (i : Int) : AS :=
  ⟨[.pv (.lst s), .pv (.str v), .any, .any, .any, .any, .any, .pv (.int .i64 (s.length : Int)), .pv (.int .i64 i), .any, .any, .any, .any, .any, .any, .any, .any, .any, .any], ⟨[], [], [], 0, 0⟩⟩
noncomputable def L67_1014 (s : List PV) (v : List UInt8) (i : Int) : Option Out := LV Pr T 67 [1, 0, 1, 4] (st67_1014 s v i)
theorem e67 (s : List PV) (v : List UInt8) : V 67 [.pv (.lst s), .pv (.str v)] =
  L67_1014 s v 0 :=
  (V_eq pa rfl _).trans (by kernel_rfl)
theorem e67_1014 (s : List PV) (v : List UInt8) (i : Int) : L67_1014 s v i =
  bif decide (i < (s.length : Int)) then
    bif decide (0 ≤ i) then
      (s[i.toNat]?).bind fun x =>
        (bif (Sh.str).fits x then
          bif (v == x.toStr) then
            some (.pv (.int .i64 i), [])
          else L67_1014 s v (IntKind.i64.wrap (i + (1 : Int)))
        else none)
    else none
  else some (.pv (.int .i64 (-1)), []) :=
  (LV_eq pa 67 _ _).trans (by kernel_rfl)
/-! 82 roadstead/tree.Bound -/
def st82_101413121014 (l : List PV) (p_Args : List PV) (i : Int) : AS :=
  ⟨[.any, .any, .any, .bld 0 0 l, .any, .any, .any, .any, .any, .any, .any, .any, .any, .any, .any, .any, .pv (.lst p_Args), .pv (.int .i64 (p_Args.length : Int)), .pv (.int .i64 i), .any, .any, .any, .any, .any, .any, .any, .any, .any], ⟨[], [], [(0, 1)], 0, 0⟩⟩
noncomputable def L82_101413121014 (l : List PV) (p_Args : List PV) (i : Int) : Option Out := LV Pr T 82 [1, 0, 1, 4, 1, 3, 1, 2, 1, 0, 1, 4] (st82_101413121014 l p_Args i)
theorem e82 (p_Kind : Int) (p_Num : Int) (p_Text : List UInt8) (p_Args : List PV) : V 82 [.pv (.agg [.int .i64 p_Kind, .int .i64 p_Num, .str p_Text, .lst p_Args])] =
  bif (p_Kind == (2 : Int)) then
    some (.pv (.lst [.str p_Text]), [])
  else bif (p_Kind == (6 : Int)) then
    L82_101413121014 [] p_Args 0
  else some (.bld 1 [], []) :=
  (V_eq pa rfl _).trans (by kernel_rfl)
theorem e82_101413121014 (l : List PV) (p_Args : List PV) (i : Int) : L82_101413121014 l p_Args i =
  bif decide (i < (p_Args.length : Int)) then
    bif decide (0 ≤ i) then
      (p_Args[i.toNat]?).bind fun x =>
        (bif (Sh.agg [Sh.int .i64, Sh.int .i64, Sh.str, Sh.lst]).fits x then
          ((V 82 [.pv (.agg [.int .i64 ((x.c 0).toInt), .int .i64 ((x.c 1).toInt), .str ((x.c 2).toStr), .lst ((x.c 3).toLst)])]).bind retPV).bind fun r =>
            (bif (Sh.lst).fits r then
              bif headOk 1 r.toLst then
                bif small (l.length) (r.toLst.length) 16 then
                  L82_101413121014 (l ++ r.toLst) p_Args (IntKind.i64.wrap (i + (1 : Int)))
                else none
              else none
            else none)
        else none)
    else none
  else some (.bld 1 l, []) :=
  (LV_eq pa 82 _ _).trans (by kernel_rfl)
/-! 86 roadstead/roadref2.All -/
def st86_11104 (l : List PV) (l2 : List PV) : AS :=
  ⟨[.any, .any, .any, .vec 0 0, .bld 0 0 l, .any, .any, .any, .any, .any, .any, .any, .any, .any, .any, .any, .any, .any, .any, .any, .any, .any, .any, .any, .any, .any, .any, .any, .any, .any, .any, .any, .any, .any, .any, .any, .any, .any, .any, .any, .any, .any, .any, .any, .any, .any, .any, .any, .any, .any, .any, .any, .any, .any, .any, .any, .any, .any, .any, .any, .any, .any], ⟨[], [some (0, 8, l2)], [(0, 8)], 0, 0⟩⟩
noncomputable def L86_11104 (l : List PV) (l2 : List PV) : Option Out := LV Pr T 86 [1, 1, 1, 0, 4] (st86_11104 l l2)
def st86_11104514111014 (l1 : List PV) (i : Int) (e_Kind : Int) (e_Num : Int) (e_Text : List UInt8) (e_Names : List PV) (e_Types : List PV) (e_Args : List PV) (e_Arms : List PV) (e_At : Int) (l : List PV) : AS :=
  ⟨[.any, .any, .any, .vec 0 0, .bld 0 0 l1, .box 0 0, .pv (.int .i64 i), .any, .any, .any, .any, .any, .any, .any, .any, .any, .any, .any, .any, .any, .any, .any, .any, .any, .any, .any, .any, .any, .any, .any, .any, .any, .any, .any, .any, .any, .any, .any, .any, .any, .any, .any, .any, .any, .any, .any, .any, .any, .any, .any, .any, .any, .any, .any, .any, .any, .any, .any, .any, .any, .any, .any], ⟨[(false, [.pv (.int .i64 e_Kind), .pv (.int .i64 e_Num), .pv (.str e_Text), .pv (.lst e_Names), .pv (.lst e_Types), .pv (.lst e_Args), .pv (.lst e_Arms), .pv (.int .i64 e_At)])], [some (0, 8, l)], [(0, 8)], 0, 0⟩⟩
noncomputable def L86_11104514111014 (l1 : List PV) (i : Int) (e_Kind : Int) (e_Num : Int) (e_Text : List UInt8) (e_Names : List PV) (e_Types : List PV) (e_Args : List PV) (e_Arms : List PV) (e_At : Int) (l : List PV) : Option Out := LV Pr T 86 [1, 1, 1, 0, 4, 5, 1, 4, 1, 1, 1, 0, 1, 4] (st86_11104514111014 l1 i e_Kind e_Num e_Text e_Names e_Types e_Args e_Arms e_At l)
def st86_11104514111114 (l2 : List PV) (i : Int) (e_Kind : Int) (e_Num : Int) (e_Text : List UInt8) (e_Names : List PV) (e_Types : List PV) (e_Args : List PV) (e_Arms : List PV) (e_At : Int) (l1 : List PV) : AS :=
  ⟨[.any, .any, .any, .vec 0 0, .bld 0 0 l2, .box 0 0, .any, .pv (.int .i64 i), .any, .any, .any, .any, .any, .any, .any, .any, .any, .any, .any, .any, .any, .any, .any, .any, .any, .any, .any, .any, .any, .any, .any, .any, .any, .any, .any, .any, .any, .any, .any, .any, .any, .any, .any, .any, .any, .any, .any, .any, .any, .any, .any, .any, .any, .any, .any, .any, .any, .any, .any, .any, .any, .any], ⟨[(false, [.pv (.int .i64 e_Kind), .pv (.int .i64 e_Num), .pv (.str e_Text), .pv (.lst e_Names), .pv (.lst e_Types), .pv (.lst e_Args), .pv (.lst e_Arms), .pv (.int .i64 e_At)])], [some (0, 8, l1)], [(0, 8)], 0, 0⟩⟩
noncomputable def L86_11104514111114 (l2 : List PV) (i : Int) (e_Kind : Int) (e_Num : Int) (e_Text : List UInt8) (e_Names : List PV) (e_Types : List PV) (e_Args : List PV) (e_Arms : List PV) (e_At : Int) (l1 : List PV) : Option Out := LV Pr T 86 [1, 1, 1, 0, 4, 5, 1, 4, 1, 1, 1, 1, 1, 4] (st86_11104514111114 l2 i e_Kind e_Num e_Text e_Names e_Types e_Args e_Arms e_At l1)
theorem e86 (e_Kind : Int) (e_Num : Int) (e_Text : List UInt8) (e_Names : List PV) (e_Types : List PV) (e_Args : List PV) (e_Arms : List PV) (e_At : Int) : V 86 [.pv (.agg [.int .i64 e_Kind, .int .i64 e_Num, .str e_Text, .lst e_Names, .lst e_Types, .lst e_Args, .lst e_Arms, .int .i64 e_At])] =
  L86_11104 [] [.agg [.int .i64 e_Kind, .int .i64 e_Num, .str e_Text, .lst e_Names, .lst e_Types, .lst e_Args, .lst e_Arms, .int .i64 e_At]] :=
  (V_eq pa rfl _).trans (by kernel_rfl)
theorem e86_11104 (l : List PV) (l2 : List PV) : L86_11104 l l2 =
  bif decide ((l2.length : Int) > (0 : Int)) then
    bif (decide (0 ≤ (IntKind.i64.wrap ((l2.length : Int) - (1 : Int)))) && decide ((IntKind.i64.wrap ((l2.length : Int) - (1 : Int))) < (l2.length : Int))) then
      (l2[(IntKind.i64.wrap ((l2.length : Int) - (1 : Int))).toNat]?).bind fun y =>
        (bif (Sh.agg [Sh.int .i64, Sh.int .i64, Sh.str, Sh.lst, Sh.lst, Sh.lst, Sh.lst, Sh.int .i64]).fits y then
          bif (decide (0 ≤ (IntKind.i64.wrap ((l2.length : Int) - (1 : Int)))) && decide ((IntKind.i64.wrap ((l2.length : Int) - (1 : Int))) ≤ (l2.length : Int))) then
            bif small (l.length) 1 136 then
              L86_11104514111014 (l ++ [.agg [.int .i64 ((y.c 0).toInt), .int .i64 ((y.c 1).toInt), .str ((y.c 2).toStr), .lst ((y.c 3).toLst), .lst ((y.c 4).toLst), .lst ((y.c 5).toLst), .lst ((y.c 6).toLst), .int .i64 ((y.c 7).toInt)]]) (IntKind.i64.wrap (((y.c 6).toLst.length : Int) - (1 : Int))) ((y.c 0).toInt) ((y.c 1).toInt) ((y.c 2).toStr) ((y.c 3).toLst) ((y.c 4).toLst) ((y.c 5).toLst) ((y.c 6).toLst) ((y.c 7).toInt) (l2.take (IntKind.i64.wrap ((l2.length : Int) - (1 : Int))).toNat)
            else none
          else none
        else none)
    else none
  else some (.bld 8 l, []) :=
  (LV_eq pa 86 _ _).trans (by kernel_rfl)
theorem e86_11104514111014 (l1 : List PV) (i : Int) (e_Kind : Int) (e_Num : Int) (e_Text : List UInt8) (e_Names : List PV) (e_Types : List PV) (e_Args : List PV) (e_Arms : List PV) (e_At : Int) (l : List PV) : L86_11104514111014 l1 i e_Kind e_Num e_Text e_Names e_Types e_Args e_Arms e_At l =
  bif decide (i ≥ (0 : Int)) then
    bif decide (0 ≤ i) then
      (e_Arms[i.toNat]?).bind fun x =>
        (bif (Sh.agg [Sh.int .i64, Sh.int .i64, Sh.str, Sh.lst, Sh.int .i64, Sh.int .i64, Sh.str, Sh.lst, Sh.lst, Sh.lst, Sh.lst, Sh.int .i64]).fits x then
          bif small (l.length) 1 136 then
            L86_11104514111014 l1 (IntKind.i64.wrap (i - (1 : Int))) e_Kind e_Num e_Text e_Names e_Types e_Args e_Arms e_At (l ++ [.agg [.int .i64 ((x.c 4).toInt), .int .i64 ((x.c 5).toInt), .str ((x.c 6).toStr), .lst ((x.c 7).toLst), .lst ((x.c 8).toLst), .lst ((x.c 9).toLst), .lst ((x.c 10).toLst), .int .i64 ((x.c 11).toInt)]])
          else none
        else none)
    else none
  else L86_11104514111114 l1 (IntKind.i64.wrap ((e_Args.length : Int) - (1 : Int))) e_Kind e_Num e_Text e_Names e_Types e_Args e_Arms e_At l :=
  (LV_eq pa 86 _ _).trans (by kernel_rfl)
theorem e86_11104514111114 (l2 : List PV) (i : Int) (e_Kind : Int) (e_Num : Int) (e_Text : List UInt8) (e_Names : List PV) (e_Types : List PV) (e_Args : List PV) (e_Arms : List PV) (e_At : Int) (l1 : List PV) : L86_11104514111114 l2 i e_Kind e_Num e_Text e_Names e_Types e_Args e_Arms e_At l1 =
  bif decide (i ≥ (0 : Int)) then
    bif decide (0 ≤ i) then
      (e_Args[i.toNat]?).bind fun x =>
        (bif (Sh.agg [Sh.int .i64, Sh.int .i64, Sh.str, Sh.lst, Sh.lst, Sh.lst, Sh.lst, Sh.int .i64]).fits x then
          bif small (l1.length) 1 136 then
            L86_11104514111114 l2 (IntKind.i64.wrap (i - (1 : Int))) e_Kind e_Num e_Text e_Names e_Types e_Args e_Arms e_At (l1 ++ [.agg [.int .i64 ((x.c 0).toInt), .int .i64 ((x.c 1).toInt), .str ((x.c 2).toStr), .lst ((x.c 3).toLst), .lst ((x.c 4).toLst), .lst ((x.c 5).toLst), .lst ((x.c 6).toLst), .int .i64 ((x.c 7).toInt)]])
          else none
        else none)
    else none
  else L86_11104 l2 l1 :=
  (LV_eq pa 86 _ _).trans (by kernel_rfl)
/-! 87 roadstead/roadref2.pats -/
def st87_11014 (l : List PV) (i : Int) : AS :=
  ⟨[.any, .any, .any, .bld 0 0 l, .pv (.int .i64 i), .any, .any, .any, .any, .any, .any, .any, .any, .any, .any, .any, .any, .any, .any, .any, .any], ⟨[], [], [(0, 4)], 0, 0⟩⟩
noncomputable def L87_11014 (l : List PV) (i : Int) : Option Out := LV Pr T 87 [1, 1, 0, 1, 4] (st87_11014 l i)
theorem e87 (p_Kind : Int) (p_Num : Int) (p_Text : List UInt8) (p_Args : List PV) : V 87 [.pv (.agg [.int .i64 p_Kind, .int .i64 p_Num, .str p_Text, .lst p_Args])] =
  L87_11014 [.agg [.int .i64 p_Kind, .int .i64 p_Num, .str p_Text, .lst p_Args]] 0 :=
  (V_eq pa rfl _).trans (by kernel_rfl)
theorem e87_11014 (l : List PV) (i : Int) : L87_11014 l i =
  bif decide (i < (l.length : Int)) then
    bif decide (0 ≤ i) then
      (l[i.toNat]?).bind fun x =>
        (bif (Sh.agg [Sh.int .i64, Sh.int .i64, Sh.str, Sh.lst]).fits x then
          bif headOk 4 (x.c 3).toLst then
            bif small (l.length) ((x.c 3).toLst.length) 56 then
              L87_11014 (l ++ (x.c 3).toLst) (IntKind.i64.wrap (i + (1 : Int)))
            else none
          else none
        else none)
    else none
  else some (.bld 4 l, []) :=
  (LV_eq pa 87 _ _).trans (by kernel_rfl)
/-! 92 roadstead/tree.patSize -/
def st92_11014 (i : Int) (p_Args : List PV) (i1 : Int) : AS :=
  ⟨[.any, .any, .any, .pv (.int .i64 i), .any, .any, .any, .pv (.lst p_Args), .pv (.int .i64 (p_Args.length : Int)), .pv (.int .i64 i1), .any, .any, .any, .any, .any, .any, .any, .any, .any], ⟨[], [], [], 0, 0⟩⟩
noncomputable def L92_11014 (i : Int) (p_Args : List PV) (i1 : Int) : Option Out := LV Pr T 92 [1, 1, 0, 1, 4] (st92_11014 i p_Args i1)
theorem e92 (p_Kind : Int) (p_Num : Int) (p_Text : List UInt8) (p_Args : List PV) : V 92 [.pv (.agg [.int .i64 p_Kind, .int .i64 p_Num, .str p_Text, .lst p_Args])] =
  L92_11014 1 p_Args 0 :=
  (V_eq pa rfl _).trans (by kernel_rfl)
theorem e92_11014 (i : Int) (p_Args : List PV) (i1 : Int) : L92_11014 i p_Args i1 =
  bif decide (i1 < (p_Args.length : Int)) then
    bif decide (0 ≤ i1) then
      (p_Args[i1.toNat]?).bind fun x =>
        (bif (Sh.agg [Sh.int .i64, Sh.int .i64, Sh.str, Sh.lst]).fits x then
          ((V 92 [.pv (.agg [.int .i64 ((x.c 0).toInt), .int .i64 ((x.c 1).toInt), .str ((x.c 2).toStr), .lst ((x.c 3).toLst)])]).bind retPV).bind fun r =>
            (bif (Sh.int .i64).fits r then
              L92_11014 (IntKind.i64.wrap (i + (r.toInt))) p_Args (IntKind.i64.wrap (i1 + (1 : Int)))
            else none)
        else none)
    else none
  else some (.pv (.int .i64 i), []) :=
  (LV_eq pa 92 _ _).trans (by kernel_rfl)
/-! 94 roadstead/tree.free -/
def st94_11041312016 (out : List PV) (b : Bool) (e_Kind : Int) (e_Num : Int) (e_Text : List UInt8) (e_Names : List PV) (e_Types : List PV) (e_Args : List PV) (e_Arms : List PV) (e_At : Int) : AS :=
  ⟨[.any, .any, .bld 0 0 out, .box 0 0, .any, .any, .any, .any, .any, .any, .any, .any, .any, .any, .any, .any, .any, .any, .any, .any, .any, .any, .any, .any, .any, .any, .any, .any, .any, .any, .any, .any, .any, .any, .any, .any, .pv (.bool b), .any, .any, .any, .any, .any, .any, .any, .any, .any, .any, .any, .any, .any, .any, .any, .any, .any, .any, .any, .any, .any, .any, .any, .any, .any, .any, .any, .any, .any, .any, .any, .any, .any, .any, .any, .any, .any, .any, .any, .any, .any, .any, .any, .any, .any, .any, .any, .any, .any, .any, .any, .any, .any, .any, .any, .any, .any, .any, .any, .any, .any, .any, .any, .any, .any, .any, .any, .any, .any, .any, .any, .any, .any, .any, .any, .any, .any, .any, .any, .any, .any, .any, .any, .any, .any, .any, .any, .any, .any], ⟨[(false, [.pv (.int .i64 e_Kind), .pv (.int .i64 e_Num), .pv (.str e_Text), .pv (.lst e_Names), .pv (.lst e_Types), .pv (.lst e_Args), .pv (.lst e_Arms), .pv (.int .i64 e_At)])], [], [(0, 1)], 0, 0⟩⟩
noncomputable def L94_11041312016 (out : List PV) (b : Bool) (e_Kind : Int) (e_Num : Int) (e_Text : List UInt8) (e_Names : List PV) (e_Types : List PV) (e_Args : List PV) (e_Arms : List PV) (e_At : Int) : Option Out := LV Pr T 94 [1, 1, 0, 4, 1, 3, 1, 2, 0, 1, 6] (st94_11041312016 out b e_Kind e_Num e_Text e_Names e_Types e_Args e_Arms e_At)
def st94_1104131312014 (within : List PV) (out : List PV) (e_Args : List PV) (i : Int) : AS :=
  ⟨[.any, .pv (.lst within), .bld 0 0 out, .any, .any, .any, .any, .any, .any, .any, .any, .any, .any, .any, .any, .any, .any, .any, .any, .any, .any, .any, .any, .any, .any, .any, .any, .any, .any, .any, .any, .any, .any, .any, .any, .any, .any, .any, .any, .any, .any, .any, .any, .any, .any, .any, .any, .any, .any, .any, .pv (.lst e_Args), .pv (.int .i64 (e_Args.length : Int)), .pv (.int .i64 i), .any, .any, .any, .any, .any, .any, .any, .any, .any, .any, .any, .any, .any, .any, .any, .any, .any, .any, .any, .any, .any, .any, .any, .any, .any, .any, .any, .any, .any, .any, .any, .any, .any, .any, .any, .any, .any, .any, .any, .any, .any, .any, .any, .any, .any, .any, .any, .any, .any, .any, .any, .any, .any, .any, .any, .any, .any, .any, .any, .any, .any, .any, .any, .any, .any, .any, .any, .any, .any, .any, .any, .any, .any], ⟨[], [], [(0, 1)], 0, 0⟩⟩
noncomputable def L94_1104131312014 (within : List PV) (out : List PV) (e_Args : List PV) (i : Int) : Option Out := LV Pr T 94 [1, 1, 0, 4, 1, 3, 1, 3, 1, 2, 0, 1, 4] (st94_1104131312014 within out e_Args i)
def st94_111014 (within : List PV) (out : List PV) (e_Args : List PV) (v : Int) (i : Int) (e_Kind : Int) (e_Num : Int) (e_Text : List UInt8) (e_Names : List PV) (e_Types : List PV) (e_Arms : List PV) (e_At : Int) : AS :=
  ⟨[.any, .pv (.lst within), .bld 0 0 out, .box 0 0, .any, .any, .any, .any, .any, .any, .any, .any, .any, .any, .any, .any, .any, .any, .any, .any, .any, .any, .any, .any, .any, .any, .any, .any, .any, .any, .any, .any, .any, .any, .any, .any, .any, .any, .any, .any, .any, .any, .any, .any, .any, .any, .any, .any, .any, .any, .any, .any, .any, .any, .any, .any, .any, .any, .any, .any, .any, .any, .any, .any, .any, .pv (.lst (e_Args.take (v).toNat)), .pv (.int .i64 ((e_Args.take (v).toNat).length : Int)), .pv (.int .i64 i), .any, .any, .any, .any, .any, .any, .any, .any, .any, .any, .any, .any, .any, .any, .any, .any, .any, .any, .any, .any, .any, .any, .any, .any, .any, .any, .any, .any, .any, .any, .any, .any, .any, .any, .any, .any, .any, .any, .any, .any, .any, .any, .any, .any, .any, .any, .any, .any, .any, .any, .any, .any, .any, .any, .any, .any, .any, .any], ⟨[(false, [.pv (.int .i64 e_Kind), .pv (.int .i64 e_Num), .pv (.str e_Text), .pv (.lst e_Names), .pv (.lst e_Types), .pv (.lst e_Args), .pv (.lst e_Arms), .pv (.int .i64 e_At)])], [], [(0, 1)], 0, 0⟩⟩
noncomputable def L94_111014 (within : List PV) (out : List PV) (e_Args : List PV) (v : Int) (i : Int) (e_Kind : Int) (e_Num : Int) (e_Text : List UInt8) (e_Names : List PV) (e_Types : List PV) (e_Arms : List PV) (e_At : Int) : Option Out := LV Pr T 94 [1, 1, 1, 0, 1, 4] (st94_111014 within out e_Args v i e_Kind e_Num e_Text e_Names e_Types e_Arms e_At)
def st94_1110145110411016 (within : List PV) (out : List PV) (e_Args : List PV) (v : Int) (i1 : Int) (b : Bool) (e_Kind : Int) (e_Num : Int) (e_Text : List UInt8) (e_Names : List PV) (e_Types : List PV) (e_Arms : List PV) (e_At : Int) (v1 : Int) (v2 : Int) (v3 : List UInt8) (v4 : List PV) (v5 : List PV) (v6 : List PV) (v7 : List PV) (v8 : Int) : AS :=
  ⟨[.any, .pv (.lst within), .bld 0 0 out, .box 0 0, .any, .any, .any, .any, .any, .any, .any, .box 1 0, .pv (.lst within), .any, .any, .any, .any, .any, .any, .any, .any, .any, .any, .any, .any, .any, .any, .any, .any, .any, .any, .any, .any, .any, .any, .any, .any, .any, .any, .any, .any, .any, .any, .any, .any, .any, .any, .any, .any, .any, .any, .any, .any, .any, .any, .any, .any, .any, .any, .any, .any, .any, .any, .any, .any, .pv (.lst (e_Args.take (v).toNat)), .pv (.int .i64 ((e_Args.take (v).toNat).length : Int)), .pv (.int .i64 i1), .any, .any, .any, .any, .any, .any, .any, .any, .any, .any, .any, .pv (.bool b), .any, .any, .any, .any, .any, .any, .any, .any, .any, .any, .any, .any, .any, .any, .any, .any, .any, .any, .any, .any, .any, .any, .any, .any, .any, .any, .any, .any, .any, .any, .any, .any, .any, .any, .any, .any, .any, .any, .any, .any, .any, .any, .any, .any, .any, .any], ⟨[(false, [.pv (.int .i64 e_Kind), .pv (.int .i64 e_Num), .pv (.str e_Text), .pv (.lst e_Names), .pv (.lst e_Types), .pv (.lst e_Args), .pv (.lst e_Arms), .pv (.int .i64 e_At)]), (false, [.pv (.int .i64 v1), .pv (.int .i64 v2), .pv (.str v3), .pv (.lst v4), .pv (.lst v5), .pv (.lst v6), .pv (.lst v7), .pv (.int .i64 v8)])], [], [(0, 1)], 0, 0⟩⟩
noncomputable def L94_1110145110411016 (within : List PV) (out : List PV) (e_Args : List PV) (v : Int) (i1 : Int) (b : Bool) (e_Kind : Int) (e_Num : Int) (e_Text : List UInt8) (e_Names : List PV) (e_Types : List PV) (e_Arms : List PV) (e_At : Int) (v1 : Int) (v2 : Int) (v3 : List UInt8) (v4 : List PV) (v5 : List PV) (v6 : List PV) (v7 : List PV) (v8 : Int) : Option Out := LV Pr T 94 [1, 1, 1, 0, 1, 4, 5, 1, 1, 0, 4, 1, 1, 0, 1, 6] (st94_1110145110411016 within out e_Args v i1 b e_Kind e_Num e_Text e_Names e_Types e_Arms e_At v1 v2 v3 v4 v5 v6 v7 v8)
def st94_1111016 (within : List PV) (out : List PV) (b : Bool) (e_Kind : Int) (e_Num : Int) (e_Text : List UInt8) (e_Names : List PV) (e_Types : List PV) (e_Args : List PV) (e_Arms : List PV) (e_At : Int) : AS :=
  ⟨[.any, .pv (.lst within), .bld 0 0 out, .box 0 0, .any, .any, .any, .any, .any, .any, .any, .any, .any, .any, .any, .any, .any, .any, .any, .any, .any, .any, .any, .any, .any, .any, .any, .any, .any, .any, .any, .any, .any, .any, .any, .any, .any, .any, .any, .any, .any, .any, .any, .any, .any, .any, .any, .any, .any, .any, .any, .any, .any, .any, .any, .any, .any, .any, .any, .any, .any, .any, .any, .any, .any, .any, .any, .any, .any, .any, .any, .any, .any, .any, .any, .any, .any, .any, .any, .any, .any, .any, .any, .any, .any, .any, .any, .any, .any, .any, .any, .any, .any, .any, .any, .any, .any, .any, .any, .any, .any, .any, .any, .any, .any, .any, .pv (.bool b), .any, .any, .any, .any, .any, .any, .any, .any, .any, .any, .any, .any, .any, .any, .any, .any, .any, .any, .any], ⟨[(false, [.pv (.int .i64 e_Kind), .pv (.int .i64 e_Num), .pv (.str e_Text), .pv (.lst e_Names), .pv (.lst e_Types), .pv (.lst e_Args), .pv (.lst e_Arms), .pv (.int .i64 e_At)])], [], [(0, 1)], 0, 0⟩⟩
noncomputable def L94_1111016 (within : List PV) (out : List PV) (b : Bool) (e_Kind : Int) (e_Num : Int) (e_Text : List UInt8) (e_Names : List PV) (e_Types : List PV) (e_Args : List PV) (e_Arms : List PV) (e_At : Int) : Option Out := LV Pr T 94 [1, 1, 1, 1, 0, 1, 6] (st94_1111016 within out b e_Kind e_Num e_Text e_Names e_Types e_Args e_Arms e_At)
def st94_111014511041116 (within : List PV) (out : List PV) (l1 : List PV) (e_Args : List PV) (v : Int) (i : Int) (e_Kind : Int) (e_Num : Int) (e_Text : List UInt8) (e_Names : List PV) (e_Types : List PV) (e_Arms : List PV) (e_At : Int) (v1 : Int) (v2 : Int) (v3 : List UInt8) (v4 : List PV) (v5 : List PV) (v6 : List PV) (v7 : List PV) (v8 : Int) : AS :=
  ⟨[.any, .pv (.lst within), .bld 0 0 out, .box 0 0, .any, .any, .any, .any, .any, .any, .any, .box 1 0, .pv (.lst l1), .any, .any, .any, .any, .any, .any, .any, .any, .any, .any, .any, .any, .any, .any, .any, .any, .any, .any, .any, .any, .any, .any, .any, .any, .any, .any, .any, .any, .any, .any, .any, .any, .any, .any, .any, .any, .any, .any, .any, .any, .any, .any, .any, .any, .any, .any, .any, .any, .any, .any, .any, .any, .pv (.lst (e_Args.take (v).toNat)), .pv (.int .i64 ((e_Args.take (v).toNat).length : Int)), .pv (.int .i64 i), .any, .any, .any, .any, .any, .any, .any, .any, .any, .any, .any, .any, .any, .any, .any, .any, .any, .any, .any, .any, .any, .any, .any, .any, .any, .any, .any, .any, .any, .any, .any, .any, .any, .any, .any, .any, .any, .any, .any, .any, .any, .any, .any, .any, .any, .any, .any, .any, .any, .any, .any, .any, .any, .any, .any, .any, .any, .any], ⟨[(false, [.pv (.int .i64 e_Kind), .pv (.int .i64 e_Num), .pv (.str e_Text), .pv (.lst e_Names), .pv (.lst e_Types), .pv (.lst e_Args), .pv (.lst e_Arms), .pv (.int .i64 e_At)]), (false, [.pv (.int .i64 v1), .pv (.int .i64 v2), .pv (.str v3), .pv (.lst v4), .pv (.lst v5), .pv (.lst v6), .pv (.lst v7), .pv (.int .i64 v8)])], [], [(0, 1)], 0, 0⟩⟩
noncomputable def L94_111014511041116 (within : List PV) (out : List PV) (l1 : List PV) (e_Args : List PV) (v : Int) (i : Int) (e_Kind : Int) (e_Num : Int) (e_Text : List UInt8) (e_Names : List PV) (e_Types : List PV) (e_Arms : List PV) (e_At : Int) (v1 : Int) (v2 : Int) (v3 : List UInt8) (v4 : List PV) (v5 : List PV) (v6 : List PV) (v7 : List PV) (v8 : Int) : Option Out := LV Pr T 94 [1, 1, 1, 0, 1, 4, 5, 1, 1, 0, 4, 1, 1, 1, 6] (st94_111014511041116 within out l1 e_Args v i e_Kind e_Num e_Text e_Names e_Types e_Arms e_At v1 v2 v3 v4 v5 v6 v7 v8)
def st94_111101214 (within : List PV) (out : List PV) (e_Arms : List PV) (i : Int) : AS :=
  ⟨[.any, .pv (.lst within), .bld 0 0 out, .any, .any, .any, .any, .any, .any, .any, .any, .any, .any, .any, .any, .any, .any, .any, .any, .any, .any, .any, .any, .any, .any, .any, .any, .any, .any, .any, .any, .any, .any, .any, .any, .any, .any, .any, .any, .any, .any, .any, .any, .any, .any, .any, .any, .any, .any, .any, .any, .any, .any, .any, .any, .any, .any, .any, .any, .any, .any, .any, .any, .any, .any, .any, .any, .any, .any, .any, .any, .any, .any, .any, .any, .any, .any, .any, .any, .any, .any, .any, .any, .any, .any, .any, .any, .any, .any, .any, .any, .any, .any, .any, .any, .any, .any, .any, .any, .any, .any, .any, .any, .any, .any, .any, .any, .any, .pv (.lst e_Arms), .pv (.int .i64 (e_Arms.length : Int)), .pv (.int .i64 i), .any, .any, .any, .any, .any, .any, .any, .any, .any, .any, .any, .any, .any, .any, .any], ⟨[], [], [(0, 1)], 0, 0⟩⟩
noncomputable def L94_111101214 (within : List PV) (out : List PV) (e_Arms : List PV) (i : Int) : Option Out := LV Pr T 94 [1, 1, 1, 1, 0, 1, 2, 1, 4] (st94_111101214 within out e_Arms i)
theorem e94 (e_Kind : Int) (e_Num : Int) (e_Text : List UInt8) (e_Names : List PV) (e_Types : List PV) (e_Args : List PV) (e_Arms : List PV) (e_At : Int) (within : List PV) (out : List PV) : V 94 [.pv (.agg [.int .i64 e_Kind, .int .i64 e_Num, .str e_Text, .lst e_Names, .lst e_Types, .lst e_Args, .lst e_Arms, .int .i64 e_At]), .pv (.lst within), .bld 1 out] =
  ((V 108 [.pv (.agg [.int .i64 e_Kind, .int .i64 e_Num, .str e_Text, .lst e_Names, .lst e_Types, .lst e_Args, .lst e_Arms, .int .i64 e_At])]).bind retPV).bind fun r =>
    (bif (Sh.int .i64).fits r then
      bif decide ((r.toInt) < (0 : Int)) then
        some (.bld 1 out, [])
      else bif (e_Kind == (5 : Int)) then
        ((V 55 [.pv (.lst within), .pv (.str e_Text)]).bind retPV).bind fun r1 =>
          (bif (Sh.bool).fits r1 then
            bif (!r1.toBool) then
              ((V 55 [.pv (.lst out), .pv (.str e_Text)]).bind retPV).bind fun r2 =>
                (bif (Sh.bool).fits r2 then
                  L94_11041312016 out (!r2.toBool) e_Kind e_Num e_Text e_Names e_Types e_Args e_Arms e_At
                else none)
            else L94_11041312016 out false e_Kind e_Num e_Text e_Names e_Types e_Args e_Arms e_At
          else none)
      else bif decide ((e_Args.length : Int) < (r.toInt)) then
        L94_1104131312014 within out e_Args 0
      else bif headOk 8 e_Args then
        bif (decide (0 ≤ (r.toInt)) && decide ((r.toInt) ≤ (e_Args.length : Int))) then
          L94_111014 within out e_Args r.toInt 0 e_Kind e_Num e_Text e_Names e_Types e_Arms e_At
        else none
      else none
    else none) :=
  (V_eq pa rfl _).trans (by kernel_rfl)
theorem e94_11041312016 (out : List PV) (b : Bool) (e_Kind : Int) (e_Num : Int) (e_Text : List UInt8) (e_Names : List PV) (e_Types : List PV) (e_Args : List PV) (e_Arms : List PV) (e_At : Int) : L94_11041312016 out b e_Kind e_Num e_Text e_Names e_Types e_Args e_Arms e_At =
  bif b then
    bif small (out.length) 1 16 then
      some (.bld 1 (out ++ [.str e_Text]), [])
    else none
  else some (.bld 1 out, []) :=
  (LV_eq pa 94 _ _).trans (by kernel_rfl)
theorem e94_1104131312014 (within : List PV) (out : List PV) (e_Args : List PV) (i : Int) : L94_1104131312014 within out e_Args i =
  bif decide (i < (e_Args.length : Int)) then
    bif decide (0 ≤ i) then
      (e_Args[i.toNat]?).bind fun x =>
        (bif (Sh.agg [Sh.int .i64, Sh.int .i64, Sh.str, Sh.lst, Sh.lst, Sh.lst, Sh.lst, Sh.int .i64]).fits x then
          (V 94 [.pv (.agg [.int .i64 ((x.c 0).toInt), .int .i64 ((x.c 1).toInt), .str ((x.c 2).toStr), .lst ((x.c 3).toLst), .lst ((x.c 4).toLst), .lst ((x.c 5).toLst), .lst ((x.c 6).toLst), .int .i64 ((x.c 7).toInt)]), .pv (.lst within), .bld 1 out]).bind fun r =>
            ((retB 1 r).bind fun l =>
              (L94_1104131312014 within l e_Args (IntKind.i64.wrap (i + (1 : Int)))))
        else none)
    else none
  else some (.bld 1 out, []) :=
  (LV_eq pa 94 _ _).trans (by kernel_rfl)
theorem e94_111014 (within : List PV) (out : List PV) (e_Args : List PV) (v : Int) (i : Int) (e_Kind : Int) (e_Num : Int) (e_Text : List UInt8) (e_Names : List PV) (e_Types : List PV) (e_Arms : List PV) (e_At : Int) : L94_111014 within out e_Args v i e_Kind e_Num e_Text e_Names e_Types e_Arms e_At =
  bif decide (i < ((e_Args.take (v).toNat).length : Int)) then
    bif decide (0 ≤ i) then
      ((e_Args.take (v).toNat)[i.toNat]?).bind fun x =>
        (bif (Sh.agg [Sh.int .i64, Sh.int .i64, Sh.str, Sh.lst, Sh.lst, Sh.lst, Sh.lst, Sh.int .i64]).fits x then
          bif (e_Kind == (6 : Int)) then
            L94_1110145110411016 within out e_Args v i (i == (1 : Int)) e_Kind e_Num e_Text e_Names e_Types e_Arms e_At ((x.c 0).toInt) ((x.c 1).toInt) ((x.c 2).toStr) ((x.c 3).toLst) ((x.c 4).toLst) ((x.c 5).toLst) ((x.c 6).toLst) ((x.c 7).toInt)
          else L94_1110145110411016 within out e_Args v i false e_Kind e_Num e_Text e_Names e_Types e_Arms e_At ((x.c 0).toInt) ((x.c 1).toInt) ((x.c 2).toStr) ((x.c 3).toLst) ((x.c 4).toLst) ((x.c 5).toLst) ((x.c 6).toLst) ((x.c 7).toInt)
        else none)
    else none
  else bif (e_Kind == (13 : Int)) then
    L94_1111016 within out true e_Kind e_Num e_Text e_Names e_Types e_Args e_Arms e_At
  else L94_1111016 within out (e_Kind == (18 : Int)) e_Kind e_Num e_Text e_Names e_Types e_Args e_Arms e_At :=
  (LV_eq pa 94 _ _).trans (by kernel_rfl)
theorem e94_1110145110411016 (within : List PV) (out : List PV) (e_Args : List PV) (v : Int) (i1 : Int) (b : Bool) (e_Kind : Int) (e_Num : Int) (e_Text : List UInt8) (e_Names : List PV) (e_Types : List PV) (e_Arms : List PV) (e_At : Int) (v1 : Int) (v2 : Int) (v3 : List UInt8) (v4 : List PV) (v5 : List PV) (v6 : List PV) (v7 : List PV) (v8 : Int) : L94_1110145110411016 within out e_Args v i1 b e_Kind e_Num e_Text e_Names e_Types e_Arms e_At v1 v2 v3 v4 v5 v6 v7 v8 =
  bif b then
    (V 40 [.pv (.lst within)]).bind fun r =>
      ((retB 1 r).bind fun l =>
        (bif small (l.length) 1 16 then
          L94_111014511041116 within out (l ++ [.str e_Text]) e_Args v i1 e_Kind e_Num e_Text e_Names e_Types e_Arms e_At v1 v2 v3 v4 v5 v6 v7 v8
        else none))
  else L94_111014511041116 within out within e_Args v i1 e_Kind e_Num e_Text e_Names e_Types e_Arms e_At v1 v2 v3 v4 v5 v6 v7 v8 :=
  (LV_eq pa 94 _ _).trans (by kernel_rfl)
theorem e94_1111016 (within : List PV) (out : List PV) (b : Bool) (e_Kind : Int) (e_Num : Int) (e_Text : List UInt8) (e_Names : List PV) (e_Types : List PV) (e_Args : List PV) (e_Arms : List PV) (e_At : Int) : L94_1111016 within out b e_Kind e_Num e_Text e_Names e_Types e_Args e_Arms e_At =
  bif b then
    L94_111101214 within out e_Arms 0
  else some (.bld 1 out, []) :=
  (LV_eq pa 94 _ _).trans (by kernel_rfl)
theorem e94_111014511041116 (within : List PV) (out : List PV) (l1 : List PV) (e_Args : List PV) (v : Int) (i : Int) (e_Kind : Int) (e_Num : Int) (e_Text : List UInt8) (e_Names : List PV) (e_Types : List PV) (e_Arms : List PV) (e_At : Int) (v1 : Int) (v2 : Int) (v3 : List UInt8) (v4 : List PV) (v5 : List PV) (v6 : List PV) (v7 : List PV) (v8 : Int) : L94_111014511041116 within out l1 e_Args v i e_Kind e_Num e_Text e_Names e_Types e_Arms e_At v1 v2 v3 v4 v5 v6 v7 v8 =
  bif (e_Kind == (10 : Int)) then
    (V 40 [.pv (.lst within)]).bind fun r =>
      ((retB 1 r).bind fun l =>
        (bif headOk 1 e_Names then
          bif small (l.length) (e_Names.length) 16 then
            (V 94 [.pv (.agg [.int .i64 v1, .int .i64 v2, .str v3, .lst v4, .lst v5, .lst v6, .lst v7, .int .i64 v8]), .pv (.lst (l ++ e_Names)), .bld 1 out]).bind fun r1 =>
              ((retB 1 r1).bind fun l2 =>
                (L94_111014 within l2 e_Args v (IntKind.i64.wrap (i + (1 : Int))) e_Kind e_Num e_Text e_Names e_Types e_Arms e_At))
          else none
        else none))
  else (V 94 [.pv (.agg [.int .i64 v1, .int .i64 v2, .str v3, .lst v4, .lst v5, .lst v6, .lst v7, .int .i64 v8]), .pv (.lst l1), .bld 1 out]).bind fun r2 =>
    ((retB 1 r2).bind fun l3 =>
      (L94_111014 within l3 e_Args v (IntKind.i64.wrap (i + (1 : Int))) e_Kind e_Num e_Text e_Names e_Types e_Arms e_At)) :=
  (LV_eq pa 94 _ _).trans (by kernel_rfl)
theorem e94_111101214 (within : List PV) (out : List PV) (e_Arms : List PV) (i : Int) : L94_111101214 within out e_Arms i =
  bif decide (i < (e_Arms.length : Int)) then
    bif decide (0 ≤ i) then
      (e_Arms[i.toNat]?).bind fun x =>
        (bif (Sh.agg [Sh.int .i64, Sh.int .i64, Sh.str, Sh.lst, Sh.int .i64, Sh.int .i64, Sh.str, Sh.lst, Sh.lst, Sh.lst, Sh.lst, Sh.int .i64]).fits x then
          (V 40 [.pv (.lst within)]).bind fun r =>
            ((retB 1 r).bind fun l =>
              (((V 82 [.pv (.agg [.int .i64 ((x.c 0).toInt), .int .i64 ((x.c 1).toInt), .str ((x.c 2).toStr), .lst ((x.c 3).toLst)])]).bind retPV).bind fun r1 =>
                (bif (Sh.lst).fits r1 then
                  bif headOk 1 r1.toLst then
                    bif small (l.length) (r1.toLst.length) 16 then
                      (V 94 [.pv (.agg [.int .i64 ((x.c 4).toInt), .int .i64 ((x.c 5).toInt), .str ((x.c 6).toStr), .lst ((x.c 7).toLst), .lst ((x.c 8).toLst), .lst ((x.c 9).toLst), .lst ((x.c 10).toLst), .int .i64 ((x.c 11).toInt)]), .pv (.lst (l ++ r1.toLst)), .bld 1 out]).bind fun r2 =>
                        ((retB 1 r2).bind fun l1 =>
                          (L94_111101214 within l1 e_Arms (IntKind.i64.wrap (i + (1 : Int)))))
                    else none
                  else none
                else none)))
        else none)
    else none
  else some (.bld 1 out, []) :=
  (LV_eq pa 94 _ _).trans (by kernel_rfl)
/-! 95 slices.IndexFunc[[]string,string] -/
def st95_1014 (s : List PV) (f_f : FuncId) (f_c : List PV) (i : Int) : AS :=
  ⟨[.pv (.lst s), .pv (.fn f_f f_c), .any, .any, .any, .any, .any, .pv (.int .i64 (s.length : Int)), .pv (.int .i64 i), .any, .any, .any, .any, .any, .any, .any, .any, .any, .any], ⟨[], [], [], 0, 0⟩⟩
noncomputable def L95_1014 (s : List PV) (f_f : FuncId) (f_c : List PV) (i : Int) : Option Out := LV Pr T 95 [1, 0, 1, 4] (st95_1014 s f_f f_c i)
theorem e95 (s : List PV) (f_f : FuncId) (f_c : List PV) : V 95 [.pv (.lst s), .pv (.fn f_f f_c)] =
  L95_1014 s f_f f_c 0 :=
  (V_eq pa rfl _).trans (by kernel_rfl)
theorem e95_1014 (s : List PV) (f_f : FuncId) (f_c : List PV) (i : Int) : L95_1014 s f_f f_c i =
  bif decide (i < (s.length : Int)) then
    bif decide (0 ≤ i) then
      (s[i.toNat]?).bind fun x =>
        (bif (Sh.str).fits x then
          ((V f_f ((([.str x.toStr] : List PV) ++ f_c).map .pv)).bind retPV).bind fun r =>
            (bif (Sh.bool).fits r then
              bif r.toBool then
                some (.pv (.int .i64 i), [])
              else L95_1014 s f_f f_c (IntKind.i64.wrap (i + (1 : Int)))
            else none)
        else none)
    else none
  else some (.pv (.int .i64 (-1)), []) :=
  (LV_eq pa 95 _ _).trans (by kernel_rfl)
/-! 108 roadstead/tree.Needs -/
def st108_101416 (e_Kind : Int) (b : Bool) (e_Num : Int) (e_Text : List UInt8) (e_Names : List PV) (e_Types : List PV) (e_Args : List PV) (e_Arms : List PV) (e_At : Int) : AS :=
  ⟨[.any, .box 0 0, .any, .any, .pv (.int .i64 e_Kind), .pv (.bool b), .any, .any, .any, .any, .any, .any, .any, .any, .any, .any, .any, .any, .any, .any, .any, .any, .any, .any, .any, .any, .any, .any, .any, .any, .any, .any, .any, .any, .any, .any, .any, .any, .any, .any, .any, .any, .any, .any, .any, .any, .any], ⟨[(false, [.pv (.int .i64 e_Kind), .pv (.int .i64 e_Num), .pv (.str e_Text), .pv (.lst e_Names), .pv (.lst e_Types), .pv (.lst e_Args), .pv (.lst e_Arms), .pv (.int .i64 e_At)])], [], [], 0, 0⟩⟩
noncomputable def L108_101416 (e_Kind : Int) (b : Bool) (e_Num : Int) (e_Text : List UInt8) (e_Names : List PV) (e_Types : List PV) (e_Args : List PV) (e_Arms : List PV) (e_At : Int) : Option Out := LV Pr T 108 [1, 0, 1, 4, 1, 6] (st108_101416 e_Kind b e_Num e_Text e_Names e_Types e_Args e_Arms e_At)
def st108_10141316 (e_Kind : Int) (b : Bool) (e_Num : Int) (e_Text : List UInt8) (e_Names : List PV) (e_Types : List PV) (e_Args : List PV) (e_Arms : List PV) (e_At : Int) : AS :=
  ⟨[.any, .box 0 0, .any, .any, .pv (.int .i64 e_Kind), .any, .any, .any, .any, .any, .any, .any, .pv (.bool b), .any, .any, .any, .any, .any, .any, .any, .any, .any, .any, .any, .any, .any, .any, .any, .any, .any, .any, .any, .any, .any, .any, .any, .any, .any, .any, .any, .any, .any, .any, .any, .any, .any, .any], ⟨[(false, [.pv (.int .i64 e_Kind), .pv (.int .i64 e_Num), .pv (.str e_Text), .pv (.lst e_Names), .pv (.lst e_Types), .pv (.lst e_Args), .pv (.lst e_Arms), .pv (.int .i64 e_At)])], [], [], 0, 0⟩⟩
noncomputable def L108_10141316 (e_Kind : Int) (b : Bool) (e_Num : Int) (e_Text : List UInt8) (e_Names : List PV) (e_Types : List PV) (e_Args : List PV) (e_Arms : List PV) (e_At : Int) : Option Out := LV Pr T 108 [1, 0, 1, 4, 1, 3, 1, 6] (st108_10141316 e_Kind b e_Num e_Text e_Names e_Types e_Args e_Arms e_At)
def st108_101413131316 (e_Kind : Int) (b : Bool) (e_Num : Int) (e_Text : List UInt8) (e_Names : List PV) (e_Types : List PV) (e_Args : List PV) (e_Arms : List PV) (e_At : Int) : AS :=
  ⟨[.any, .box 0 0, .any, .any, .pv (.int .i64 e_Kind), .any, .any, .any, .any, .any, .any, .any, .any, .any, .any, .any, .any, .any, .pv (.bool b), .any, .any, .any, .any, .any, .any, .any, .any, .any, .any, .any, .any, .any, .any, .any, .any, .any, .any, .any, .any, .any, .any, .any, .any, .any, .any, .any, .any], ⟨[(false, [.pv (.int .i64 e_Kind), .pv (.int .i64 e_Num), .pv (.str e_Text), .pv (.lst e_Names), .pv (.lst e_Types), .pv (.lst e_Args), .pv (.lst e_Arms), .pv (.int .i64 e_At)])], [], [], 0, 0⟩⟩
noncomputable def L108_101413131316 (e_Kind : Int) (b : Bool) (e_Num : Int) (e_Text : List UInt8) (e_Names : List PV) (e_Types : List PV) (e_Args : List PV) (e_Arms : List PV) (e_At : Int) : Option Out := LV Pr T 108 [1, 0, 1, 4, 1, 3, 1, 3, 1, 3, 1, 6] (st108_101413131316 e_Kind b e_Num e_Text e_Names e_Types e_Args e_Arms e_At)
theorem e108 (e_Kind : Int) (e_Num : Int) (e_Text : List UInt8) (e_Names : List PV) (e_Types : List PV) (e_Args : List PV) (e_Arms : List PV) (e_At : Int) : V 108 [.pv (.agg [.int .i64 e_Kind, .int .i64 e_Num, .str e_Text, .lst e_Names, .lst e_Types, .lst e_Args, .lst e_Arms, .int .i64 e_At])] =
  bif (e_Kind == (1 : Int)) then
    L108_101416 e_Kind (e_Kind == (1 : Int)) e_Num e_Text e_Names e_Types e_Args e_Arms e_At
  else bif (e_Kind == (2 : Int)) then
    L108_101416 e_Kind (e_Kind == (2 : Int)) e_Num e_Text e_Names e_Types e_Args e_Arms e_At
  else bif (e_Kind == (3 : Int)) then
    L108_101416 e_Kind (e_Kind == (3 : Int)) e_Num e_Text e_Names e_Types e_Args e_Arms e_At
  else bif (e_Kind == (4 : Int)) then
    L108_101416 e_Kind (e_Kind == (4 : Int)) e_Num e_Text e_Names e_Types e_Args e_Arms e_At
  else bif (e_Kind == (5 : Int)) then
    L108_101416 e_Kind (e_Kind == (5 : Int)) e_Num e_Text e_Names e_Types e_Args e_Arms e_At
  else L108_101416 e_Kind (e_Kind == (16 : Int)) e_Num e_Text e_Names e_Types e_Args e_Arms e_At :=
  (V_eq pa rfl _).trans (by kernel_rfl)
theorem e108_101416 (e_Kind : Int) (b : Bool) (e_Num : Int) (e_Text : List UInt8) (e_Names : List PV) (e_Types : List PV) (e_Args : List PV) (e_Arms : List PV) (e_At : Int) : L108_101416 e_Kind b e_Num e_Text e_Names e_Types e_Args e_Arms e_At =
  bif b then
    some (.pv (.int .i64 0), [])
  else bif (e_Kind == (6 : Int)) then
    L108_10141316 e_Kind (e_Kind == (6 : Int)) e_Num e_Text e_Names e_Types e_Args e_Arms e_At
  else bif (e_Kind == (15 : Int)) then
    L108_10141316 e_Kind (e_Kind == (15 : Int)) e_Num e_Text e_Names e_Types e_Args e_Arms e_At
  else L108_10141316 e_Kind (e_Kind == (23 : Int)) e_Num e_Text e_Names e_Types e_Args e_Arms e_At :=
  (LV_eq pa 108 _ _).trans (by kernel_rfl)
theorem e108_10141316 (e_Kind : Int) (b : Bool) (e_Num : Int) (e_Text : List UInt8) (e_Names : List PV) (e_Types : List PV) (e_Args : List PV) (e_Arms : List PV) (e_At : Int) : L108_10141316 e_Kind b e_Num e_Text e_Names e_Types e_Args e_Arms e_At =
  bif b then
    some (.pv (.int .i64 2), [])
  else bif (e_Kind == (7 : Int)) then
    some (.pv (.int .i64 3), [])
  else bif (e_Kind == (10 : Int)) then
    L108_101413131316 e_Kind (e_Kind == (10 : Int)) e_Num e_Text e_Names e_Types e_Args e_Arms e_At
  else bif (e_Kind == (13 : Int)) then
    L108_101413131316 e_Kind (e_Kind == (13 : Int)) e_Num e_Text e_Names e_Types e_Args e_Arms e_At
  else bif (e_Kind == (19 : Int)) then
    L108_101413131316 e_Kind (e_Kind == (19 : Int)) e_Num e_Text e_Names e_Types e_Args e_Arms e_At
  else bif (e_Kind == (20 : Int)) then
    L108_101413131316 e_Kind (e_Kind == (20 : Int)) e_Num e_Text e_Names e_Types e_Args e_Arms e_At
  else bif (e_Kind == (21 : Int)) then
    L108_101413131316 e_Kind (e_Kind == (21 : Int)) e_Num e_Text e_Names e_Types e_Args e_Arms e_At
  else bif (e_Kind == (22 : Int)) then
    L108_101413131316 e_Kind (e_Kind == (22 : Int)) e_Num e_Text e_Names e_Types e_Args e_Arms e_At
  else bif (e_Kind == (24 : Int)) then
    L108_101413131316 e_Kind (e_Kind == (24 : Int)) e_Num e_Text e_Names e_Types e_Args e_Arms e_At
  else L108_101413131316 e_Kind (e_Kind == (25 : Int)) e_Num e_Text e_Names e_Types e_Args e_Arms e_At :=
  (LV_eq pa 108 _ _).trans (by kernel_rfl)
theorem e108_101413131316 (e_Kind : Int) (b : Bool) (e_Num : Int) (e_Text : List UInt8) (e_Names : List PV) (e_Types : List PV) (e_Args : List PV) (e_Arms : List PV) (e_At : Int) : L108_101413131316 e_Kind b e_Num e_Text e_Names e_Types e_Args e_Arms e_At =
  bif b then
    some (.pv (.int .i64 1), [])
  else bif (e_Kind == (18 : Int)) then
    bif decide (e_Num ≥ (0 : Int)) then
      some (.pv (.int .i64 1), [])
    else some (.pv (.int .i64 0), [])
  else bif (e_Kind == (11 : Int)) then
    some (.pv (.int .i64 (bif decide ((e_Args.length : Int) > (1 : Int)) then (e_Args.length : Int) else (1 : Int))), [])
  else bif (e_Kind == (8 : Int)) then
    bif (e_Kind == (8 : Int)) then
      some (.pv (.int .i64 (e_Args.length : Int)), [])
    else some (.pv (.int .i64 (-1)), [])
  else bif (e_Kind == (9 : Int)) then
    bif (e_Kind == (9 : Int)) then
      some (.pv (.int .i64 (e_Args.length : Int)), [])
    else some (.pv (.int .i64 (-1)), [])
  else bif (e_Kind == (12 : Int)) then
    bif (e_Kind == (12 : Int)) then
      some (.pv (.int .i64 (e_Args.length : Int)), [])
    else some (.pv (.int .i64 (-1)), [])
  else bif (e_Kind == (14 : Int)) then
    bif (e_Kind == (14 : Int)) then
      some (.pv (.int .i64 (e_Args.length : Int)), [])
    else some (.pv (.int .i64 (-1)), [])
  else bif (e_Kind == (17 : Int)) then
    some (.pv (.int .i64 (e_Args.length : Int)), [])
  else some (.pv (.int .i64 (-1)), []) :=
  (LV_eq pa 108 _ _).trans (by kernel_rfl)
end Go.AL.S3
