/- Equations of functions in the abstract machine: printed by gen.py. -/
import Derived.Test.YtofjejdlggmcjaaS1T
set_option linter.unusedVariables false
set_option maxRecDepth 100000
namespace Go.AL.S1
open Go Go.AL
/-! 14 roadstead/roadkeep2.TreeWhole -/
def st14_1111014 (i : Int) (i1 : Int) (i2 : Int) (v : List PV) (i3 : Int) (e_Kind : Int) (e_Num : Int) (e_Text : List UInt8) (e_Names : List PV) (e_Types : List PV) (e_Args : List PV) (e_Arms : List PV) (e_At : Int) : AS :=
  ⟨[.any, .box 0 0, .any, .pv (.int .i64 i), .pv (.int .i64 i1), .pv (.int .i64 i2), .any, .any, .any, .any, .any, .any, .any, .any, .pv (.lst v), .pv (.int .i64 (v.length : Int)), .pv (.int .i64 i3), .any, .any, .any, .any, .any, .any, .any, .any, .any, .any, .any, .any, .any, .any, .any, .any, .any, .any, .any, .any, .any, .any, .any, .any, .any, .any, .any, .any, .any, .any, .any, .any, .any, .any, .any], ⟨[(false, [.pv (.int .i64 e_Kind), .pv (.int .i64 e_Num), .pv (.str e_Text), .pv (.lst e_Names), .pv (.lst e_Types), .pv (.lst e_Args), .pv (.lst e_Arms), .pv (.int .i64 e_At)])], [], []⟩⟩
noncomputable def L14_1111014 (i : Int) (i1 : Int) (i2 : Int) (v : List PV) (i3 : Int) (e_Kind : Int) (e_Num : Int) (e_Text : List UInt8) (e_Names : List PV) (e_Types : List PV) (e_Args : List PV) (e_Arms : List PV) (e_At : Int) : Option Out := LV Pr T 14 [1, 1, 1, 1, 0, 1, 4] (st14_1111014 i i1 i2 v i3 e_Kind e_Num e_Text e_Names e_Types e_Args e_Arms e_At)
theorem e14 (e_Kind : Int) (e_Num : Int) (e_Text : List UInt8) (e_Names : List PV) (e_Types : List PV) (e_Args : List PV) (e_Arms : List PV) (e_At : Int) : V 14 [.pv (.agg [.int .i64 e_Kind, .int .i64 e_Num, .str e_Text, .lst e_Names, .lst e_Types, .lst e_Args, .lst e_Arms, .int .i64 e_At])] =
  ((V 43 [.pv (.agg [.int .i64 e_Kind, .int .i64 e_Num, .str e_Text, .lst e_Names, .lst e_Types, .lst e_Args, .lst e_Arms, .int .i64 e_At])]).bind retPV).bind fun r =>
    (bif (Sh.int .i64).fits r then
      bif decide ((r.toInt) > (400 : Int)) then
        some (.pv (.bool true), [])
      else ((V 47 []).bind retPV).bind fun r1 =>
        (bif (Sh.bool).fits r1 then
          bif (!r1.toBool) then
            some (.pv (.bool false), [])
          else ((V 48 [.pv (.agg [.int .i64 e_Kind, .int .i64 e_Num, .str e_Text, .lst e_Names, .lst e_Types, .lst e_Args, .lst e_Arms, .int .i64 e_At])]).bind retPV).bind fun r2 =>
            (bif (Sh.lst).fits r2 then
              L14_1111014 1 1 0 r2.toLst 0 e_Kind e_Num e_Text e_Names e_Types e_Args e_Arms e_At
            else none)
        else none)
    else none) :=
  (V_eq pa rfl _).trans (by kernel_rfl)
theorem e14_1111014 (i : Int) (i1 : Int) (i2 : Int) (v : List PV) (i3 : Int) (e_Kind : Int) (e_Num : Int) (e_Text : List UInt8) (e_Names : List PV) (e_Types : List PV) (e_Args : List PV) (e_Arms : List PV) (e_At : Int) : L14_1111014 i i1 i2 v i3 e_Kind e_Num e_Text e_Names e_Types e_Args e_Arms e_At =
  bif decide (i3 < (v.length : Int)) then
    bif decide (0 ≤ i3) then
      (v[i3.toNat]?).bind fun x =>
        (bif (Sh.agg [Sh.int .i64, Sh.int .i64, Sh.str, Sh.lst, Sh.lst, Sh.lst, Sh.lst, Sh.int .i64]).fits x then
          ((V 49 [.pv (.agg [.int .i64 ((x.c 0).toInt), .int .i64 ((x.c 1).toInt), .str ((x.c 2).toStr), .lst ((x.c 3).toLst), .lst ((x.c 4).toLst), .lst ((x.c 5).toLst), .lst ((x.c 6).toLst), .int .i64 ((x.c 7).toInt)])]).bind retPV).bind fun r =>
            (bif (Sh.int .i64).fits r then
              ((V 50 [.pv (.agg [.int .i64 ((x.c 0).toInt), .int .i64 ((x.c 1).toInt), .str ((x.c 2).toStr), .lst ((x.c 3).toLst), .lst ((x.c 4).toLst), .lst ((x.c 5).toLst), .lst ((x.c 6).toLst), .int .i64 ((x.c 7).toInt)])]).bind retPV).bind fun r1 =>
                (bif (Sh.lst).fits r1 then
                  ((V 51 [.pv (.agg [.int .i64 ((x.c 0).toInt), .int .i64 ((x.c 1).toInt), .str ((x.c 2).toStr), .lst ((x.c 3).toLst), .lst ((x.c 4).toLst), .lst ((x.c 5).toLst), .lst ((x.c 6).toLst), .int .i64 ((x.c 7).toInt)])]).bind retPV).bind fun r2 =>
                    (bif (Sh.int .i64).fits r2 then
                      L14_1111014 (IntKind.i64.wrap (i + (r.toInt))) (IntKind.i64.wrap (i1 + (r1.toLst.length : Int))) (bif decide ((r2.toInt) > i2) then (r2.toInt) else i2) v (IntKind.i64.wrap (i3 + (1 : Int))) e_Kind e_Num e_Text e_Names e_Types e_Args e_Arms e_At
                    else none)
                else none)
            else none)
        else none)
    else none
  else ((V 50 [.pv (.agg [.int .i64 e_Kind, .int .i64 e_Num, .str e_Text, .lst e_Names, .lst e_Types, .lst e_Args, .lst e_Arms, .int .i64 e_At])]).bind retPV).bind fun r3 =>
    (bif (Sh.lst).fits r3 then
      bif ((r3.toLst.length : Int) == i1) then
        ((V 49 [.pv (.agg [.int .i64 e_Kind, .int .i64 e_Num, .str e_Text, .lst e_Names, .lst e_Types, .lst e_Args, .lst e_Arms, .int .i64 e_At])]).bind retPV).bind fun r4 =>
          (bif (Sh.int .i64).fits r4 then
            bif decide ((r4.toInt) ≥ i) then
              ((V 51 [.pv (.agg [.int .i64 e_Kind, .int .i64 e_Num, .str e_Text, .lst e_Names, .lst e_Types, .lst e_Args, .lst e_Arms, .int .i64 e_At])]).bind retPV).bind fun r5 =>
                (bif (Sh.int .i64).fits r5 then
                  some (.pv (.bool (decide ((r5.toInt) ≥ (IntKind.i64.wrap (i2 + (1 : Int)))))), [])
                else none)
            else some (.pv (.bool false), [])
          else none)
      else some (.pv (.bool false), [])
    else none) :=
  (LV_eq pa 14 _ _).trans (by kernel_rfl)
/-! 43 roadstead/roadref2.SizeOf -/
def st43_11014 (i : Int) (v : List PV) (i1 : Int) : AS :=
  ⟨[.any, .any, .any, .pv (.int .i64 i), .any, .any, .any, .any, .any, .pv (.lst v), .pv (.int .i64 (v.length : Int)), .pv (.int .i64 i1), .any, .any, .any, .any, .any, .any, .any, .any, .any, .any, .any, .any, .any, .any, .any, .any, .any, .any, .any, .any, .any], ⟨[], [], []⟩⟩
noncomputable def L43_11014 (i : Int) (v : List PV) (i1 : Int) : Option Out := LV Pr T 43 [1, 1, 0, 1, 4] (st43_11014 i v i1)
def st43_11014511041114 (i : Int) (v : List PV) (i2 : Int) (v1 : List PV) (i1 : Int) : AS :=
  ⟨[.any, .any, .any, .pv (.int .i64 i), .any, .any, .any, .any, .any, .pv (.lst v), .pv (.int .i64 (v.length : Int)), .pv (.int .i64 i2), .any, .any, .any, .any, .any, .any, .pv (.lst v1), .pv (.int .i64 (v1.length : Int)), .pv (.int .i64 i1), .any, .any, .any, .any, .any, .any, .any, .any, .any, .any, .any, .any], ⟨[], [], []⟩⟩
noncomputable def L43_11014511041114 (i : Int) (v : List PV) (i2 : Int) (v1 : List PV) (i1 : Int) : Option Out := LV Pr T 43 [1, 1, 0, 1, 4, 5, 1, 1, 0, 4, 1, 1, 1, 4] (st43_11014511041114 i v i2 v1 i1)
theorem e43 (e_Kind : Int) (e_Num : Int) (e_Text : List UInt8) (e_Names : List PV) (e_Types : List PV) (e_Args : List PV) (e_Arms : List PV) (e_At : Int) : V 43 [.pv (.agg [.int .i64 e_Kind, .int .i64 e_Num, .str e_Text, .lst e_Names, .lst e_Types, .lst e_Args, .lst e_Arms, .int .i64 e_At])] =
  ((V 86 [.pv (.agg [.int .i64 e_Kind, .int .i64 e_Num, .str e_Text, .lst e_Names, .lst e_Types, .lst e_Args, .lst e_Arms, .int .i64 e_At])]).bind retPV).bind fun r =>
    (bif (Sh.lst).fits r then
      L43_11014 0 r.toLst 0
    else none) :=
  (V_eq pa rfl _).trans (by kernel_rfl)
theorem e43_11014 (i : Int) (v : List PV) (i1 : Int) : L43_11014 i v i1 =
  bif decide (i1 < (v.length : Int)) then
    bif decide (0 ≤ i1) then
      (v[i1.toNat]?).bind fun x =>
        (bif (Sh.agg [Sh.int .i64, Sh.int .i64, Sh.str, Sh.lst, Sh.lst, Sh.lst, Sh.lst, Sh.int .i64]).fits x then
          L43_11014511041114 (IntKind.i64.wrap (i + (1 : Int))) v i1 ((x.c 6).toLst) 0
        else none)
    else none
  else some (.pv (.int .i64 i), []) :=
  (LV_eq pa 43 _ _).trans (by kernel_rfl)
theorem e43_11014511041114 (i : Int) (v : List PV) (i2 : Int) (v1 : List PV) (i1 : Int) : L43_11014511041114 i v i2 v1 i1 =
  bif decide (i1 < (v1.length : Int)) then
    bif decide (0 ≤ i1) then
      (v1[i1.toNat]?).bind fun x =>
        (bif (Sh.agg [Sh.int .i64, Sh.int .i64, Sh.str, Sh.lst, Sh.int .i64, Sh.int .i64, Sh.str, Sh.lst, Sh.lst, Sh.lst, Sh.lst, Sh.int .i64]).fits x then
          ((V 87 [.pv (.agg [.int .i64 ((x.c 0).toInt), .int .i64 ((x.c 1).toInt), .str ((x.c 2).toStr), .lst ((x.c 3).toLst)])]).bind retPV).bind fun r =>
            (bif (Sh.lst).fits r then
              L43_11014511041114 (IntKind.i64.wrap (i + (r.toLst.length : Int))) v i2 v1 (IntKind.i64.wrap (i1 + (1 : Int)))
            else none)
        else none)
    else none
  else L43_11014 i v (IntKind.i64.wrap (i2 + (1 : Int))) :=
  (LV_eq pa 43 _ _).trans (by kernel_rfl)
/-! 47 roadstead/roadkeep2.walks -/
theorem e47  : V 47 [] =
  ((V 49 [.pv (.agg [.int .i64 6, .int .i64 0, .str [120], .lst [], .lst [], .lst [.agg [.int .i64 2, .int .i64 0, .str [], .lst [], .lst [], .lst [], .lst [], .int .i64 0], .agg [.int .i64 5, .int .i64 0, .str [121], .lst [], .lst [], .lst [], .lst [], .int .i64 0]], .lst [], .int .i64 0])]).bind retPV).bind fun r =>
    (bif (Sh.int .i64).fits r then
      bif ((r.toInt) == (3 : Int)) then
        ((V 50 [.pv (.agg [.int .i64 6, .int .i64 0, .str [120], .lst [], .lst [], .lst [.agg [.int .i64 2, .int .i64 0, .str [], .lst [], .lst [], .lst [], .lst [], .int .i64 0], .agg [.int .i64 5, .int .i64 0, .str [121], .lst [], .lst [], .lst [], .lst [], .int .i64 0]], .lst [], .int .i64 0])]).bind retPV).bind fun r1 =>
          (bif (Sh.lst).fits r1 then
            bif ((r1.toLst.length : Int) == (3 : Int)) then
              ((V 57 [.pv (.agg [.int .i64 6, .int .i64 0, .str [120], .lst [], .lst [], .lst [.agg [.int .i64 2, .int .i64 0, .str [], .lst [], .lst [], .lst [], .lst [], .int .i64 0], .agg [.int .i64 5, .int .i64 0, .str [121], .lst [], .lst [], .lst [], .lst [], .int .i64 0]], .lst [], .int .i64 0])]).bind retPV).bind fun r2 =>
                (bif (Sh.lst).fits r2 then
                  ((V 60 [.pv (.lst r2.toLst), .pv (.lst [.str [121]])]).bind retPV).bind fun r3 =>
                    (bif (Sh.bool).fits r3 then
                      some (.pv (.bool r3.toBool), [])
                    else none)
                else none)
            else some (.pv (.bool false), [])
          else none)
      else some (.pv (.bool false), [])
    else none) :=
  (V_eq pa rfl _).trans (by kernel_rfl)
/-! 48 roadstead/tree.Parts -/
def st48_11014 (l : List PV) (e_Arms : List PV) (i : Int) : AS :=
  ⟨[.any, .any, .any, .bld 0 0 l, .any, .any, .any, .any, .any, .any, .pv (.lst e_Arms), .pv (.int .i64 (e_Arms.length : Int)), .pv (.int .i64 i), .any, .any, .any, .any, .any, .any, .any, .any, .any, .any], ⟨[], [], [(0, 8)]⟩⟩
noncomputable def L48_11014 (l : List PV) (e_Arms : List PV) (i : Int) : Option Out := LV Pr T 48 [1, 1, 0, 1, 4] (st48_11014 l e_Arms i)
theorem e48 (e_Kind : Int) (e_Num : Int) (e_Text : List UInt8) (e_Names : List PV) (e_Types : List PV) (e_Args : List PV) (e_Arms : List PV) (e_At : Int) : V 48 [.pv (.agg [.int .i64 e_Kind, .int .i64 e_Num, .str e_Text, .lst e_Names, .lst e_Types, .lst e_Args, .lst e_Arms, .int .i64 e_At])] =
  (V 91 [.pv (.lst e_Args)]).bind fun r =>
    ((retB 8 r).bind fun l =>
      (L48_11014 l e_Arms 0)) :=
  (V_eq pa rfl _).trans (by kernel_rfl)
theorem e48_11014 (l : List PV) (e_Arms : List PV) (i : Int) : L48_11014 l e_Arms i =
  bif decide (i < (e_Arms.length : Int)) then
    bif decide (0 ≤ i) then
      (e_Arms[i.toNat]?).bind fun x =>
        (bif (Sh.agg [Sh.int .i64, Sh.int .i64, Sh.str, Sh.lst, Sh.int .i64, Sh.int .i64, Sh.str, Sh.lst, Sh.lst, Sh.lst, Sh.lst, Sh.int .i64]).fits x then
          bif small (l.length) 1 136 then
            L48_11014 (l ++ [.agg [.int .i64 ((x.c 4).toInt), .int .i64 ((x.c 5).toInt), .str ((x.c 6).toStr), .lst ((x.c 7).toLst), .lst ((x.c 8).toLst), .lst ((x.c 9).toLst), .lst ((x.c 10).toLst), .int .i64 ((x.c 11).toInt)]]) e_Arms (IntKind.i64.wrap (i + (1 : Int)))
          else none
        else none)
    else none
  else some (.bld 8 l, []) :=
  (LV_eq pa 48 _ _).trans (by kernel_rfl)
/-! 49 roadstead/tree.Size -/
def st49_11014 (i : Int) (e_Args : List PV) (i1 : Int) (e_Kind : Int) (e_Num : Int) (e_Text : List UInt8) (e_Names : List PV) (e_Types : List PV) (e_Arms : List PV) (e_At : Int) : AS :=
  ⟨[.any, .box 0 0, .any, .pv (.int .i64 i), .any, .any, .any, .any, .any, .pv (.lst e_Args), .pv (.int .i64 (e_Args.length : Int)), .pv (.int .i64 i1), .any, .any, .any, .any, .any, .any, .any, .any, .any, .any, .any, .any, .any, .any, .any, .any, .any, .any, .any, .any, .any, .any, .any, .any, .any, .any], ⟨[(false, [.pv (.int .i64 e_Kind), .pv (.int .i64 e_Num), .pv (.str e_Text), .pv (.lst e_Names), .pv (.lst e_Types), .pv (.lst e_Args), .pv (.lst e_Arms), .pv (.int .i64 e_At)])], [], []⟩⟩
noncomputable def L49_11014 (i : Int) (e_Args : List PV) (i1 : Int) (e_Kind : Int) (e_Num : Int) (e_Text : List UInt8) (e_Names : List PV) (e_Types : List PV) (e_Arms : List PV) (e_At : Int) : Option Out := LV Pr T 49 [1, 1, 0, 1, 4] (st49_11014 i e_Args i1 e_Kind e_Num e_Text e_Names e_Types e_Arms e_At)
def st49_111014 (i1 : Int) (e_Arms : List PV) (i : Int) : AS :=
  ⟨[.any, .any, .any, .pv (.int .i64 i1), .any, .any, .any, .any, .any, .any, .any, .any, .any, .any, .any, .any, .any, .any, .any, .any, .any, .pv (.lst e_Arms), .pv (.int .i64 (e_Arms.length : Int)), .pv (.int .i64 i), .any, .any, .any, .any, .any, .any, .any, .any, .any, .any, .any, .any, .any, .any], ⟨[], [], []⟩⟩
noncomputable def L49_111014 (i1 : Int) (e_Arms : List PV) (i : Int) : Option Out := LV Pr T 49 [1, 1, 1, 0, 1, 4] (st49_111014 i1 e_Arms i)
theorem e49 (e_Kind : Int) (e_Num : Int) (e_Text : List UInt8) (e_Names : List PV) (e_Types : List PV) (e_Args : List PV) (e_Arms : List PV) (e_At : Int) : V 49 [.pv (.agg [.int .i64 e_Kind, .int .i64 e_Num, .str e_Text, .lst e_Names, .lst e_Types, .lst e_Args, .lst e_Arms, .int .i64 e_At])] =
  L49_11014 1 e_Args 0 e_Kind e_Num e_Text e_Names e_Types e_Arms e_At :=
  (V_eq pa rfl _).trans (by kernel_rfl)
theorem e49_11014 (i : Int) (e_Args : List PV) (i1 : Int) (e_Kind : Int) (e_Num : Int) (e_Text : List UInt8) (e_Names : List PV) (e_Types : List PV) (e_Arms : List PV) (e_At : Int) : L49_11014 i e_Args i1 e_Kind e_Num e_Text e_Names e_Types e_Arms e_At =
  bif decide (i1 < (e_Args.length : Int)) then
    bif decide (0 ≤ i1) then
      (e_Args[i1.toNat]?).bind fun x =>
        (bif (Sh.agg [Sh.int .i64, Sh.int .i64, Sh.str, Sh.lst, Sh.lst, Sh.lst, Sh.lst, Sh.int .i64]).fits x then
          ((V 49 [.pv (.agg [.int .i64 ((x.c 0).toInt), .int .i64 ((x.c 1).toInt), .str ((x.c 2).toStr), .lst ((x.c 3).toLst), .lst ((x.c 4).toLst), .lst ((x.c 5).toLst), .lst ((x.c 6).toLst), .int .i64 ((x.c 7).toInt)])]).bind retPV).bind fun r =>
            (bif (Sh.int .i64).fits r then
              L49_11014 (IntKind.i64.wrap (i + (r.toInt))) e_Args (IntKind.i64.wrap (i1 + (1 : Int))) e_Kind e_Num e_Text e_Names e_Types e_Arms e_At
            else none)
        else none)
    else none
  else L49_111014 i e_Arms 0 :=
  (LV_eq pa 49 _ _).trans (by kernel_rfl)
theorem e49_111014 (i1 : Int) (e_Arms : List PV) (i : Int) : L49_111014 i1 e_Arms i =
  bif decide (i < (e_Arms.length : Int)) then
    bif decide (0 ≤ i) then
      (e_Arms[i.toNat]?).bind fun x =>
        (bif (Sh.agg [Sh.int .i64, Sh.int .i64, Sh.str, Sh.lst, Sh.int .i64, Sh.int .i64, Sh.str, Sh.lst, Sh.lst, Sh.lst, Sh.lst, Sh.int .i64]).fits x then
          ((V 49 [.pv (.agg [.int .i64 ((x.c 4).toInt), .int .i64 ((x.c 5).toInt), .str ((x.c 6).toStr), .lst ((x.c 7).toLst), .lst ((x.c 8).toLst), .lst ((x.c 9).toLst), .lst ((x.c 10).toLst), .int .i64 ((x.c 11).toInt)])]).bind retPV).bind fun r =>
            (bif (Sh.int .i64).fits r then
              ((V 92 [.pv (.agg [.int .i64 ((x.c 0).toInt), .int .i64 ((x.c 1).toInt), .str ((x.c 2).toStr), .lst ((x.c 3).toLst)])]).bind retPV).bind fun r1 =>
                (bif (Sh.int .i64).fits r1 then
                  L49_111014 (IntKind.i64.wrap (i1 + (IntKind.i64.wrap ((r.toInt) + (r1.toInt))))) e_Arms (IntKind.i64.wrap (i + (1 : Int)))
                else none)
            else none)
        else none)
    else none
  else some (.pv (.int .i64 i1), []) :=
  (LV_eq pa 49 _ _).trans (by kernel_rfl)
/-! 50 roadstead/tree.Walk -/
def st50_11014 (l : List PV) (v : List PV) (i : Int) : AS :=
  ⟨[.any, .any, .any, .bld 0 0 l, .any, .any, .any, .any, .any, .pv (.lst v), .pv (.int .i64 (v.length : Int)), .pv (.int .i64 i), .any, .any, .any, .any, .any, .any, .any, .any, .any], ⟨[], [], [(0, 8)]⟩⟩
noncomputable def L50_11014 (l : List PV) (v : List PV) (i : Int) : Option Out := LV Pr T 50 [1, 1, 0, 1, 4] (st50_11014 l v i)
theorem e50 (e_Kind : Int) (e_Num : Int) (e_Text : List UInt8) (e_Names : List PV) (e_Types : List PV) (e_Args : List PV) (e_Arms : List PV) (e_At : Int) : V 50 [.pv (.agg [.int .i64 e_Kind, .int .i64 e_Num, .str e_Text, .lst e_Names, .lst e_Types, .lst e_Args, .lst e_Arms, .int .i64 e_At])] =
  ((V 48 [.pv (.agg [.int .i64 e_Kind, .int .i64 e_Num, .str e_Text, .lst e_Names, .lst e_Types, .lst e_Args, .lst e_Arms, .int .i64 e_At])]).bind retPV).bind fun r =>
    (bif (Sh.lst).fits r then
      L50_11014 [.agg [.int .i64 e_Kind, .int .i64 e_Num, .str e_Text, .lst e_Names, .lst e_Types, .lst e_Args, .lst e_Arms, .int .i64 e_At]] r.toLst 0
    else none) :=
  (V_eq pa rfl _).trans (by kernel_rfl)
theorem e50_11014 (l : List PV) (v : List PV) (i : Int) : L50_11014 l v i =
  bif decide (i < (v.length : Int)) then
    bif decide (0 ≤ i) then
      (v[i.toNat]?).bind fun x =>
        (bif (Sh.agg [Sh.int .i64, Sh.int .i64, Sh.str, Sh.lst, Sh.lst, Sh.lst, Sh.lst, Sh.int .i64]).fits x then
          ((V 50 [.pv (.agg [.int .i64 ((x.c 0).toInt), .int .i64 ((x.c 1).toInt), .str ((x.c 2).toStr), .lst ((x.c 3).toLst), .lst ((x.c 4).toLst), .lst ((x.c 5).toLst), .lst ((x.c 6).toLst), .int .i64 ((x.c 7).toInt)])]).bind retPV).bind fun r =>
            (bif (Sh.lst).fits r then
              bif headOk 8 r.toLst then
                bif small (l.length) (r.toLst.length) 136 then
                  L50_11014 (l ++ r.toLst) v (IntKind.i64.wrap (i + (1 : Int)))
                else none
              else none
            else none)
        else none)
    else none
  else some (.bld 8 l, []) :=
  (LV_eq pa 50 _ _).trans (by kernel_rfl)
/-! 51 roadstead/tree.Deep -/
def st51_11014 (i : Int) (e_Args : List PV) (i1 : Int) (e_Kind : Int) (e_Num : Int) (e_Text : List UInt8) (e_Names : List PV) (e_Types : List PV) (e_Arms : List PV) (e_At : Int) : AS :=
  ⟨[.any, .box 0 0, .any, .pv (.int .i64 i), .any, .any, .any, .any, .any, .pv (.lst e_Args), .pv (.int .i64 (e_Args.length : Int)), .pv (.int .i64 i1), .any, .any, .any, .any, .any, .any, .any, .any, .any, .any, .any, .any, .any, .any, .any, .any, .any, .any, .any, .any, .any, .any, .any, .any, .any, .any], ⟨[(false, [.pv (.int .i64 e_Kind), .pv (.int .i64 e_Num), .pv (.str e_Text), .pv (.lst e_Names), .pv (.lst e_Types), .pv (.lst e_Args), .pv (.lst e_Arms), .pv (.int .i64 e_At)])], [], []⟩⟩
noncomputable def L51_11014 (i : Int) (e_Args : List PV) (i1 : Int) (e_Kind : Int) (e_Num : Int) (e_Text : List UInt8) (e_Names : List PV) (e_Types : List PV) (e_Arms : List PV) (e_At : Int) : Option Out := LV Pr T 51 [1, 1, 0, 1, 4] (st51_11014 i e_Args i1 e_Kind e_Num e_Text e_Names e_Types e_Arms e_At)
def st51_111014 (i1 : Int) (e_Arms : List PV) (i : Int) : AS :=
  ⟨[.any, .any, .any, .pv (.int .i64 i1), .any, .any, .any, .any, .any, .any, .any, .any, .any, .any, .any, .any, .any, .any, .any, .any, .any, .pv (.lst e_Arms), .pv (.int .i64 (e_Arms.length : Int)), .pv (.int .i64 i), .any, .any, .any, .any, .any, .any, .any, .any, .any, .any, .any, .any, .any, .any], ⟨[], [], []⟩⟩
noncomputable def L51_111014 (i1 : Int) (e_Arms : List PV) (i : Int) : Option Out := LV Pr T 51 [1, 1, 1, 0, 1, 4] (st51_111014 i1 e_Arms i)
theorem e51 (e_Kind : Int) (e_Num : Int) (e_Text : List UInt8) (e_Names : List PV) (e_Types : List PV) (e_Args : List PV) (e_Arms : List PV) (e_At : Int) : V 51 [.pv (.agg [.int .i64 e_Kind, .int .i64 e_Num, .str e_Text, .lst e_Names, .lst e_Types, .lst e_Args, .lst e_Arms, .int .i64 e_At])] =
  L51_11014 0 e_Args 0 e_Kind e_Num e_Text e_Names e_Types e_Arms e_At :=
  (V_eq pa rfl _).trans (by kernel_rfl)
theorem e51_11014 (i : Int) (e_Args : List PV) (i1 : Int) (e_Kind : Int) (e_Num : Int) (e_Text : List UInt8) (e_Names : List PV) (e_Types : List PV) (e_Arms : List PV) (e_At : Int) : L51_11014 i e_Args i1 e_Kind e_Num e_Text e_Names e_Types e_Arms e_At =
  bif decide (i1 < (e_Args.length : Int)) then
    bif decide (0 ≤ i1) then
      (e_Args[i1.toNat]?).bind fun x =>
        (bif (Sh.agg [Sh.int .i64, Sh.int .i64, Sh.str, Sh.lst, Sh.lst, Sh.lst, Sh.lst, Sh.int .i64]).fits x then
          ((V 51 [.pv (.agg [.int .i64 ((x.c 0).toInt), .int .i64 ((x.c 1).toInt), .str ((x.c 2).toStr), .lst ((x.c 3).toLst), .lst ((x.c 4).toLst), .lst ((x.c 5).toLst), .lst ((x.c 6).toLst), .int .i64 ((x.c 7).toInt)])]).bind retPV).bind fun r =>
            (bif (Sh.int .i64).fits r then
              L51_11014 (bif decide ((r.toInt) > i) then (r.toInt) else i) e_Args (IntKind.i64.wrap (i1 + (1 : Int))) e_Kind e_Num e_Text e_Names e_Types e_Arms e_At
            else none)
        else none)
    else none
  else L51_111014 i e_Arms 0 :=
  (LV_eq pa 51 _ _).trans (by kernel_rfl)
theorem e51_111014 (i1 : Int) (e_Arms : List PV) (i : Int) : L51_111014 i1 e_Arms i =
  bif decide (i < (e_Arms.length : Int)) then
    bif decide (0 ≤ i) then
      (e_Arms[i.toNat]?).bind fun x =>
        (bif (Sh.agg [Sh.int .i64, Sh.int .i64, Sh.str, Sh.lst, Sh.int .i64, Sh.int .i64, Sh.str, Sh.lst, Sh.lst, Sh.lst, Sh.lst, Sh.int .i64]).fits x then
          ((V 51 [.pv (.agg [.int .i64 ((x.c 4).toInt), .int .i64 ((x.c 5).toInt), .str ((x.c 6).toStr), .lst ((x.c 7).toLst), .lst ((x.c 8).toLst), .lst ((x.c 9).toLst), .lst ((x.c 10).toLst), .int .i64 ((x.c 11).toInt)])]).bind retPV).bind fun r =>
            (bif (Sh.int .i64).fits r then
              ((V 93 [.pv (.agg [.int .i64 ((x.c 0).toInt), .int .i64 ((x.c 1).toInt), .str ((x.c 2).toStr), .lst ((x.c 3).toLst)])]).bind retPV).bind fun r1 =>
                (bif (Sh.int .i64).fits r1 then
                  L51_111014 (bif decide ((r1.toInt) > (bif decide ((r.toInt) > i1) then (r.toInt) else i1)) then (r1.toInt) else (bif decide ((r.toInt) > i1) then (r.toInt) else i1)) e_Arms (IntKind.i64.wrap (i + (1 : Int)))
                else none)
            else none)
        else none)
    else none
  else some (.pv (.int .i64 (IntKind.i64.wrap (i1 + (1 : Int)))), []) :=
  (LV_eq pa 51 _ _).trans (by kernel_rfl)
/-! 57 roadstead/tree.Free -/
theorem e57 (e_Kind : Int) (e_Num : Int) (e_Text : List UInt8) (e_Names : List PV) (e_Types : List PV) (e_Args : List PV) (e_Arms : List PV) (e_At : Int) : V 57 [.pv (.agg [.int .i64 e_Kind, .int .i64 e_Num, .str e_Text, .lst e_Names, .lst e_Types, .lst e_Args, .lst e_Arms, .int .i64 e_At])] =
  (V 94 [.pv (.agg [.int .i64 e_Kind, .int .i64 e_Num, .str e_Text, .lst e_Names, .lst e_Types, .lst e_Args, .lst e_Arms, .int .i64 e_At]), .pv (.lst []), .bld 1 []]).bind fun r =>
    ((retB 1 r).bind fun l =>
      (some (.bld 1 l, []))) :=
  (V_eq pa rfl _).trans (by kernel_rfl)
/-! 60 slices.Equal[[]string,string] -/
def st60_11014 (s1 : List PV) (s2 : List PV) (i : Int) : AS :=
  ⟨[.pv (.lst s1), .pv (.lst s2), .any, .any, .any, .any, .any, .any, .any, .any, .any, .any, .pv (.int .i64 (s1.length : Int)), .pv (.int .i64 i), .any, .any, .any, .any, .any, .any, .any, .any, .any, .any, .any, .any], ⟨[], [], []⟩⟩
noncomputable def L60_11014 (s1 : List PV) (s2 : List PV) (i : Int) : Option Out := LV Pr T 60 [1, 1, 0, 1, 4] (st60_11014 s1 s2 i)
theorem e60 (s1 : List PV) (s2 : List PV) : V 60 [.pv (.lst s1), .pv (.lst s2)] =
  bif ((s1.length : Int) != (s2.length : Int)) then
    some (.pv (.bool false), [])
  else L60_11014 s1 s2 0 :=
  (V_eq pa rfl _).trans (by kernel_rfl)
theorem e60_11014 (s1 : List PV) (s2 : List PV) (i : Int) : L60_11014 s1 s2 i =
  bif decide (i < (s1.length : Int)) then
    bif decide (0 ≤ i) then
      (s1[i.toNat]?).bind fun x =>
        (bif (Sh.str).fits x then
          bif decide (0 ≤ i) then
            (s2[i.toNat]?).bind fun x1 =>
              (bif (Sh.str).fits x1 then
                bif (!(x.toStr == x1.toStr)) then
                  some (.pv (.bool false), [])
                else L60_11014 s1 s2 (IntKind.i64.wrap (i + (1 : Int)))
              else none)
          else none
        else none)
    else none
  else some (.pv (.bool true), []) :=
  (LV_eq pa 60 _ _).trans (by kernel_rfl)
/-! 86 roadstead/roadref2.All -/
def st86_11104 (l : List PV) (l2 : List PV) : AS :=
  ⟨[.any, .any, .any, .vec 0 0, .bld 0 0 l, .any, .any, .any, .any, .any, .any, .any, .any, .any, .any, .any, .any, .any, .any, .any, .any, .any, .any, .any, .any, .any, .any, .any, .any, .any, .any, .any, .any, .any, .any, .any, .any, .any, .any, .any, .any, .any, .any, .any, .any, .any, .any, .any, .any, .any, .any, .any, .any, .any, .any, .any, .any, .any, .any, .any, .any, .any], ⟨[], [some (0, 8, l2)], [(0, 8)]⟩⟩
noncomputable def L86_11104 (l : List PV) (l2 : List PV) : Option Out := LV Pr T 86 [1, 1, 1, 0, 4] (st86_11104 l l2)
def st86_11104514111014 (l1 : List PV) (i : Int) (e_Kind : Int) (e_Num : Int) (e_Text : List UInt8) (e_Names : List PV) (e_Types : List PV) (e_Args : List PV) (e_Arms : List PV) (e_At : Int) (l : List PV) : AS :=
  ⟨[.any, .any, .any, .vec 0 0, .bld 0 0 l1, .box 0 0, .pv (.int .i64 i), .any, .any, .any, .any, .any, .any, .any, .any, .any, .any, .any, .any, .any, .any, .any, .any, .any, .any, .any, .any, .any, .any, .any, .any, .any, .any, .any, .any, .any, .any, .any, .any, .any, .any, .any, .any, .any, .any, .any, .any, .any, .any, .any, .any, .any, .any, .any, .any, .any, .any, .any, .any, .any, .any, .any], ⟨[(false, [.pv (.int .i64 e_Kind), .pv (.int .i64 e_Num), .pv (.str e_Text), .pv (.lst e_Names), .pv (.lst e_Types), .pv (.lst e_Args), .pv (.lst e_Arms), .pv (.int .i64 e_At)])], [some (0, 8, l)], [(0, 8)]⟩⟩
noncomputable def L86_11104514111014 (l1 : List PV) (i : Int) (e_Kind : Int) (e_Num : Int) (e_Text : List UInt8) (e_Names : List PV) (e_Types : List PV) (e_Args : List PV) (e_Arms : List PV) (e_At : Int) (l : List PV) : Option Out := LV Pr T 86 [1, 1, 1, 0, 4, 5, 1, 4, 1, 1, 1, 0, 1, 4] (st86_11104514111014 l1 i e_Kind e_Num e_Text e_Names e_Types e_Args e_Arms e_At l)
def st86_11104514111114 (l2 : List PV) (i : Int) (e_Kind : Int) (e_Num : Int) (e_Text : List UInt8) (e_Names : List PV) (e_Types : List PV) (e_Args : List PV) (e_Arms : List PV) (e_At : Int) (l1 : List PV) : AS :=
  ⟨[.any, .any, .any, .vec 0 0, .bld 0 0 l2, .box 0 0, .any, .pv (.int .i64 i), .any, .any, .any, .any, .any, .any, .any, .any, .any, .any, .any, .any, .any, .any, .any, .any, .any, .any, .any, .any, .any, .any, .any, .any, .any, .any, .any, .any, .any, .any, .any, .any, .any, .any, .any, .any, .any, .any, .any, .any, .any, .any, .any, .any, .any, .any, .any, .any, .any, .any, .any, .any, .any, .any], ⟨[(false, [.pv (.int .i64 e_Kind), .pv (.int .i64 e_Num), .pv (.str e_Text), .pv (.lst e_Names), .pv (.lst e_Types), .pv (.lst e_Args), .pv (.lst e_Arms), .pv (.int .i64 e_At)])], [some (0, 8, l1)], [(0, 8)]⟩⟩
noncomputable def L86_11104514111114 (l2 : List PV) (i : Int) (e_Kind : Int) (e_Num : Int) (e_Text : List UInt8) (e_Names : List PV) (e_Types : List PV) (e_Args : List PV) (e_Arms : List PV) (e_At : Int) (l1 : List PV) : Option Out := LV Pr T 86 [1, 1, 1, 0, 4, 5, 1, 4, 1, 1, 1, 1, 1, 4] (st86_11104514111114 l2 i e_Kind e_Num e_Text e_Names e_Types e_Args e_Arms e_At l1)
theorem e86 (e_Kind : Int) (e_Num : Int) (e_Text : List UInt8) (e_Names : List PV) (e_Types : List PV) (e_Args : List PV) (e_Arms : List PV) (e_At : Int) : V 86 [.pv (.agg [.int .i64 e_Kind, .int .i64 e_Num, .str e_Text, .lst e_Names, .lst e_Types, .lst e_Args, .lst e_Arms, .int .i64 e_At])] =
  L86_11104 [] [.agg [.int .i64 e_Kind, .int .i64 e_Num, .str e_Text, .lst e_Names, .lst e_Types, .lst e_Args, .lst e_Arms, .int .i64 e_At]] :=
  (V_eq pa rfl _).trans (by kernel_rfl)
theorem e86_11104 (l : List PV) (l2 : List PV) : L86_11104 l l2 =
  bif decide ((l2.length : Int) > (0 : Int)) then
    bif (decide (0 ≤ (IntKind.i64.wrap ((l2.length : Int) - (1 : Int)))) && decide ((IntKind.i64.wrap ((l2.length : Int) - (1 : Int))) < (l2.length : Int))) then
      (l2[(IntKind.i64.wrap ((l2.length : Int) - (1 : Int))).toNat]?).bind fun y =>
        (bif (Sh.agg [Sh.int .i64, Sh.int .i64, Sh.str, Sh.lst, Sh.lst, Sh.lst, Sh.lst, Sh.int .i64]).fits y then
          bif (decide (0 ≤ (IntKind.i64.wrap ((l2.length : Int) - (1 : Int)))) && decide ((IntKind.i64.wrap ((l2.length : Int) - (1 : Int))) ≤ (l2.length : Int))) then
            bif small (l.length) 1 136 then
              L86_11104514111014 (l ++ [.agg [.int .i64 ((y.c 0).toInt), .int .i64 ((y.c 1).toInt), .str ((y.c 2).toStr), .lst ((y.c 3).toLst), .lst ((y.c 4).toLst), .lst ((y.c 5).toLst), .lst ((y.c 6).toLst), .int .i64 ((y.c 7).toInt)]]) (IntKind.i64.wrap (((y.c 6).toLst.length : Int) - (1 : Int))) ((y.c 0).toInt) ((y.c 1).toInt) ((y.c 2).toStr) ((y.c 3).toLst) ((y.c 4).toLst) ((y.c 5).toLst) ((y.c 6).toLst) ((y.c 7).toInt) (l2.take (IntKind.i64.wrap ((l2.length : Int) - (1 : Int))).toNat)
            else none
          else none
        else none)
    else none
  else some (.bld 8 l, []) :=
  (LV_eq pa 86 _ _).trans (by kernel_rfl)
theorem e86_11104514111014 (l1 : List PV) (i : Int) (e_Kind : Int) (e_Num : Int) (e_Text : List UInt8) (e_Names : List PV) (e_Types : List PV) (e_Args : List PV) (e_Arms : List PV) (e_At : Int) (l : List PV) : L86_11104514111014 l1 i e_Kind e_Num e_Text e_Names e_Types e_Args e_Arms e_At l =
  bif decide (i ≥ (0 : Int)) then
    bif decide (0 ≤ i) then
      (e_Arms[i.toNat]?).bind fun x =>
        (bif (Sh.agg [Sh.int .i64, Sh.int .i64, Sh.str, Sh.lst, Sh.int .i64, Sh.int .i64, Sh.str, Sh.lst, Sh.lst, Sh.lst, Sh.lst, Sh.int .i64]).fits x then
          bif small (l.length) 1 136 then
            L86_11104514111014 l1 (IntKind.i64.wrap (i - (1 : Int))) e_Kind e_Num e_Text e_Names e_Types e_Args e_Arms e_At (l ++ [.agg [.int .i64 ((x.c 4).toInt), .int .i64 ((x.c 5).toInt), .str ((x.c 6).toStr), .lst ((x.c 7).toLst), .lst ((x.c 8).toLst), .lst ((x.c 9).toLst), .lst ((x.c 10).toLst), .int .i64 ((x.c 11).toInt)]])
          else none
        else none)
    else none
  else L86_11104514111114 l1 (IntKind.i64.wrap ((e_Args.length : Int) - (1 : Int))) e_Kind e_Num e_Text e_Names e_Types e_Args e_Arms e_At l :=
  (LV_eq pa 86 _ _).trans (by kernel_rfl)
theorem e86_11104514111114 (l2 : List PV) (i : Int) (e_Kind : Int) (e_Num : Int) (e_Text : List UInt8) (e_Names : List PV) (e_Types : List PV) (e_Args : List PV) (e_Arms : List PV) (e_At : Int) (l1 : List PV) : L86_11104514111114 l2 i e_Kind e_Num e_Text e_Names e_Types e_Args e_Arms e_At l1 =
  bif decide (i ≥ (0 : Int)) then
    bif decide (0 ≤ i) then
      (e_Args[i.toNat]?).bind fun x =>
        (bif (Sh.agg [Sh.int .i64, Sh.int .i64, Sh.str, Sh.lst, Sh.lst, Sh.lst, Sh.lst, Sh.int .i64]).fits x then
          bif small (l1.length) 1 136 then
            L86_11104514111114 l2 (IntKind.i64.wrap (i - (1 : Int))) e_Kind e_Num e_Text e_Names e_Types e_Args e_Arms e_At (l1 ++ [.agg [.int .i64 ((x.c 0).toInt), .int .i64 ((x.c 1).toInt), .str ((x.c 2).toStr), .lst ((x.c 3).toLst), .lst ((x.c 4).toLst), .lst ((x.c 5).toLst), .lst ((x.c 6).toLst), .int .i64 ((x.c 7).toInt)]])
          else none
        else none)
    else none
  else L86_11104 l2 l1 :=
  (LV_eq pa 86 _ _).trans (by kernel_rfl)
/-! 87 roadstead/roadref2.pats -/
def st87_11014 (l : List PV) (i : Int) : AS :=
  ⟨[.any, .any, .any, .bld 0 0 l, .pv (.int .i64 i), .any, .any, .any, .any, .any, .any, .any, .any, .any, .any, .any, .any, .any, .any, .any, .any], ⟨[], [], [(0, 4)]⟩⟩
noncomputable def L87_11014 (l : List PV) (i : Int) : Option Out := LV Pr T 87 [1, 1, 0, 1, 4] (st87_11014 l i)
theorem e87 (p_Kind : Int) (p_Num : Int) (p_Text : List UInt8) (p_Args : List PV) : V 87 [.pv (.agg [.int .i64 p_Kind, .int .i64 p_Num, .str p_Text, .lst p_Args])] =
  L87_11014 [.agg [.int .i64 p_Kind, .int .i64 p_Num, .str p_Text, .lst p_Args]] 0 :=
  (V_eq pa rfl _).trans (by kernel_rfl)
theorem e87_11014 (l : List PV) (i : Int) : L87_11014 l i =
  bif decide (i < (l.length : Int)) then
    bif decide (0 ≤ i) then
      (l[i.toNat]?).bind fun x =>
        (bif (Sh.agg [Sh.int .i64, Sh.int .i64, Sh.str, Sh.lst]).fits x then
          bif headOk 4 (x.c 3).toLst then
            bif small (l.length) ((x.c 3).toLst.length) 56 then
              L87_11014 (l ++ (x.c 3).toLst) (IntKind.i64.wrap (i + (1 : Int)))
            else none
          else none
        else none)
    else none
  else some (.bld 4 l, []) :=
  (LV_eq pa 87 _ _).trans (by kernel_rfl)
/-! 92 roadstead/tree.patSize -/
def st92_11014 (i : Int) (p_Args : List PV) (i1 : Int) : AS :=
  ⟨[.any, .any, .any, .pv (.int .i64 i), .any, .any, .any, .pv (.lst p_Args), .pv (.int .i64 (p_Args.length : Int)), .pv (.int .i64 i1), .any, .any, .any, .any, .any, .any, .any, .any, .any], ⟨[], [], []⟩⟩
noncomputable def L92_11014 (i : Int) (p_Args : List PV) (i1 : Int) : Option Out := LV Pr T 92 [1, 1, 0, 1, 4] (st92_11014 i p_Args i1)
theorem e92 (p_Kind : Int) (p_Num : Int) (p_Text : List UInt8) (p_Args : List PV) : V 92 [.pv (.agg [.int .i64 p_Kind, .int .i64 p_Num, .str p_Text, .lst p_Args])] =
  L92_11014 1 p_Args 0 :=
  (V_eq pa rfl _).trans (by kernel_rfl)
theorem e92_11014 (i : Int) (p_Args : List PV) (i1 : Int) : L92_11014 i p_Args i1 =
  bif decide (i1 < (p_Args.length : Int)) then
    bif decide (0 ≤ i1) then
      (p_Args[i1.toNat]?).bind fun x =>
        (bif (Sh.agg [Sh.int .i64, Sh.int .i64, Sh.str, Sh.lst]).fits x then
          ((V 92 [.pv (.agg [.int .i64 ((x.c 0).toInt), .int .i64 ((x.c 1).toInt), .str ((x.c 2).toStr), .lst ((x.c 3).toLst)])]).bind retPV).bind fun r =>
            (bif (Sh.int .i64).fits r then
              L92_11014 (IntKind.i64.wrap (i + (r.toInt))) p_Args (IntKind.i64.wrap (i1 + (1 : Int)))
            else none)
        else none)
    else none
  else some (.pv (.int .i64 i), []) :=
  (LV_eq pa 92 _ _).trans (by kernel_rfl)
/-! 93 roadstead/tree.patDeep -/
def st93_11014 (i : Int) (p_Args : List PV) (i1 : Int) : AS :=
  ⟨[.any, .any, .any, .pv (.int .i64 i), .any, .any, .any, .pv (.lst p_Args), .pv (.int .i64 (p_Args.length : Int)), .pv (.int .i64 i1), .any, .any, .any, .any, .any, .any, .any, .any, .any, .any], ⟨[], [], []⟩⟩
noncomputable def L93_11014 (i : Int) (p_Args : List PV) (i1 : Int) : Option Out := LV Pr T 93 [1, 1, 0, 1, 4] (st93_11014 i p_Args i1)
theorem e93 (p_Kind : Int) (p_Num : Int) (p_Text : List UInt8) (p_Args : List PV) : V 93 [.pv (.agg [.int .i64 p_Kind, .int .i64 p_Num, .str p_Text, .lst p_Args])] =
  L93_11014 0 p_Args 0 :=
  (V_eq pa rfl _).trans (by kernel_rfl)
theorem e93_11014 (i : Int) (p_Args : List PV) (i1 : Int) : L93_11014 i p_Args i1 =
  bif decide (i1 < (p_Args.length : Int)) then
    bif decide (0 ≤ i1) then
      (p_Args[i1.toNat]?).bind fun x =>
        (bif (Sh.agg [Sh.int .i64, Sh.int .i64, Sh.str, Sh.lst]).fits x then
          ((V 93 [.pv (.agg [.int .i64 ((x.c 0).toInt), .int .i64 ((x.c 1).toInt), .str ((x.c 2).toStr), .lst ((x.c 3).toLst)])]).bind retPV).bind fun r =>
            (bif (Sh.int .i64).fits r then
              L93_11014 (bif decide ((r.toInt) > i) then (r.toInt) else i) p_Args (IntKind.i64.wrap (i1 + (1 : Int)))
            else none)
        else none)
    else none
  else some (.pv (.int .i64 (IntKind.i64.wrap (i + (1 : Int)))), []) :=
  (LV_eq pa 93 _ _).trans (by kernel_rfl)
end Go.AL.S1
