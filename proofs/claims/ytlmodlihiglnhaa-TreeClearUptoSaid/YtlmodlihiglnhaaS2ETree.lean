/- Equations of functions in the abstract machine: printed by gen.py. -/
import Derived.Test.YtlmodlihiglnhaaS2T
set_option linter.unusedVariables false
set_option maxRecDepth 100000
namespace Go.AL.S2
open Go Go.AL
/-! 4 roadstead/roadkeep2.TreeClear -/
theorem e4 (e_Kind : Int) (e_Num : Int) (e_Text : List UInt8) (e_Names : List PV) (e_Types : List PV) (e_Args : List PV) (e_Arms : List PV) (e_At : Int) : V 4 [.pv (.agg [.int .i64 e_Kind, .int .i64 e_Num, .str e_Text, .lst e_Names, .lst e_Types, .lst e_Args, .lst e_Arms, .int .i64 e_At])] =
  ((V 13 [.pv (.agg [.int .i64 e_Kind, .int .i64 e_Num, .str e_Text, .lst e_Names, .lst e_Types, .lst e_Args, .lst e_Arms, .int .i64 e_At])]).bind retPV).bind fun r =>
    (bif (Sh.int .i64).fits r then
      bif decide ((r.toInt) > (400 : Int)) then
        some (.pv (.bool true), [])
      else ((V 14 []).bind retPV).bind fun r1 =>
        (bif (Sh.bool).fits r1 then
          bif (!r1.toBool) then
            some (.pv (.bool false), [])
          else ((V 15 [.pv (.agg [.int .i64 e_Kind, .int .i64 e_Num, .str e_Text, .lst e_Names, .lst e_Types, .lst e_Args, .lst e_Arms, .int .i64 e_At])]).bind retPV).bind fun r2 =>
            (bif (Sh.agg [Sh.int .i64, Sh.int .i64, Sh.str, Sh.lst, Sh.lst, Sh.lst, Sh.lst, Sh.int .i64]).fits r2 then
              ((V 16 [.pv (.agg [.int .i64 ((r2.c 0).toInt), .int .i64 ((r2.c 1).toInt), .str ((r2.c 2).toStr), .lst ((r2.c 3).toLst), .lst ((r2.c 4).toLst), .lst ((r2.c 5).toLst), .lst ((r2.c 6).toLst), .int .i64 ((r2.c 7).toInt)]), .pv (.agg [.int .i64 e_Kind, .int .i64 e_Num, .str e_Text, .lst e_Names, .lst e_Types, .lst e_Args, .lst e_Arms, .int .i64 e_At])]).bind retPV).bind fun r3 =>
                (bif (Sh.bool).fits r3 then
                  bif r3.toBool then
                    ((V 15 [.pv (.agg [.int .i64 ((r2.c 0).toInt), .int .i64 ((r2.c 1).toInt), .str ((r2.c 2).toStr), .lst ((r2.c 3).toLst), .lst ((r2.c 4).toLst), .lst ((r2.c 5).toLst), .lst ((r2.c 6).toLst), .int .i64 ((r2.c 7).toInt)])]).bind retPV).bind fun r4 =>
                      (bif (Sh.agg [Sh.int .i64, Sh.int .i64, Sh.str, Sh.lst, Sh.lst, Sh.lst, Sh.lst, Sh.int .i64]).fits r4 then
                        ((V 16 [.pv (.agg [.int .i64 ((r4.c 0).toInt), .int .i64 ((r4.c 1).toInt), .str ((r4.c 2).toStr), .lst ((r4.c 3).toLst), .lst ((r4.c 4).toLst), .lst ((r4.c 5).toLst), .lst ((r4.c 6).toLst), .int .i64 ((r4.c 7).toInt)]), .pv (.agg [.int .i64 ((r2.c 0).toInt), .int .i64 ((r2.c 1).toInt), .str ((r2.c 2).toStr), .lst ((r2.c 3).toLst), .lst ((r2.c 4).toLst), .lst ((r2.c 5).toLst), .lst ((r2.c 6).toLst), .int .i64 ((r2.c 7).toInt)])]).bind retPV).bind fun r5 =>
                          (bif (Sh.bool).fits r5 then
                            bif r5.toBool then
                              some (.pv (.bool (((r2.c 7).toInt) == (0 : Int))), [])
                            else some (.pv (.bool false), [])
                          else none)
                      else none)
                  else some (.pv (.bool false), [])
                else none)
            else none)
        else none)
    else none) :=
  (V_eq pa rfl _).trans (by kernel_rfl)
/-! 13 roadstead/roadref2.SizeOf -/
def st13_11014 (i : Int) (v : List PV) (i1 : Int) : AS :=
  ⟨[.any, .any, .any, .pv (.int .i64 i), .any, .any, .any, .any, .any, .pv (.lst v), .pv (.int .i64 (v.length : Int)), .pv (.int .i64 i1), .any, .any, .any, .any, .any, .any, .any, .any, .any, .any, .any, .any, .any, .any, .any, .any, .any, .any, .any, .any, .any], ⟨[], [], []⟩⟩
noncomputable def L13_11014 (i : Int) (v : List PV) (i1 : Int) : Option Out := LV Pr T 13 [1, 1, 0, 1, 4] (st13_11014 i v i1)
def st13_11014511041114 (i : Int) (v : List PV) (i2 : Int) (v1 : List PV) (i1 : Int) : AS :=
  ⟨[.any, .any, .any, .pv (.int .i64 i), .any, .any, .any, .any, .any, .pv (.lst v), .pv (.int .i64 (v.length : Int)), .pv (.int .i64 i2), .any, .any, .any, .any, .any, .any, .pv (.lst v1), .pv (.int .i64 (v1.length : Int)), .pv (.int .i64 i1), .any, .any, .any, .any, .any, .any, .any, .any, .any, .any, .any, .any], ⟨[], [], []⟩⟩
noncomputable def L13_11014511041114 (i : Int) (v : List PV) (i2 : Int) (v1 : List PV) (i1 : Int) : Option Out := LV Pr T 13 [1, 1, 0, 1, 4, 5, 1, 1, 0, 4, 1, 1, 1, 4] (st13_11014511041114 i v i2 v1 i1)
theorem e13 (e_Kind : Int) (e_Num : Int) (e_Text : List UInt8) (e_Names : List PV) (e_Types : List PV) (e_Args : List PV) (e_Arms : List PV) (e_At : Int) : V 13 [.pv (.agg [.int .i64 e_Kind, .int .i64 e_Num, .str e_Text, .lst e_Names, .lst e_Types, .lst e_Args, .lst e_Arms, .int .i64 e_At])] =
  ((V 36 [.pv (.agg [.int .i64 e_Kind, .int .i64 e_Num, .str e_Text, .lst e_Names, .lst e_Types, .lst e_Args, .lst e_Arms, .int .i64 e_At])]).bind retPV).bind fun r =>
    (bif (Sh.lst).fits r then
      L13_11014 0 r.toLst 0
    else none) :=
  (V_eq pa rfl _).trans (by kernel_rfl)
theorem e13_11014 (i : Int) (v : List PV) (i1 : Int) : L13_11014 i v i1 =
  bif decide (i1 < (v.length : Int)) then
    bif decide (0 ≤ i1) then
      (v[i1.toNat]?).bind fun x =>
        (bif (Sh.agg [Sh.int .i64, Sh.int .i64, Sh.str, Sh.lst, Sh.lst, Sh.lst, Sh.lst, Sh.int .i64]).fits x then
          L13_11014511041114 (IntKind.i64.wrap (i + (1 : Int))) v i1 ((x.c 6).toLst) 0
        else none)
    else none
  else some (.pv (.int .i64 i), []) :=
  (LV_eq pa 13 _ _).trans (by kernel_rfl)
theorem e13_11014511041114 (i : Int) (v : List PV) (i2 : Int) (v1 : List PV) (i1 : Int) : L13_11014511041114 i v i2 v1 i1 =
  bif decide (i1 < (v1.length : Int)) then
    bif decide (0 ≤ i1) then
      (v1[i1.toNat]?).bind fun x =>
        (bif (Sh.agg [Sh.int .i64, Sh.int .i64, Sh.str, Sh.lst, Sh.int .i64, Sh.int .i64, Sh.str, Sh.lst, Sh.lst, Sh.lst, Sh.lst, Sh.int .i64]).fits x then
          ((V 37 [.pv (.agg [.int .i64 ((x.c 0).toInt), .int .i64 ((x.c 1).toInt), .str ((x.c 2).toStr), .lst ((x.c 3).toLst)])]).bind retPV).bind fun r =>
            (bif (Sh.lst).fits r then
              L13_11014511041114 (IntKind.i64.wrap (i + (r.toLst.length : Int))) v i2 v1 (IntKind.i64.wrap (i1 + (1 : Int)))
            else none)
        else none)
    else none
  else L13_11014 i v (IntKind.i64.wrap (i2 + (1 : Int))) :=
  (LV_eq pa 13 _ _).trans (by kernel_rfl)
/-! 14 roadstead/roadkeep2.walks -/
theorem e14  : V 14 [] =
  ((V 38 [.pv (.agg [.int .i64 6, .int .i64 0, .str [120], .lst [], .lst [], .lst [.agg [.int .i64 2, .int .i64 0, .str [], .lst [], .lst [], .lst [], .lst [], .int .i64 0], .agg [.int .i64 5, .int .i64 0, .str [121], .lst [], .lst [], .lst [], .lst [], .int .i64 0]], .lst [], .int .i64 0])]).bind retPV).bind fun r =>
    (bif (Sh.int .i64).fits r then
      bif ((r.toInt) == (3 : Int)) then
        ((V 39 [.pv (.agg [.int .i64 6, .int .i64 0, .str [120], .lst [], .lst [], .lst [.agg [.int .i64 2, .int .i64 0, .str [], .lst [], .lst [], .lst [], .lst [], .int .i64 0], .agg [.int .i64 5, .int .i64 0, .str [121], .lst [], .lst [], .lst [], .lst [], .int .i64 0]], .lst [], .int .i64 0])]).bind retPV).bind fun r1 =>
          (bif (Sh.lst).fits r1 then
            bif ((r1.toLst.length : Int) == (3 : Int)) then
              ((V 41 [.pv (.agg [.int .i64 6, .int .i64 0, .str [120], .lst [], .lst [], .lst [.agg [.int .i64 2, .int .i64 0, .str [], .lst [], .lst [], .lst [], .lst [], .int .i64 0], .agg [.int .i64 5, .int .i64 0, .str [121], .lst [], .lst [], .lst [], .lst [], .int .i64 0]], .lst [], .int .i64 0])]).bind retPV).bind fun r2 =>
                (bif (Sh.lst).fits r2 then
                  ((V 40 [.pv (.lst r2.toLst), .pv (.lst [.str [121]])]).bind retPV).bind fun r3 =>
                    (bif (Sh.bool).fits r3 then
                      some (.pv (.bool r3.toBool), [])
                    else none)
                else none)
            else some (.pv (.bool false), [])
          else none)
      else some (.pv (.bool false), [])
    else none) :=
  (V_eq pa rfl _).trans (by kernel_rfl)
/-! 15 roadstead/tree.Clear -/
def st15_1111014 (l : List PV) (e_Args : List PV) (i : Int) (e_Kind : Int) (e_Num : Int) (e_Text : List UInt8) (v : List PV) (v1 : List PV) (e_Arms : List PV) : AS :=
  ⟨[.any, .box 0 0, .box 1 0, .bld 0 0 l, .any, .any, .any, .any, .any, .any, .any, .any, .any, .any, .any, .any, .any, .any, .any, .pv (.lst e_Args), .pv (.int .i64 (e_Args.length : Int)), .pv (.int .i64 i), .any, .any, .any, .any, .any, .any, .any, .any, .any, .any, .any, .any, .any, .any, .any, .any, .any, .any, .any, .any, .any, .any, .any, .any, .any, .any, .any, .any, .any, .any, .any, .any], ⟨[(false, [.pv (.int .i64 e_Kind), .pv (.int .i64 e_Num), .pv (.str e_Text), .pv (.lst v), .pv (.lst v1), .pv (.lst e_Args), .pv (.lst e_Arms), .pv (.int .i64 0)]), (false, [.pv (.int .i64 0), .pv (.int .i64 0), .pv (.str []), .pv .nils, .pv .nils, .pv .nils, .pv .nils, .pv (.int .i64 0)])], [], [(0, 8)]⟩⟩
noncomputable def L15_1111014 (l : List PV) (e_Args : List PV) (i : Int) (e_Kind : Int) (e_Num : Int) (e_Text : List UInt8) (v : List PV) (v1 : List PV) (e_Arms : List PV) : Option Out := LV Pr T 15 [1, 1, 1, 1, 0, 1, 4] (st15_1111014 l e_Args i e_Kind e_Num e_Text v v1 e_Arms)
def st15_111111014 (l1 : List PV) (l : List PV) (e_Arms : List PV) (i : Int) (e_Kind : Int) (e_Num : Int) (e_Text : List UInt8) (v : List PV) (v1 : List PV) (e_Args : List PV) : AS :=
  ⟨[.any, .box 0 0, .box 1 0, .bld 0 0 l1, .any, .any, .bld 1 0 l, .any, .any, .any, .any, .any, .any, .any, .any, .any, .any, .any, .any, .any, .any, .any, .any, .any, .any, .any, .any, .any, .any, .any, .any, .any, .pv (.lst e_Arms), .pv (.int .i64 (e_Arms.length : Int)), .pv (.int .i64 i), .any, .any, .any, .any, .any, .any, .any, .any, .any, .any, .any, .any, .any, .any, .any, .any, .any, .any, .any], ⟨[(false, [.pv (.int .i64 e_Kind), .pv (.int .i64 e_Num), .pv (.str e_Text), .pv (.lst v), .pv (.lst v1), .pv (.lst e_Args), .pv (.lst e_Arms), .pv (.int .i64 0)]), (false, [.pv (.int .i64 0), .pv (.int .i64 0), .pv (.str []), .pv .nils, .pv .nils, .pv .nils, .pv .nils, .pv (.int .i64 0)])], [], [(0, 8), (0, 12)]⟩⟩
noncomputable def L15_111111014 (l1 : List PV) (l : List PV) (e_Arms : List PV) (i : Int) (e_Kind : Int) (e_Num : Int) (e_Text : List UInt8) (v : List PV) (v1 : List PV) (e_Args : List PV) : Option Out := LV Pr T 15 [1, 1, 1, 1, 1, 1, 0, 1, 4] (st15_111111014 l1 l e_Arms i e_Kind e_Num e_Text v v1 e_Args)
theorem e15 (e_Kind : Int) (e_Num : Int) (e_Text : List UInt8) (e_Names : List PV) (e_Types : List PV) (e_Args : List PV) (e_Arms : List PV) (e_At : Int) : V 15 [.pv (.agg [.int .i64 e_Kind, .int .i64 e_Num, .str e_Text, .lst e_Names, .lst e_Types, .lst e_Args, .lst e_Arms, .int .i64 e_At])] =
  ((V 42 [.pv (.lst e_Names)]).bind retPV).bind fun r =>
    (bif (Sh.lst).fits r then
      ((V 43 [.pv (.lst e_Types)]).bind retPV).bind fun r1 =>
        (bif (Sh.lst).fits r1 then
          L15_1111014 [] e_Args 0 e_Kind e_Num e_Text r.toLst r1.toLst e_Arms
        else none)
    else none) :=
  (V_eq pa rfl _).trans (by kernel_rfl)
theorem e15_1111014 (l : List PV) (e_Args : List PV) (i : Int) (e_Kind : Int) (e_Num : Int) (e_Text : List UInt8) (v : List PV) (v1 : List PV) (e_Arms : List PV) : L15_1111014 l e_Args i e_Kind e_Num e_Text v v1 e_Arms =
  bif decide (i < (e_Args.length : Int)) then
    bif decide (0 ≤ i) then
      (e_Args[i.toNat]?).bind fun x =>
        (bif (Sh.agg [Sh.int .i64, Sh.int .i64, Sh.str, Sh.lst, Sh.lst, Sh.lst, Sh.lst, Sh.int .i64]).fits x then
          ((V 15 [.pv (.agg [.int .i64 ((x.c 0).toInt), .int .i64 ((x.c 1).toInt), .str ((x.c 2).toStr), .lst ((x.c 3).toLst), .lst ((x.c 4).toLst), .lst ((x.c 5).toLst), .lst ((x.c 6).toLst), .int .i64 ((x.c 7).toInt)])]).bind retPV).bind fun r =>
            (bif (Sh.agg [Sh.int .i64, Sh.int .i64, Sh.str, Sh.lst, Sh.lst, Sh.lst, Sh.lst, Sh.int .i64]).fits r then
              bif small (l.length) 1 136 then
                L15_1111014 (l ++ [.agg [.int .i64 ((r.c 0).toInt), .int .i64 ((r.c 1).toInt), .str ((r.c 2).toStr), .lst ((r.c 3).toLst), .lst ((r.c 4).toLst), .lst ((r.c 5).toLst), .lst ((r.c 6).toLst), .int .i64 ((r.c 7).toInt)]]) e_Args (IntKind.i64.wrap (i + (1 : Int))) e_Kind e_Num e_Text v v1 e_Arms
              else none
            else none)
        else none)
    else none
  else L15_111111014 l [] e_Arms 0 e_Kind e_Num e_Text v v1 e_Args :=
  (LV_eq pa 15 _ _).trans (by kernel_rfl)
theorem e15_111111014 (l1 : List PV) (l : List PV) (e_Arms : List PV) (i : Int) (e_Kind : Int) (e_Num : Int) (e_Text : List UInt8) (v : List PV) (v1 : List PV) (e_Args : List PV) : L15_111111014 l1 l e_Arms i e_Kind e_Num e_Text v v1 e_Args =
  bif decide (i < (e_Arms.length : Int)) then
    bif decide (0 ≤ i) then
      (e_Arms[i.toNat]?).bind fun x =>
        (bif (Sh.agg [Sh.int .i64, Sh.int .i64, Sh.str, Sh.lst, Sh.int .i64, Sh.int .i64, Sh.str, Sh.lst, Sh.lst, Sh.lst, Sh.lst, Sh.int .i64]).fits x then
          ((V 44 [.pv (.agg [.int .i64 ((x.c 0).toInt), .int .i64 ((x.c 1).toInt), .str ((x.c 2).toStr), .lst ((x.c 3).toLst)])]).bind retPV).bind fun r =>
            (bif (Sh.agg [Sh.int .i64, Sh.int .i64, Sh.str, Sh.lst]).fits r then
              ((V 15 [.pv (.agg [.int .i64 ((x.c 4).toInt), .int .i64 ((x.c 5).toInt), .str ((x.c 6).toStr), .lst ((x.c 7).toLst), .lst ((x.c 8).toLst), .lst ((x.c 9).toLst), .lst ((x.c 10).toLst), .int .i64 ((x.c 11).toInt)])]).bind retPV).bind fun r1 =>
                (bif (Sh.agg [Sh.int .i64, Sh.int .i64, Sh.str, Sh.lst, Sh.lst, Sh.lst, Sh.lst, Sh.int .i64]).fits r1 then
                  bif small (l.length) 1 192 then
                    L15_111111014 l1 (l ++ [.agg [.int .i64 ((r.c 0).toInt), .int .i64 ((r.c 1).toInt), .str ((r.c 2).toStr), .lst ((r.c 3).toLst), .int .i64 ((r1.c 0).toInt), .int .i64 ((r1.c 1).toInt), .str ((r1.c 2).toStr), .lst ((r1.c 3).toLst), .lst ((r1.c 4).toLst), .lst ((r1.c 5).toLst), .lst ((r1.c 6).toLst), .int .i64 ((r1.c 7).toInt)]]) e_Arms (IntKind.i64.wrap (i + (1 : Int))) e_Kind e_Num e_Text v v1 e_Args
                  else none
                else none)
            else none)
        else none)
    else none
  else some (.pv (.agg [.int .i64 e_Kind, .int .i64 e_Num, .str e_Text, .lst v, .lst v1, .lst l1, .lst l, .int .i64 0]), []) :=
  (LV_eq pa 15 _ _).trans (by kernel_rfl)
/-! 16 roadstead/tree.SameExpr -/
theorem e16 (a_Kind : Int) (a_Num : Int) (a_Text : List UInt8) (a_Names : List PV) (a_Types : List PV) (a_Args : List PV) (a_Arms : List PV) (a_At : Int) (b_Kind : Int) (b_Num : Int) (b_Text : List UInt8) (b_Names : List PV) (b_Types : List PV) (b_Args : List PV) (b_Arms : List PV) (b_At : Int) : V 16 [.pv (.agg [.int .i64 a_Kind, .int .i64 a_Num, .str a_Text, .lst a_Names, .lst a_Types, .lst a_Args, .lst a_Arms, .int .i64 a_At]), .pv (.agg [.int .i64 b_Kind, .int .i64 b_Num, .str b_Text, .lst b_Names, .lst b_Types, .lst b_Args, .lst b_Arms, .int .i64 b_At])] =
  bif (a_Kind == b_Kind) then
    bif (a_Num == b_Num) then
      bif (a_Text == b_Text) then
        ((V 40 [.pv (.lst a_Names), .pv (.lst b_Names)]).bind retPV).bind fun r =>
          (bif (Sh.bool).fits r then
            bif r.toBool then
              ((V 45 [.pv (.lst a_Types), .pv (.lst b_Types), .pv (.fn 21 [])]).bind retPV).bind fun r1 =>
                (bif (Sh.bool).fits r1 then
                  bif r1.toBool then
                    ((V 46 [.pv (.lst a_Args), .pv (.lst b_Args), .pv (.fn 16 [])]).bind retPV).bind fun r2 =>
                      (bif (Sh.bool).fits r2 then
                        bif r2.toBool then
                          ((V 47 [.pv (.lst a_Arms), .pv (.lst b_Arms), .pv (.fn 48 [])]).bind retPV).bind fun r3 =>
                            (bif (Sh.bool).fits r3 then
                              some (.pv (.bool r3.toBool), [])
                            else none)
                        else some (.pv (.bool false), [])
                      else none)
                  else some (.pv (.bool false), [])
                else none)
            else some (.pv (.bool false), [])
          else none)
      else some (.pv (.bool false), [])
    else some (.pv (.bool false), [])
  else some (.pv (.bool false), []) :=
  (V_eq pa rfl _).trans (by kernel_rfl)
/-! 21 roadstead/tree.SameType -/
theorem e21 (a_Kind : Int) (a_Name : List UInt8) (a_Args : List PV) (b_Kind : Int) (b_Name : List UInt8) (b_Args : List PV) : V 21 [.pv (.agg [.int .i64 a_Kind, .str a_Name, .lst a_Args]), .pv (.agg [.int .i64 b_Kind, .str b_Name, .lst b_Args])] =
  bif (a_Kind == b_Kind) then
    bif (a_Name == b_Name) then
      ((V 45 [.pv (.lst a_Args), .pv (.lst b_Args), .pv (.fn 21 [])]).bind retPV).bind fun r =>
        (bif (Sh.bool).fits r then
          some (.pv (.bool r.toBool), [])
        else none)
    else some (.pv (.bool false), [])
  else some (.pv (.bool false), []) :=
  (V_eq pa rfl _).trans (by kernel_rfl)
/-! 36 roadstead/roadref2.All -/
def st36_11104 (l : List PV) (l2 : List PV) : AS :=
  ⟨[.any, .any, .any, .vec 0 0, .bld 0 0 l, .any, .any, .any, .any, .any, .any, .any, .any, .any, .any, .any, .any, .any, .any, .any, .any, .any, .any, .any, .any, .any, .any, .any, .any, .any, .any, .any, .any, .any, .any, .any, .any, .any, .any, .any, .any, .any, .any, .any, .any, .any, .any, .any, .any, .any, .any, .any, .any, .any, .any, .any, .any, .any, .any, .any, .any, .any], ⟨[], [some (0, 8, l2)], [(0, 8)]⟩⟩
noncomputable def L36_11104 (l : List PV) (l2 : List PV) : Option Out := LV Pr T 36 [1, 1, 1, 0, 4] (st36_11104 l l2)
def st36_11104514111014 (l1 : List PV) (i : Int) (e_Kind : Int) (e_Num : Int) (e_Text : List UInt8) (e_Names : List PV) (e_Types : List PV) (e_Args : List PV) (e_Arms : List PV) (e_At : Int) (l : List PV) : AS :=
  ⟨[.any, .any, .any, .vec 0 0, .bld 0 0 l1, .box 0 0, .pv (.int .i64 i), .any, .any, .any, .any, .any, .any, .any, .any, .any, .any, .any, .any, .any, .any, .any, .any, .any, .any, .any, .any, .any, .any, .any, .any, .any, .any, .any, .any, .any, .any, .any, .any, .any, .any, .any, .any, .any, .any, .any, .any, .any, .any, .any, .any, .any, .any, .any, .any, .any, .any, .any, .any, .any, .any, .any], ⟨[(false, [.pv (.int .i64 e_Kind), .pv (.int .i64 e_Num), .pv (.str e_Text), .pv (.lst e_Names), .pv (.lst e_Types), .pv (.lst e_Args), .pv (.lst e_Arms), .pv (.int .i64 e_At)])], [some (0, 8, l)], [(0, 8)]⟩⟩
noncomputable def L36_11104514111014 (l1 : List PV) (i : Int) (e_Kind : Int) (e_Num : Int) (e_Text : List UInt8) (e_Names : List PV) (e_Types : List PV) (e_Args : List PV) (e_Arms : List PV) (e_At : Int) (l : List PV) : Option Out := LV Pr T 36 [1, 1, 1, 0, 4, 5, 1, 4, 1, 1, 1, 0, 1, 4] (st36_11104514111014 l1 i e_Kind e_Num e_Text e_Names e_Types e_Args e_Arms e_At l)
def st36_11104514111114 (l2 : List PV) (i : Int) (e_Kind : Int) (e_Num : Int) (e_Text : List UInt8) (e_Names : List PV) (e_Types : List PV) (e_Args : List PV) (e_Arms : List PV) (e_At : Int) (l1 : List PV) : AS :=
  ⟨[.any, .any, .any, .vec 0 0, .bld 0 0 l2, .box 0 0, .any, .pv (.int .i64 i), .any, .any, .any, .any, .any, .any, .any, .any, .any, .any, .any, .any, .any, .any, .any, .any, .any, .any, .any, .any, .any, .any, .any, .any, .any, .any, .any, .any, .any, .any, .any, .any, .any, .any, .any, .any, .any, .any, .any, .any, .any, .any, .any, .any, .any, .any, .any, .any, .any, .any, .any, .any, .any, .any], ⟨[(false, [.pv (.int .i64 e_Kind), .pv (.int .i64 e_Num), .pv (.str e_Text), .pv (.lst e_Names), .pv (.lst e_Types), .pv (.lst e_Args), .pv (.lst e_Arms), .pv (.int .i64 e_At)])], [some (0, 8, l1)], [(0, 8)]⟩⟩
noncomputable def L36_11104514111114 (l2 : List PV) (i : Int) (e_Kind : Int) (e_Num : Int) (e_Text : List UInt8) (e_Names : List PV) (e_Types : List PV) (e_Args : List PV) (e_Arms : List PV) (e_At : Int) (l1 : List PV) : Option Out := LV Pr T 36 [1, 1, 1, 0, 4, 5, 1, 4, 1, 1, 1, 1, 1, 4] (st36_11104514111114 l2 i e_Kind e_Num e_Text e_Names e_Types e_Args e_Arms e_At l1)
theorem e36 (e_Kind : Int) (e_Num : Int) (e_Text : List UInt8) (e_Names : List PV) (e_Types : List PV) (e_Args : List PV) (e_Arms : List PV) (e_At : Int) : V 36 [.pv (.agg [.int .i64 e_Kind, .int .i64 e_Num, .str e_Text, .lst e_Names, .lst e_Types, .lst e_Args, .lst e_Arms, .int .i64 e_At])] =
  L36_11104 [] [.agg [.int .i64 e_Kind, .int .i64 e_Num, .str e_Text, .lst e_Names, .lst e_Types, .lst e_Args, .lst e_Arms, .int .i64 e_At]] :=
  (V_eq pa rfl _).trans (by kernel_rfl)
theorem e36_11104 (l : List PV) (l2 : List PV) : L36_11104 l l2 =
  bif decide ((l2.length : Int) > (0 : Int)) then
    bif (decide (0 ≤ (IntKind.i64.wrap ((l2.length : Int) - (1 : Int)))) && decide ((IntKind.i64.wrap ((l2.length : Int) - (1 : Int))) < (l2.length : Int))) then
      (l2[(IntKind.i64.wrap ((l2.length : Int) - (1 : Int))).toNat]?).bind fun y =>
        (bif (Sh.agg [Sh.int .i64, Sh.int .i64, Sh.str, Sh.lst, Sh.lst, Sh.lst, Sh.lst, Sh.int .i64]).fits y then
          bif (decide (0 ≤ (IntKind.i64.wrap ((l2.length : Int) - (1 : Int)))) && decide ((IntKind.i64.wrap ((l2.length : Int) - (1 : Int))) ≤ (l2.length : Int))) then
            bif small (l.length) 1 136 then
              L36_11104514111014 (l ++ [.agg [.int .i64 ((y.c 0).toInt), .int .i64 ((y.c 1).toInt), .str ((y.c 2).toStr), .lst ((y.c 3).toLst), .lst ((y.c 4).toLst), .lst ((y.c 5).toLst), .lst ((y.c 6).toLst), .int .i64 ((y.c 7).toInt)]]) (IntKind.i64.wrap (((y.c 6).toLst.length : Int) - (1 : Int))) ((y.c 0).toInt) ((y.c 1).toInt) ((y.c 2).toStr) ((y.c 3).toLst) ((y.c 4).toLst) ((y.c 5).toLst) ((y.c 6).toLst) ((y.c 7).toInt) (l2.take (IntKind.i64.wrap ((l2.length : Int) - (1 : Int))).toNat)
            else none
          else none
        else none)
    else none
  else some (.bld 8 l, []) :=
  (LV_eq pa 36 _ _).trans (by kernel_rfl)
theorem e36_11104514111014 (l1 : List PV) (i : Int) (e_Kind : Int) (e_Num : Int) (e_Text : List UInt8) (e_Names : List PV) (e_Types : List PV) (e_Args : List PV) (e_Arms : List PV) (e_At : Int) (l : List PV) : L36_11104514111014 l1 i e_Kind e_Num e_Text e_Names e_Types e_Args e_Arms e_At l =
  bif decide (i ≥ (0 : Int)) then
    bif decide (0 ≤ i) then
      (e_Arms[i.toNat]?).bind fun x =>
        (bif (Sh.agg [Sh.int .i64, Sh.int .i64, Sh.str, Sh.lst, Sh.int .i64, Sh.int .i64, Sh.str, Sh.lst, Sh.lst, Sh.lst, Sh.lst, Sh.int .i64]).fits x then
          bif small (l.length) 1 136 then
            L36_11104514111014 l1 (IntKind.i64.wrap (i - (1 : Int))) e_Kind e_Num e_Text e_Names e_Types e_Args e_Arms e_At (l ++ [.agg [.int .i64 ((x.c 4).toInt), .int .i64 ((x.c 5).toInt), .str ((x.c 6).toStr), .lst ((x.c 7).toLst), .lst ((x.c 8).toLst), .lst ((x.c 9).toLst), .lst ((x.c 10).toLst), .int .i64 ((x.c 11).toInt)]])
          else none
        else none)
    else none
  else L36_11104514111114 l1 (IntKind.i64.wrap ((e_Args.length : Int) - (1 : Int))) e_Kind e_Num e_Text e_Names e_Types e_Args e_Arms e_At l :=
  (LV_eq pa 36 _ _).trans (by kernel_rfl)
theorem e36_11104514111114 (l2 : List PV) (i : Int) (e_Kind : Int) (e_Num : Int) (e_Text : List UInt8) (e_Names : List PV) (e_Types : List PV) (e_Args : List PV) (e_Arms : List PV) (e_At : Int) (l1 : List PV) : L36_11104514111114 l2 i e_Kind e_Num e_Text e_Names e_Types e_Args e_Arms e_At l1 =
  bif decide (i ≥ (0 : Int)) then
    bif decide (0 ≤ i) then
      (e_Args[i.toNat]?).bind fun x =>
        (bif (Sh.agg [Sh.int .i64, Sh.int .i64, Sh.str, Sh.lst, Sh.lst, Sh.lst, Sh.lst, Sh.int .i64]).fits x then
          bif small (l1.length) 1 136 then
            L36_11104514111114 l2 (IntKind.i64.wrap (i - (1 : Int))) e_Kind e_Num e_Text e_Names e_Types e_Args e_Arms e_At (l1 ++ [.agg [.int .i64 ((x.c 0).toInt), .int .i64 ((x.c 1).toInt), .str ((x.c 2).toStr), .lst ((x.c 3).toLst), .lst ((x.c 4).toLst), .lst ((x.c 5).toLst), .lst ((x.c 6).toLst), .int .i64 ((x.c 7).toInt)]])
          else none
        else none)
    else none
  else L36_11104 l2 l1 :=
  (LV_eq pa 36 _ _).trans (by kernel_rfl)
/-! 37 roadstead/roadref2.pats -/
def st37_11014 (l : List PV) (i : Int) : AS :=
  ⟨[.any, .any, .any, .bld 0 0 l, .pv (.int .i64 i), .any, .any, .any, .any, .any, .any, .any, .any, .any, .any, .any, .any, .any, .any, .any, .any], ⟨[], [], [(0, 4)]⟩⟩
noncomputable def L37_11014 (l : List PV) (i : Int) : Option Out := LV Pr T 37 [1, 1, 0, 1, 4] (st37_11014 l i)
theorem e37 (p_Kind : Int) (p_Num : Int) (p_Text : List UInt8) (p_Args : List PV) : V 37 [.pv (.agg [.int .i64 p_Kind, .int .i64 p_Num, .str p_Text, .lst p_Args])] =
  L37_11014 [.agg [.int .i64 p_Kind, .int .i64 p_Num, .str p_Text, .lst p_Args]] 0 :=
  (V_eq pa rfl _).trans (by kernel_rfl)
theorem e37_11014 (l : List PV) (i : Int) : L37_11014 l i =
  bif decide (i < (l.length : Int)) then
    bif decide (0 ≤ i) then
      (l[i.toNat]?).bind fun x =>
        (bif (Sh.agg [Sh.int .i64, Sh.int .i64, Sh.str, Sh.lst]).fits x then
          bif headOk 4 (x.c 3).toLst then
            bif small (l.length) ((x.c 3).toLst.length) 56 then
              L37_11014 (l ++ (x.c 3).toLst) (IntKind.i64.wrap (i + (1 : Int)))
            else none
          else none
        else none)
    else none
  else some (.bld 4 l, []) :=
  (LV_eq pa 37 _ _).trans (by kernel_rfl)
/-! 38 roadstead/tree.Size -/
def st38_11014 (i : Int) (e_Args : List PV) (i1 : Int) (e_Kind : Int) (e_Num : Int) (e_Text : List UInt8) (e_Names : List PV) (e_Types : List PV) (e_Arms : List PV) (e_At : Int) : AS :=
  ⟨[.any, .box 0 0, .any, .pv (.int .i64 i), .any, .any, .any, .any, .any, .pv (.lst e_Args), .pv (.int .i64 (e_Args.length : Int)), .pv (.int .i64 i1), .any, .any, .any, .any, .any, .any, .any, .any, .any, .any, .any, .any, .any, .any, .any, .any, .any, .any, .any, .any, .any, .any, .any, .any, .any, .any], ⟨[(false, [.pv (.int .i64 e_Kind), .pv (.int .i64 e_Num), .pv (.str e_Text), .pv (.lst e_Names), .pv (.lst e_Types), .pv (.lst e_Args), .pv (.lst e_Arms), .pv (.int .i64 e_At)])], [], []⟩⟩
noncomputable def L38_11014 (i : Int) (e_Args : List PV) (i1 : Int) (e_Kind : Int) (e_Num : Int) (e_Text : List UInt8) (e_Names : List PV) (e_Types : List PV) (e_Arms : List PV) (e_At : Int) : Option Out := LV Pr T 38 [1, 1, 0, 1, 4] (st38_11014 i e_Args i1 e_Kind e_Num e_Text e_Names e_Types e_Arms e_At)
def st38_111014 (i1 : Int) (e_Arms : List PV) (i : Int) : AS :=
  ⟨[.any, .any, .any, .pv (.int .i64 i1), .any, .any, .any, .any, .any, .any, .any, .any, .any, .any, .any, .any, .any, .any, .any, .any, .any, .pv (.lst e_Arms), .pv (.int .i64 (e_Arms.length : Int)), .pv (.int .i64 i), .any, .any, .any, .any, .any, .any, .any, .any, .any, .any, .any, .any, .any, .any], ⟨[], [], []⟩⟩
noncomputable def L38_111014 (i1 : Int) (e_Arms : List PV) (i : Int) : Option Out := LV Pr T 38 [1, 1, 1, 0, 1, 4] (st38_111014 i1 e_Arms i)
theorem e38 (e_Kind : Int) (e_Num : Int) (e_Text : List UInt8) (e_Names : List PV) (e_Types : List PV) (e_Args : List PV) (e_Arms : List PV) (e_At : Int) : V 38 [.pv (.agg [.int .i64 e_Kind, .int .i64 e_Num, .str e_Text, .lst e_Names, .lst e_Types, .lst e_Args, .lst e_Arms, .int .i64 e_At])] =
  L38_11014 1 e_Args 0 e_Kind e_Num e_Text e_Names e_Types e_Arms e_At :=
  (V_eq pa rfl _).trans (by kernel_rfl)
theorem e38_11014 (i : Int) (e_Args : List PV) (i1 : Int) (e_Kind : Int) (e_Num : Int) (e_Text : List UInt8) (e_Names : List PV) (e_Types : List PV) (e_Arms : List PV) (e_At : Int) : L38_11014 i e_Args i1 e_Kind e_Num e_Text e_Names e_Types e_Arms e_At =
  bif decide (i1 < (e_Args.length : Int)) then
    bif decide (0 ≤ i1) then
      (e_Args[i1.toNat]?).bind fun x =>
        (bif (Sh.agg [Sh.int .i64, Sh.int .i64, Sh.str, Sh.lst, Sh.lst, Sh.lst, Sh.lst, Sh.int .i64]).fits x then
          ((V 38 [.pv (.agg [.int .i64 ((x.c 0).toInt), .int .i64 ((x.c 1).toInt), .str ((x.c 2).toStr), .lst ((x.c 3).toLst), .lst ((x.c 4).toLst), .lst ((x.c 5).toLst), .lst ((x.c 6).toLst), .int .i64 ((x.c 7).toInt)])]).bind retPV).bind fun r =>
            (bif (Sh.int .i64).fits r then
              L38_11014 (IntKind.i64.wrap (i + (r.toInt))) e_Args (IntKind.i64.wrap (i1 + (1 : Int))) e_Kind e_Num e_Text e_Names e_Types e_Arms e_At
            else none)
        else none)
    else none
  else L38_111014 i e_Arms 0 :=
  (LV_eq pa 38 _ _).trans (by kernel_rfl)
theorem e38_111014 (i1 : Int) (e_Arms : List PV) (i : Int) : L38_111014 i1 e_Arms i =
  bif decide (i < (e_Arms.length : Int)) then
    bif decide (0 ≤ i) then
      (e_Arms[i.toNat]?).bind fun x =>
        (bif (Sh.agg [Sh.int .i64, Sh.int .i64, Sh.str, Sh.lst, Sh.int .i64, Sh.int .i64, Sh.str, Sh.lst, Sh.lst, Sh.lst, Sh.lst, Sh.int .i64]).fits x then
          ((V 38 [.pv (.agg [.int .i64 ((x.c 4).toInt), .int .i64 ((x.c 5).toInt), .str ((x.c 6).toStr), .lst ((x.c 7).toLst), .lst ((x.c 8).toLst), .lst ((x.c 9).toLst), .lst ((x.c 10).toLst), .int .i64 ((x.c 11).toInt)])]).bind retPV).bind fun r =>
            (bif (Sh.int .i64).fits r then
              ((V 75 [.pv (.agg [.int .i64 ((x.c 0).toInt), .int .i64 ((x.c 1).toInt), .str ((x.c 2).toStr), .lst ((x.c 3).toLst)])]).bind retPV).bind fun r1 =>
                (bif (Sh.int .i64).fits r1 then
                  L38_111014 (IntKind.i64.wrap (i1 + (IntKind.i64.wrap ((r.toInt) + (r1.toInt))))) e_Arms (IntKind.i64.wrap (i + (1 : Int)))
                else none)
            else none)
        else none)
    else none
  else some (.pv (.int .i64 i1), []) :=
  (LV_eq pa 38 _ _).trans (by kernel_rfl)
/-! 39 roadstead/tree.Walk -/
def st39_11014 (l : List PV) (v : List PV) (i : Int) : AS :=
  ⟨[.any, .any, .any, .bld 0 0 l, .any, .any, .any, .any, .any, .pv (.lst v), .pv (.int .i64 (v.length : Int)), .pv (.int .i64 i), .any, .any, .any, .any, .any, .any, .any, .any, .any], ⟨[], [], [(0, 8)]⟩⟩
noncomputable def L39_11014 (l : List PV) (v : List PV) (i : Int) : Option Out := LV Pr T 39 [1, 1, 0, 1, 4] (st39_11014 l v i)
theorem e39 (e_Kind : Int) (e_Num : Int) (e_Text : List UInt8) (e_Names : List PV) (e_Types : List PV) (e_Args : List PV) (e_Arms : List PV) (e_At : Int) : V 39 [.pv (.agg [.int .i64 e_Kind, .int .i64 e_Num, .str e_Text, .lst e_Names, .lst e_Types, .lst e_Args, .lst e_Arms, .int .i64 e_At])] =
  ((V 76 [.pv (.agg [.int .i64 e_Kind, .int .i64 e_Num, .str e_Text, .lst e_Names, .lst e_Types, .lst e_Args, .lst e_Arms, .int .i64 e_At])]).bind retPV).bind fun r =>
    (bif (Sh.lst).fits r then
      L39_11014 [.agg [.int .i64 e_Kind, .int .i64 e_Num, .str e_Text, .lst e_Names, .lst e_Types, .lst e_Args, .lst e_Arms, .int .i64 e_At]] r.toLst 0
    else none) :=
  (V_eq pa rfl _).trans (by kernel_rfl)
theorem e39_11014 (l : List PV) (v : List PV) (i : Int) : L39_11014 l v i =
  bif decide (i < (v.length : Int)) then
    bif decide (0 ≤ i) then
      (v[i.toNat]?).bind fun x =>
        (bif (Sh.agg [Sh.int .i64, Sh.int .i64, Sh.str, Sh.lst, Sh.lst, Sh.lst, Sh.lst, Sh.int .i64]).fits x then
          ((V 39 [.pv (.agg [.int .i64 ((x.c 0).toInt), .int .i64 ((x.c 1).toInt), .str ((x.c 2).toStr), .lst ((x.c 3).toLst), .lst ((x.c 4).toLst), .lst ((x.c 5).toLst), .lst ((x.c 6).toLst), .int .i64 ((x.c 7).toInt)])]).bind retPV).bind fun r =>
            (bif (Sh.lst).fits r then
              bif headOk 8 r.toLst then
                bif small (l.length) (r.toLst.length) 136 then
                  L39_11014 (l ++ r.toLst) v (IntKind.i64.wrap (i + (1 : Int)))
                else none
              else none
            else none)
        else none)
    else none
  else some (.bld 8 l, []) :=
  (LV_eq pa 39 _ _).trans (by kernel_rfl)
/-! 40 slices.Equal[[]string,string] -/
def st40_11014 (s1 : List PV) (s2 : List PV) (i : Int) : AS :=
  ⟨[.pv (.lst s1), .pv (.lst s2), .any, .any, .any, .any, .any, .any, .any, .any, .any, .any, .pv (.int .i64 (s1.length : Int)), .pv (.int .i64 i), .any, .any, .any, .any, .any, .any, .any, .any, .any, .any, .any, .any], ⟨[], [], []⟩⟩
noncomputable def L40_11014 (s1 : List PV) (s2 : List PV) (i : Int) : Option Out := LV Pr T 40 [1, 1, 0, 1, 4] (st40_11014 s1 s2 i)
theorem e40 (s1 : List PV) (s2 : List PV) : V 40 [.pv (.lst s1), .pv (.lst s2)] =
  bif ((s1.length : Int) != (s2.length : Int)) then
    some (.pv (.bool false), [])
  else L40_11014 s1 s2 0 :=
  (V_eq pa rfl _).trans (by kernel_rfl)
theorem e40_11014 (s1 : List PV) (s2 : List PV) (i : Int) : L40_11014 s1 s2 i =
  bif decide (i < (s1.length : Int)) then
    bif decide (0 ≤ i) then
      (s1[i.toNat]?).bind fun x =>
        (bif (Sh.str).fits x then
          bif decide (0 ≤ i) then
            (s2[i.toNat]?).bind fun x1 =>
              (bif (Sh.str).fits x1 then
                bif (!(x.toStr == x1.toStr)) then
                  some (.pv (.bool false), [])
                else L40_11014 s1 s2 (IntKind.i64.wrap (i + (1 : Int)))
              else none)
          else none
        else none)
    else none
  else some (.pv (.bool true), []) :=
  (LV_eq pa 40 _ _).trans (by kernel_rfl)
/-! 41 roadstead/tree.Free -/
theorem e41 (e_Kind : Int) (e_Num : Int) (e_Text : List UInt8) (e_Names : List PV) (e_Types : List PV) (e_Args : List PV) (e_Arms : List PV) (e_At : Int) : V 41 [.pv (.agg [.int .i64 e_Kind, .int .i64 e_Num, .str e_Text, .lst e_Names, .lst e_Types, .lst e_Args, .lst e_Arms, .int .i64 e_At])] =
  (V 77 [.pv (.agg [.int .i64 e_Kind, .int .i64 e_Num, .str e_Text, .lst e_Names, .lst e_Types, .lst e_Args, .lst e_Arms, .int .i64 e_At]), .pv (.lst []), .bld 1 []]).bind fun r =>
    ((retB 1 r).bind fun l =>
      (some (.bld 1 l, []))) :=
  (V_eq pa rfl _).trans (by kernel_rfl)
/-! 43 roadstead/tree.ownTypes -/
def st43_11014 (l1 : List PV) (l : List PV) (i : Int) : AS :=
  ⟨[.any, .any, .any, .bld 0 0 l1, .any, .any, .pv (.lst l), .pv (.int .i64 (l.length : Int)), .pv (.int .i64 i), .any, .any, .any, .any, .any, .any, .any, .any, .any, .any, .any, .any, .any], ⟨[], [], [(0, 3)]⟩⟩
noncomputable def L43_11014 (l1 : List PV) (l : List PV) (i : Int) : Option Out := LV Pr T 43 [1, 1, 0, 1, 4] (st43_11014 l1 l i)
theorem e43 (l : List PV) : V 43 [.pv (.lst l)] =
  L43_11014 [] l 0 :=
  (V_eq pa rfl _).trans (by kernel_rfl)
theorem e43_11014 (l1 : List PV) (l : List PV) (i : Int) : L43_11014 l1 l i =
  bif decide (i < (l.length : Int)) then
    bif decide (0 ≤ i) then
      (l[i.toNat]?).bind fun x =>
        (bif (Sh.agg [Sh.int .i64, Sh.str, Sh.lst]).fits x then
          ((V 43 [.pv (.lst ((x.c 2).toLst))]).bind retPV).bind fun r =>
            (bif (Sh.lst).fits r then
              bif small (l1.length) 1 48 then
                L43_11014 (l1 ++ [.agg [.int .i64 ((x.c 0).toInt), .str ((x.c 1).toStr), .lst r.toLst]]) l (IntKind.i64.wrap (i + (1 : Int)))
              else none
            else none)
        else none)
    else none
  else some (.bld 3 l1, []) :=
  (LV_eq pa 43 _ _).trans (by kernel_rfl)
/-! 44 roadstead/tree.ownPat -/
def st44_11014 (l : List PV) (p_Args : List PV) (i : Int) (p_Kind : Int) (p_Num : Int) (p_Text : List UInt8) : AS :=
  ⟨[.any, .box 0 0, .box 1 0, .bld 0 0 l, .any, .any, .any, .pv (.lst p_Args), .pv (.int .i64 (p_Args.length : Int)), .pv (.int .i64 i), .any, .any, .any, .any, .any, .any, .any, .any, .any, .any, .any, .any], ⟨[(false, [.pv (.int .i64 p_Kind), .pv (.int .i64 p_Num), .pv (.str p_Text), .pv (.lst p_Args)]), (false, [.pv (.int .i64 0), .pv (.int .i64 0), .pv (.str []), .pv .nils])], [], [(0, 4)]⟩⟩
noncomputable def L44_11014 (l : List PV) (p_Args : List PV) (i : Int) (p_Kind : Int) (p_Num : Int) (p_Text : List UInt8) : Option Out := LV Pr T 44 [1, 1, 0, 1, 4] (st44_11014 l p_Args i p_Kind p_Num p_Text)
theorem e44 (p_Kind : Int) (p_Num : Int) (p_Text : List UInt8) (p_Args : List PV) : V 44 [.pv (.agg [.int .i64 p_Kind, .int .i64 p_Num, .str p_Text, .lst p_Args])] =
  L44_11014 [] p_Args 0 p_Kind p_Num p_Text :=
  (V_eq pa rfl _).trans (by kernel_rfl)
theorem e44_11014 (l : List PV) (p_Args : List PV) (i : Int) (p_Kind : Int) (p_Num : Int) (p_Text : List UInt8) : L44_11014 l p_Args i p_Kind p_Num p_Text =
  bif decide (i < (p_Args.length : Int)) then
    bif decide (0 ≤ i) then
      (p_Args[i.toNat]?).bind fun x =>
        (bif (Sh.agg [Sh.int .i64, Sh.int .i64, Sh.str, Sh.lst]).fits x then
          ((V 44 [.pv (.agg [.int .i64 ((x.c 0).toInt), .int .i64 ((x.c 1).toInt), .str ((x.c 2).toStr), .lst ((x.c 3).toLst)])]).bind retPV).bind fun r =>
            (bif (Sh.agg [Sh.int .i64, Sh.int .i64, Sh.str, Sh.lst]).fits r then
              bif small (l.length) 1 56 then
                L44_11014 (l ++ [.agg [.int .i64 ((r.c 0).toInt), .int .i64 ((r.c 1).toInt), .str ((r.c 2).toStr), .lst ((r.c 3).toLst)]]) p_Args (IntKind.i64.wrap (i + (1 : Int))) p_Kind p_Num p_Text
              else none
            else none)
        else none)
    else none
  else some (.pv (.agg [.int .i64 p_Kind, .int .i64 p_Num, .str p_Text, .lst l]), []) :=
  (LV_eq pa 44 _ _).trans (by kernel_rfl)
/-! 45 slices.EqualFunc[[]roadstead/api.Type,[]roadstead/api.Type,roadstead/api.Type,roadstead/api.Type] -/
def st45_11014 (s2 : List PV) (eq_f : FuncId) (eq_c : List PV) (s1 : List PV) (i : Int) : AS :=
  ⟨[.any, .pv (.lst s2), .pv (.fn eq_f eq_c), .any, .any, .any, .any, .any, .any, .any, .any, .any, .any, .any, .any, .pv (.lst s1), .pv (.int .i64 (s1.length : Int)), .pv (.int .i64 i), .any, .any, .any, .any, .any, .any, .any, .any, .any, .any, .any, .any, .any, .any], ⟨[], [], []⟩⟩
noncomputable def L45_11014 (s2 : List PV) (eq_f : FuncId) (eq_c : List PV) (s1 : List PV) (i : Int) : Option Out := LV Pr T 45 [1, 1, 0, 1, 4] (st45_11014 s2 eq_f eq_c s1 i)
theorem e45 (s1 : List PV) (s2 : List PV) (eq_f : FuncId) (eq_c : List PV) : V 45 [.pv (.lst s1), .pv (.lst s2), .pv (.fn eq_f eq_c)] =
  bif ((s1.length : Int) != (s2.length : Int)) then
    some (.pv (.bool false), [])
  else L45_11014 s2 eq_f eq_c s1 0 :=
  (V_eq pa rfl _).trans (by kernel_rfl)
theorem e45_11014 (s2 : List PV) (eq_f : FuncId) (eq_c : List PV) (s1 : List PV) (i : Int) : L45_11014 s2 eq_f eq_c s1 i =
  bif decide (i < (s1.length : Int)) then
    bif decide (0 ≤ i) then
      (s1[i.toNat]?).bind fun x =>
        (bif (Sh.agg [Sh.int .i64, Sh.str, Sh.lst]).fits x then
          bif decide (0 ≤ i) then
            (s2[i.toNat]?).bind fun x1 =>
              (bif (Sh.agg [Sh.int .i64, Sh.str, Sh.lst]).fits x1 then
                ((V eq_f ((([.agg [.int .i64 ((x.c 0).toInt), .str ((x.c 1).toStr), .lst ((x.c 2).toLst)], .agg [.int .i64 ((x1.c 0).toInt), .str ((x1.c 1).toStr), .lst ((x1.c 2).toLst)]] : List PV) ++ eq_c).map .pv)).bind retPV).bind fun r =>
                  (bif (Sh.bool).fits r then
                    bif (!r.toBool) then
                      some (.pv (.bool false), [])
                    else L45_11014 s2 eq_f eq_c s1 (IntKind.i64.wrap (i + (1 : Int)))
                  else none)
              else none)
          else none
        else none)
    else none
  else some (.pv (.bool true), []) :=
  (LV_eq pa 45 _ _).trans (by kernel_rfl)
/-! 46 slices.EqualFunc[[]roadstead/api.Expr,[]roadstead/api.Expr,roadstead/api.Expr,roadstead/api.Expr] -/
def st46_11014 (s2 : List PV) (eq_f : FuncId) (eq_c : List PV) (s1 : List PV) (i : Int) : AS :=
  ⟨[.any, .pv (.lst s2), .pv (.fn eq_f eq_c), .any, .any, .any, .any, .any, .any, .any, .any, .any, .any, .any, .any, .pv (.lst s1), .pv (.int .i64 (s1.length : Int)), .pv (.int .i64 i), .any, .any, .any, .any, .any, .any, .any, .any, .any, .any, .any, .any, .any, .any], ⟨[], [], []⟩⟩
noncomputable def L46_11014 (s2 : List PV) (eq_f : FuncId) (eq_c : List PV) (s1 : List PV) (i : Int) : Option Out := LV Pr T 46 [1, 1, 0, 1, 4] (st46_11014 s2 eq_f eq_c s1 i)
theorem e46 (s1 : List PV) (s2 : List PV) (eq_f : FuncId) (eq_c : List PV) : V 46 [.pv (.lst s1), .pv (.lst s2), .pv (.fn eq_f eq_c)] =
  bif ((s1.length : Int) != (s2.length : Int)) then
    some (.pv (.bool false), [])
  else L46_11014 s2 eq_f eq_c s1 0 :=
  (V_eq pa rfl _).trans (by kernel_rfl)
theorem e46_11014 (s2 : List PV) (eq_f : FuncId) (eq_c : List PV) (s1 : List PV) (i : Int) : L46_11014 s2 eq_f eq_c s1 i =
  bif decide (i < (s1.length : Int)) then
    bif decide (0 ≤ i) then
      (s1[i.toNat]?).bind fun x =>
        (bif (Sh.agg [Sh.int .i64, Sh.int .i64, Sh.str, Sh.lst, Sh.lst, Sh.lst, Sh.lst, Sh.int .i64]).fits x then
          bif decide (0 ≤ i) then
            (s2[i.toNat]?).bind fun x1 =>
              (bif (Sh.agg [Sh.int .i64, Sh.int .i64, Sh.str, Sh.lst, Sh.lst, Sh.lst, Sh.lst, Sh.int .i64]).fits x1 then
                ((V eq_f ((([.agg [.int .i64 ((x.c 0).toInt), .int .i64 ((x.c 1).toInt), .str ((x.c 2).toStr), .lst ((x.c 3).toLst), .lst ((x.c 4).toLst), .lst ((x.c 5).toLst), .lst ((x.c 6).toLst), .int .i64 ((x.c 7).toInt)], .agg [.int .i64 ((x1.c 0).toInt), .int .i64 ((x1.c 1).toInt), .str ((x1.c 2).toStr), .lst ((x1.c 3).toLst), .lst ((x1.c 4).toLst), .lst ((x1.c 5).toLst), .lst ((x1.c 6).toLst), .int .i64 ((x1.c 7).toInt)]] : List PV) ++ eq_c).map .pv)).bind retPV).bind fun r =>
                  (bif (Sh.bool).fits r then
                    bif (!r.toBool) then
                      some (.pv (.bool false), [])
                    else L46_11014 s2 eq_f eq_c s1 (IntKind.i64.wrap (i + (1 : Int)))
                  else none)
              else none)
          else none
        else none)
    else none
  else some (.pv (.bool true), []) :=
  (LV_eq pa 46 _ _).trans (by kernel_rfl)
/-! 47 slices.EqualFunc[[]roadstead/api.Arm,[]roadstead/api.Arm,roadstead/api.Arm,roadstead/api.Arm] -/
def st47_11014 (s2 : List PV) (eq_f : FuncId) (eq_c : List PV) (s1 : List PV) (i : Int) : AS :=
  ⟨[.any, .pv (.lst s2), .pv (.fn eq_f eq_c), .any, .any, .any, .any, .any, .any, .any, .any, .any, .any, .any, .any, .pv (.lst s1), .pv (.int .i64 (s1.length : Int)), .pv (.int .i64 i), .any, .any, .any, .any, .any, .any, .any, .any, .any, .any, .any, .any, .any, .any], ⟨[], [], []⟩⟩
noncomputable def L47_11014 (s2 : List PV) (eq_f : FuncId) (eq_c : List PV) (s1 : List PV) (i : Int) : Option Out := LV Pr T 47 [1, 1, 0, 1, 4] (st47_11014 s2 eq_f eq_c s1 i)
theorem e47 (s1 : List PV) (s2 : List PV) (eq_f : FuncId) (eq_c : List PV) : V 47 [.pv (.lst s1), .pv (.lst s2), .pv (.fn eq_f eq_c)] =
  bif ((s1.length : Int) != (s2.length : Int)) then
    some (.pv (.bool false), [])
  else L47_11014 s2 eq_f eq_c s1 0 :=
  (V_eq pa rfl _).trans (by kernel_rfl)
theorem e47_11014 (s2 : List PV) (eq_f : FuncId) (eq_c : List PV) (s1 : List PV) (i : Int) : L47_11014 s2 eq_f eq_c s1 i =
  bif decide (i < (s1.length : Int)) then
    bif decide (0 ≤ i) then
      (s1[i.toNat]?).bind fun x =>
        (bif (Sh.agg [Sh.int .i64, Sh.int .i64, Sh.str, Sh.lst, Sh.int .i64, Sh.int .i64, Sh.str, Sh.lst, Sh.lst, Sh.lst, Sh.lst, Sh.int .i64]).fits x then
          bif decide (0 ≤ i) then
            (s2[i.toNat]?).bind fun x1 =>
              (bif (Sh.agg [Sh.int .i64, Sh.int .i64, Sh.str, Sh.lst, Sh.int .i64, Sh.int .i64, Sh.str, Sh.lst, Sh.lst, Sh.lst, Sh.lst, Sh.int .i64]).fits x1 then
                ((V eq_f ((([.agg [.int .i64 ((x.c 0).toInt), .int .i64 ((x.c 1).toInt), .str ((x.c 2).toStr), .lst ((x.c 3).toLst), .int .i64 ((x.c 4).toInt), .int .i64 ((x.c 5).toInt), .str ((x.c 6).toStr), .lst ((x.c 7).toLst), .lst ((x.c 8).toLst), .lst ((x.c 9).toLst), .lst ((x.c 10).toLst), .int .i64 ((x.c 11).toInt)], .agg [.int .i64 ((x1.c 0).toInt), .int .i64 ((x1.c 1).toInt), .str ((x1.c 2).toStr), .lst ((x1.c 3).toLst), .int .i64 ((x1.c 4).toInt), .int .i64 ((x1.c 5).toInt), .str ((x1.c 6).toStr), .lst ((x1.c 7).toLst), .lst ((x1.c 8).toLst), .lst ((x1.c 9).toLst), .lst ((x1.c 10).toLst), .int .i64 ((x1.c 11).toInt)]] : List PV) ++ eq_c).map .pv)).bind retPV).bind fun r =>
                  (bif (Sh.bool).fits r then
                    bif (!r.toBool) then
                      some (.pv (.bool false), [])
                    else L47_11014 s2 eq_f eq_c s1 (IntKind.i64.wrap (i + (1 : Int)))
                  else none)
              else none)
          else none
        else none)
    else none
  else some (.pv (.bool true), []) :=
  (LV_eq pa 47 _ _).trans (by kernel_rfl)
/-! 48 roadstead/tree.sameArm -/
theorem e48 (a_Pat_Kind : Int) (a_Pat_Num : Int) (a_Pat_Text : List UInt8) (a_Pat_Args : List PV) (a_Body_Kind : Int) (a_Body_Num : Int) (a_Body_Text : List UInt8) (a_Body_Names : List PV) (a_Body_Types : List PV) (a_Body_Args : List PV) (a_Body_Arms : List PV) (a_Body_At : Int) (b_Pat_Kind : Int) (b_Pat_Num : Int) (b_Pat_Text : List UInt8) (b_Pat_Args : List PV) (b_Body_Kind : Int) (b_Body_Num : Int) (b_Body_Text : List UInt8) (b_Body_Names : List PV) (b_Body_Types : List PV) (b_Body_Args : List PV) (b_Body_Arms : List PV) (b_Body_At : Int) : V 48 [.pv (.agg [.int .i64 a_Pat_Kind, .int .i64 a_Pat_Num, .str a_Pat_Text, .lst a_Pat_Args, .int .i64 a_Body_Kind, .int .i64 a_Body_Num, .str a_Body_Text, .lst a_Body_Names, .lst a_Body_Types, .lst a_Body_Args, .lst a_Body_Arms, .int .i64 a_Body_At]), .pv (.agg [.int .i64 b_Pat_Kind, .int .i64 b_Pat_Num, .str b_Pat_Text, .lst b_Pat_Args, .int .i64 b_Body_Kind, .int .i64 b_Body_Num, .str b_Body_Text, .lst b_Body_Names, .lst b_Body_Types, .lst b_Body_Args, .lst b_Body_Arms, .int .i64 b_Body_At])] =
  ((V 78 [.pv (.agg [.int .i64 a_Pat_Kind, .int .i64 a_Pat_Num, .str a_Pat_Text, .lst a_Pat_Args]), .pv (.agg [.int .i64 b_Pat_Kind, .int .i64 b_Pat_Num, .str b_Pat_Text, .lst b_Pat_Args])]).bind retPV).bind fun r =>
    (bif (Sh.bool).fits r then
      bif r.toBool then
        ((V 16 [.pv (.agg [.int .i64 a_Body_Kind, .int .i64 a_Body_Num, .str a_Body_Text, .lst a_Body_Names, .lst a_Body_Types, .lst a_Body_Args, .lst a_Body_Arms, .int .i64 a_Body_At]), .pv (.agg [.int .i64 b_Body_Kind, .int .i64 b_Body_Num, .str b_Body_Text, .lst b_Body_Names, .lst b_Body_Types, .lst b_Body_Args, .lst b_Body_Arms, .int .i64 b_Body_At])]).bind retPV).bind fun r1 =>
          (bif (Sh.bool).fits r1 then
            some (.pv (.bool r1.toBool), [])
          else none)
      else some (.pv (.bool false), [])
    else none) :=
  (V_eq pa rfl _).trans (by kernel_rfl)
/-! 75 roadstead/tree.patSize -/
def st75_11014 (i : Int) (p_Args : List PV) (i1 : Int) : AS :=
  ⟨[.any, .any, .any, .pv (.int .i64 i), .any, .any, .any, .pv (.lst p_Args), .pv (.int .i64 (p_Args.length : Int)), .pv (.int .i64 i1), .any, .any, .any, .any, .any, .any, .any, .any, .any], ⟨[], [], []⟩⟩
noncomputable def L75_11014 (i : Int) (p_Args : List PV) (i1 : Int) : Option Out := LV Pr T 75 [1, 1, 0, 1, 4] (st75_11014 i p_Args i1)
theorem e75 (p_Kind : Int) (p_Num : Int) (p_Text : List UInt8) (p_Args : List PV) : V 75 [.pv (.agg [.int .i64 p_Kind, .int .i64 p_Num, .str p_Text, .lst p_Args])] =
  L75_11014 1 p_Args 0 :=
  (V_eq pa rfl _).trans (by kernel_rfl)
theorem e75_11014 (i : Int) (p_Args : List PV) (i1 : Int) : L75_11014 i p_Args i1 =
  bif decide (i1 < (p_Args.length : Int)) then
    bif decide (0 ≤ i1) then
      (p_Args[i1.toNat]?).bind fun x =>
        (bif (Sh.agg [Sh.int .i64, Sh.int .i64, Sh.str, Sh.lst]).fits x then
          ((V 75 [.pv (.agg [.int .i64 ((x.c 0).toInt), .int .i64 ((x.c 1).toInt), .str ((x.c 2).toStr), .lst ((x.c 3).toLst)])]).bind retPV).bind fun r =>
            (bif (Sh.int .i64).fits r then
              L75_11014 (IntKind.i64.wrap (i + (r.toInt))) p_Args (IntKind.i64.wrap (i1 + (1 : Int)))
            else none)
        else none)
    else none
  else some (.pv (.int .i64 i), []) :=
  (LV_eq pa 75 _ _).trans (by kernel_rfl)
/-! 76 roadstead/tree.Parts -/
def st76_11014 (l : List PV) (e_Arms : List PV) (i : Int) : AS :=
  ⟨[.any, .any, .any, .bld 0 0 l, .any, .any, .any, .any, .any, .any, .pv (.lst e_Arms), .pv (.int .i64 (e_Arms.length : Int)), .pv (.int .i64 i), .any, .any, .any, .any, .any, .any, .any, .any, .any, .any], ⟨[], [], [(0, 8)]⟩⟩
noncomputable def L76_11014 (l : List PV) (e_Arms : List PV) (i : Int) : Option Out := LV Pr T 76 [1, 1, 0, 1, 4] (st76_11014 l e_Arms i)
theorem e76 (e_Kind : Int) (e_Num : Int) (e_Text : List UInt8) (e_Names : List PV) (e_Types : List PV) (e_Args : List PV) (e_Arms : List PV) (e_At : Int) : V 76 [.pv (.agg [.int .i64 e_Kind, .int .i64 e_Num, .str e_Text, .lst e_Names, .lst e_Types, .lst e_Args, .lst e_Arms, .int .i64 e_At])] =
  (V 110 [.pv (.lst e_Args)]).bind fun r =>
    ((retB 8 r).bind fun l =>
      (L76_11014 l e_Arms 0)) :=
  (V_eq pa rfl _).trans (by kernel_rfl)
theorem e76_11014 (l : List PV) (e_Arms : List PV) (i : Int) : L76_11014 l e_Arms i =
  bif decide (i < (e_Arms.length : Int)) then
    bif decide (0 ≤ i) then
      (e_Arms[i.toNat]?).bind fun x =>
        (bif (Sh.agg [Sh.int .i64, Sh.int .i64, Sh.str, Sh.lst, Sh.int .i64, Sh.int .i64, Sh.str, Sh.lst, Sh.lst, Sh.lst, Sh.lst, Sh.int .i64]).fits x then
          bif small (l.length) 1 136 then
            L76_11014 (l ++ [.agg [.int .i64 ((x.c 4).toInt), .int .i64 ((x.c 5).toInt), .str ((x.c 6).toStr), .lst ((x.c 7).toLst), .lst ((x.c 8).toLst), .lst ((x.c 9).toLst), .lst ((x.c 10).toLst), .int .i64 ((x.c 11).toInt)]]) e_Arms (IntKind.i64.wrap (i + (1 : Int)))
          else none
        else none)
    else none
  else some (.bld 8 l, []) :=
  (LV_eq pa 76 _ _).trans (by kernel_rfl)
/-! 77 roadstead/tree.free -/
def st77_11041312016 (out : List PV) (b : Bool) (e_Kind : Int) (e_Num : Int) (e_Text : List UInt8) (e_Names : List PV) (e_Types : List PV) (e_Args : List PV) (e_Arms : List PV) (e_At : Int) : AS :=
  ⟨[.any, .any, .bld 0 0 out, .box 0 0, .any, .any, .any, .any, .any, .any, .any, .any, .any, .any, .any, .any, .any, .any, .any, .any, .any, .any, .any, .any, .any, .any, .any, .any, .any, .any, .any, .any, .any, .any, .any, .any, .pv (.bool b), .any, .any, .any, .any, .any, .any, .any, .any, .any, .any, .any, .any, .any, .any, .any, .any, .any, .any, .any, .any, .any, .any, .any, .any, .any, .any, .any, .any, .any, .any, .any, .any, .any, .any, .any, .any, .any, .any, .any, .any, .any, .any, .any, .any, .any, .any, .any, .any, .any, .any, .any, .any, .any, .any, .any, .any, .any, .any, .any, .any, .any, .any, .any, .any, .any, .any, .any, .any, .any, .any, .any, .any, .any, .any, .any, .any, .any, .any, .any, .any, .any, .any, .any, .any, .any, .any, .any, .any, .any], ⟨[(false, [.pv (.int .i64 e_Kind), .pv (.int .i64 e_Num), .pv (.str e_Text), .pv (.lst e_Names), .pv (.lst e_Types), .pv (.lst e_Args), .pv (.lst e_Arms), .pv (.int .i64 e_At)])], [], [(0, 1)]⟩⟩
noncomputable def L77_11041312016 (out : List PV) (b : Bool) (e_Kind : Int) (e_Num : Int) (e_Text : List UInt8) (e_Names : List PV) (e_Types : List PV) (e_Args : List PV) (e_Arms : List PV) (e_At : Int) : Option Out := LV Pr T 77 [1, 1, 0, 4, 1, 3, 1, 2, 0, 1, 6] (st77_11041312016 out b e_Kind e_Num e_Text e_Names e_Types e_Args e_Arms e_At)
def st77_1104131312014 (within : List PV) (out : List PV) (e_Args : List PV) (i : Int) : AS :=
  ⟨[.any, .pv (.lst within), .bld 0 0 out, .any, .any, .any, .any, .any, .any, .any, .any, .any, .any, .any, .any, .any, .any, .any, .any, .any, .any, .any, .any, .any, .any, .any, .any, .any, .any, .any, .any, .any, .any, .any, .any, .any, .any, .any, .any, .any, .any, .any, .any, .any, .any, .any, .any, .any, .any, .any, .pv (.lst e_Args), .pv (.int .i64 (e_Args.length : Int)), .pv (.int .i64 i), .any, .any, .any, .any, .any, .any, .any, .any, .any, .any, .any, .any, .any, .any, .any, .any, .any, .any, .any, .any, .any, .any, .any, .any, .any, .any, .any, .any, .any, .any, .any, .any, .any, .any, .any, .any, .any, .any, .any, .any, .any, .any, .any, .any, .any, .any, .any, .any, .any, .any, .any, .any, .any, .any, .any, .any, .any, .any, .any, .any, .any, .any, .any, .any, .any, .any, .any, .any, .any, .any, .any, .any, .any], ⟨[], [], [(0, 1)]⟩⟩
noncomputable def L77_1104131312014 (within : List PV) (out : List PV) (e_Args : List PV) (i : Int) : Option Out := LV Pr T 77 [1, 1, 0, 4, 1, 3, 1, 3, 1, 2, 0, 1, 4] (st77_1104131312014 within out e_Args i)
def st77_111014 (within : List PV) (out : List PV) (e_Args : List PV) (v : Int) (i : Int) (e_Kind : Int) (e_Num : Int) (e_Text : List UInt8) (e_Names : List PV) (e_Types : List PV) (e_Arms : List PV) (e_At : Int) : AS :=
  ⟨[.any, .pv (.lst within), .bld 0 0 out, .box 0 0, .any, .any, .any, .any, .any, .any, .any, .any, .any, .any, .any, .any, .any, .any, .any, .any, .any, .any, .any, .any, .any, .any, .any, .any, .any, .any, .any, .any, .any, .any, .any, .any, .any, .any, .any, .any, .any, .any, .any, .any, .any, .any, .any, .any, .any, .any, .any, .any, .any, .any, .any, .any, .any, .any, .any, .any, .any, .any, .any, .any, .any, .pv (.lst (e_Args.take (v).toNat)), .pv (.int .i64 ((e_Args.take (v).toNat).length : Int)), .pv (.int .i64 i), .any, .any, .any, .any, .any, .any, .any, .any, .any, .any, .any, .any, .any, .any, .any, .any, .any, .any, .any, .any, .any, .any, .any, .any, .any, .any, .any, .any, .any, .any, .any, .any, .any, .any, .any, .any, .any, .any, .any, .any, .any, .any, .any, .any, .any, .any, .any, .any, .any, .any, .any, .any, .any, .any, .any, .any, .any, .any], ⟨[(false, [.pv (.int .i64 e_Kind), .pv (.int .i64 e_Num), .pv (.str e_Text), .pv (.lst e_Names), .pv (.lst e_Types), .pv (.lst e_Args), .pv (.lst e_Arms), .pv (.int .i64 e_At)])], [], [(0, 1)]⟩⟩
noncomputable def L77_111014 (within : List PV) (out : List PV) (e_Args : List PV) (v : Int) (i : Int) (e_Kind : Int) (e_Num : Int) (e_Text : List UInt8) (e_Names : List PV) (e_Types : List PV) (e_Arms : List PV) (e_At : Int) : Option Out := LV Pr T 77 [1, 1, 1, 0, 1, 4] (st77_111014 within out e_Args v i e_Kind e_Num e_Text e_Names e_Types e_Arms e_At)
def st77_1110145110411016 (within : List PV) (out : List PV) (e_Args : List PV) (v : Int) (i1 : Int) (b : Bool) (e_Kind : Int) (e_Num : Int) (e_Text : List UInt8) (e_Names : List PV) (e_Types : List PV) (e_Arms : List PV) (e_At : Int) (v1 : Int) (v2 : Int) (v3 : List UInt8) (v4 : List PV) (v5 : List PV) (v6 : List PV) (v7 : List PV) (v8 : Int) : AS :=
  ⟨[.any, .pv (.lst within), .bld 0 0 out, .box 0 0, .any, .any, .any, .any, .any, .any, .any, .box 1 0, .pv (.lst within), .any, .any, .any, .any, .any, .any, .any, .any, .any, .any, .any, .any, .any, .any, .any, .any, .any, .any, .any, .any, .any, .any, .any, .any, .any, .any, .any, .any, .any, .any, .any, .any, .any, .any, .any, .any, .any, .any, .any, .any, .any, .any, .any, .any, .any, .any, .any, .any, .any, .any, .any, .any, .pv (.lst (e_Args.take (v).toNat)), .pv (.int .i64 ((e_Args.take (v).toNat).length : Int)), .pv (.int .i64 i1), .any, .any, .any, .any, .any, .any, .any, .any, .any, .any, .any, .pv (.bool b), .any, .any, .any, .any, .any, .any, .any, .any, .any, .any, .any, .any, .any, .any, .any, .any, .any, .any, .any, .any, .any, .any, .any, .any, .any, .any, .any, .any, .any, .any, .any, .any, .any, .any, .any, .any, .any, .any, .any, .any, .any, .any, .any, .any, .any, .any], ⟨[(false, [.pv (.int .i64 e_Kind), .pv (.int .i64 e_Num), .pv (.str e_Text), .pv (.lst e_Names), .pv (.lst e_Types), .pv (.lst e_Args), .pv (.lst e_Arms), .pv (.int .i64 e_At)]), (false, [.pv (.int .i64 v1), .pv (.int .i64 v2), .pv (.str v3), .pv (.lst v4), .pv (.lst v5), .pv (.lst v6), .pv (.lst v7), .pv (.int .i64 v8)])], [], [(0, 1)]⟩⟩
noncomputable def L77_1110145110411016 (within : List PV) (out : List PV) (e_Args : List PV) (v : Int) (i1 : Int) (b : Bool) (e_Kind : Int) (e_Num : Int) (e_Text : List UInt8) (e_Names : List PV) (e_Types : List PV) (e_Arms : List PV) (e_At : Int) (v1 : Int) (v2 : Int) (v3 : List UInt8) (v4 : List PV) (v5 : List PV) (v6 : List PV) (v7 : List PV) (v8 : Int) : Option Out := LV Pr T 77 [1, 1, 1, 0, 1, 4, 5, 1, 1, 0, 4, 1, 1, 0, 1, 6] (st77_1110145110411016 within out e_Args v i1 b e_Kind e_Num e_Text e_Names e_Types e_Arms e_At v1 v2 v3 v4 v5 v6 v7 v8)
def st77_1111016 (within : List PV) (out : List PV) (b : Bool) (e_Kind : Int) (e_Num : Int) (e_Text : List UInt8) (e_Names : List PV) (e_Types : List PV) (e_Args : List PV) (e_Arms : List PV) (e_At : Int) : AS :=
  ⟨[.any, .pv (.lst within), .bld 0 0 out, .box 0 0, .any, .any, .any, .any, .any, .any, .any, .any, .any, .any, .any, .any, .any, .any, .any, .any, .any, .any, .any, .any, .any, .any, .any, .any, .any, .any, .any, .any, .any, .any, .any, .any, .any, .any, .any, .any, .any, .any, .any, .any, .any, .any, .any, .any, .any, .any, .any, .any, .any, .any, .any, .any, .any, .any, .any, .any, .any, .any, .any, .any, .any, .any, .any, .any, .any, .any, .any, .any, .any, .any, .any, .any, .any, .any, .any, .any, .any, .any, .any, .any, .any, .any, .any, .any, .any, .any, .any, .any, .any, .any, .any, .any, .any, .any, .any, .any, .any, .any, .any, .any, .any, .any, .pv (.bool b), .any, .any, .any, .any, .any, .any, .any, .any, .any, .any, .any, .any, .any, .any, .any, .any, .any, .any, .any], ⟨[(false, [.pv (.int .i64 e_Kind), .pv (.int .i64 e_Num), .pv (.str e_Text), .pv (.lst e_Names), .pv (.lst e_Types), .pv (.lst e_Args), .pv (.lst e_Arms), .pv (.int .i64 e_At)])], [], [(0, 1)]⟩⟩
noncomputable def L77_1111016 (within : List PV) (out : List PV) (b : Bool) (e_Kind : Int) (e_Num : Int) (e_Text : List UInt8) (e_Names : List PV) (e_Types : List PV) (e_Args : List PV) (e_Arms : List PV) (e_At : Int) : Option Out := LV Pr T 77 [1, 1, 1, 1, 0, 1, 6] (st77_1111016 within out b e_Kind e_Num e_Text e_Names e_Types e_Args e_Arms e_At)
def st77_111014511041116 (within : List PV) (out : List PV) (l1 : List PV) (e_Args : List PV) (v : Int) (i : Int) (e_Kind : Int) (e_Num : Int) (e_Text : List UInt8) (e_Names : List PV) (e_Types : List PV) (e_Arms : List PV) (e_At : Int) (v1 : Int) (v2 : Int) (v3 : List UInt8) (v4 : List PV) (v5 : List PV) (v6 : List PV) (v7 : List PV) (v8 : Int) : AS :=
  ⟨[.any, .pv (.lst within), .bld 0 0 out, .box 0 0, .any, .any, .any, .any, .any, .any, .any, .box 1 0, .pv (.lst l1), .any, .any, .any, .any, .any, .any, .any, .any, .any, .any, .any, .any, .any, .any, .any, .any, .any, .any, .any, .any, .any, .any, .any, .any, .any, .any, .any, .any, .any, .any, .any, .any, .any, .any, .any, .any, .any, .any, .any, .any, .any, .any, .any, .any, .any, .any, .any, .any, .any, .any, .any, .any, .pv (.lst (e_Args.take (v).toNat)), .pv (.int .i64 ((e_Args.take (v).toNat).length : Int)), .pv (.int .i64 i), .any, .any, .any, .any, .any, .any, .any, .any, .any, .any, .any, .any, .any, .any, .any, .any, .any, .any, .any, .any, .any, .any, .any, .any, .any, .any, .any, .any, .any, .any, .any, .any, .any, .any, .any, .any, .any, .any, .any, .any, .any, .any, .any, .any, .any, .any, .any, .any, .any, .any, .any, .any, .any, .any, .any, .any, .any, .any], ⟨[(false, [.pv (.int .i64 e_Kind), .pv (.int .i64 e_Num), .pv (.str e_Text), .pv (.lst e_Names), .pv (.lst e_Types), .pv (.lst e_Args), .pv (.lst e_Arms), .pv (.int .i64 e_At)]), (false, [.pv (.int .i64 v1), .pv (.int .i64 v2), .pv (.str v3), .pv (.lst v4), .pv (.lst v5), .pv (.lst v6), .pv (.lst v7), .pv (.int .i64 v8)])], [], [(0, 1)]⟩⟩
noncomputable def L77_111014511041116 (within : List PV) (out : List PV) (l1 : List PV) (e_Args : List PV) (v : Int) (i : Int) (e_Kind : Int) (e_Num : Int) (e_Text : List UInt8) (e_Names : List PV) (e_Types : List PV) (e_Arms : List PV) (e_At : Int) (v1 : Int) (v2 : Int) (v3 : List UInt8) (v4 : List PV) (v5 : List PV) (v6 : List PV) (v7 : List PV) (v8 : Int) : Option Out := LV Pr T 77 [1, 1, 1, 0, 1, 4, 5, 1, 1, 0, 4, 1, 1, 1, 6] (st77_111014511041116 within out l1 e_Args v i e_Kind e_Num e_Text e_Names e_Types e_Arms e_At v1 v2 v3 v4 v5 v6 v7 v8)
def st77_111101214 (within : List PV) (out : List PV) (e_Arms : List PV) (i : Int) : AS :=
  ⟨[.any, .pv (.lst within), .bld 0 0 out, .any, .any, .any, .any, .any, .any, .any, .any, .any, .any, .any, .any, .any, .any, .any, .any, .any, .any, .any, .any, .any, .any, .any, .any, .any, .any, .any, .any, .any, .any, .any, .any, .any, .any, .any, .any, .any, .any, .any, .any, .any, .any, .any, .any, .any, .any, .any, .any, .any, .any, .any, .any, .any, .any, .any, .any, .any, .any, .any, .any, .any, .any, .any, .any, .any, .any, .any, .any, .any, .any, .any, .any, .any, .any, .any, .any, .any, .any, .any, .any, .any, .any, .any, .any, .any, .any, .any, .any, .any, .any, .any, .any, .any, .any, .any, .any, .any, .any, .any, .any, .any, .any, .any, .any, .any, .pv (.lst e_Arms), .pv (.int .i64 (e_Arms.length : Int)), .pv (.int .i64 i), .any, .any, .any, .any, .any, .any, .any, .any, .any, .any, .any, .any, .any, .any, .any], ⟨[], [], [(0, 1)]⟩⟩
noncomputable def L77_111101214 (within : List PV) (out : List PV) (e_Arms : List PV) (i : Int) : Option Out := LV Pr T 77 [1, 1, 1, 1, 0, 1, 2, 1, 4] (st77_111101214 within out e_Arms i)
theorem e77 (e_Kind : Int) (e_Num : Int) (e_Text : List UInt8) (e_Names : List PV) (e_Types : List PV) (e_Args : List PV) (e_Arms : List PV) (e_At : Int) (within : List PV) (out : List PV) : V 77 [.pv (.agg [.int .i64 e_Kind, .int .i64 e_Num, .str e_Text, .lst e_Names, .lst e_Types, .lst e_Args, .lst e_Arms, .int .i64 e_At]), .pv (.lst within), .bld 1 out] =
  ((V 111 [.pv (.agg [.int .i64 e_Kind, .int .i64 e_Num, .str e_Text, .lst e_Names, .lst e_Types, .lst e_Args, .lst e_Arms, .int .i64 e_At])]).bind retPV).bind fun r =>
    (bif (Sh.int .i64).fits r then
      bif decide ((r.toInt) < (0 : Int)) then
        some (.bld 1 out, [])
      else bif (e_Kind == (5 : Int)) then
        ((V 89 [.pv (.lst within), .pv (.str e_Text)]).bind retPV).bind fun r1 =>
          (bif (Sh.bool).fits r1 then
            bif (!r1.toBool) then
              ((V 89 [.pv (.lst out), .pv (.str e_Text)]).bind retPV).bind fun r2 =>
                (bif (Sh.bool).fits r2 then
                  L77_11041312016 out (!r2.toBool) e_Kind e_Num e_Text e_Names e_Types e_Args e_Arms e_At
                else none)
            else L77_11041312016 out false e_Kind e_Num e_Text e_Names e_Types e_Args e_Arms e_At
          else none)
      else bif decide ((e_Args.length : Int) < (r.toInt)) then
        L77_1104131312014 within out e_Args 0
      else bif headOk 8 e_Args then
        bif (decide (0 ≤ (r.toInt)) && decide ((r.toInt) ≤ (e_Args.length : Int))) then
          L77_111014 within out e_Args r.toInt 0 e_Kind e_Num e_Text e_Names e_Types e_Arms e_At
        else none
      else none
    else none) :=
  (V_eq pa rfl _).trans (by kernel_rfl)
theorem e77_11041312016 (out : List PV) (b : Bool) (e_Kind : Int) (e_Num : Int) (e_Text : List UInt8) (e_Names : List PV) (e_Types : List PV) (e_Args : List PV) (e_Arms : List PV) (e_At : Int) : L77_11041312016 out b e_Kind e_Num e_Text e_Names e_Types e_Args e_Arms e_At =
  bif b then
    bif small (out.length) 1 16 then
      some (.bld 1 (out ++ [.str e_Text]), [])
    else none
  else some (.bld 1 out, []) :=
  (LV_eq pa 77 _ _).trans (by kernel_rfl)
theorem e77_1104131312014 (within : List PV) (out : List PV) (e_Args : List PV) (i : Int) : L77_1104131312014 within out e_Args i =
  bif decide (i < (e_Args.length : Int)) then
    bif decide (0 ≤ i) then
      (e_Args[i.toNat]?).bind fun x =>
        (bif (Sh.agg [Sh.int .i64, Sh.int .i64, Sh.str, Sh.lst, Sh.lst, Sh.lst, Sh.lst, Sh.int .i64]).fits x then
          (V 77 [.pv (.agg [.int .i64 ((x.c 0).toInt), .int .i64 ((x.c 1).toInt), .str ((x.c 2).toStr), .lst ((x.c 3).toLst), .lst ((x.c 4).toLst), .lst ((x.c 5).toLst), .lst ((x.c 6).toLst), .int .i64 ((x.c 7).toInt)]), .pv (.lst within), .bld 1 out]).bind fun r =>
            ((retB 1 r).bind fun l =>
              (L77_1104131312014 within l e_Args (IntKind.i64.wrap (i + (1 : Int)))))
        else none)
    else none
  else some (.bld 1 out, []) :=
  (LV_eq pa 77 _ _).trans (by kernel_rfl)
theorem e77_111014 (within : List PV) (out : List PV) (e_Args : List PV) (v : Int) (i : Int) (e_Kind : Int) (e_Num : Int) (e_Text : List UInt8) (e_Names : List PV) (e_Types : List PV) (e_Arms : List PV) (e_At : Int) : L77_111014 within out e_Args v i e_Kind e_Num e_Text e_Names e_Types e_Arms e_At =
  bif decide (i < ((e_Args.take (v).toNat).length : Int)) then
    bif decide (0 ≤ i) then
      ((e_Args.take (v).toNat)[i.toNat]?).bind fun x =>
        (bif (Sh.agg [Sh.int .i64, Sh.int .i64, Sh.str, Sh.lst, Sh.lst, Sh.lst, Sh.lst, Sh.int .i64]).fits x then
          bif (e_Kind == (6 : Int)) then
            L77_1110145110411016 within out e_Args v i (i == (1 : Int)) e_Kind e_Num e_Text e_Names e_Types e_Arms e_At ((x.c 0).toInt) ((x.c 1).toInt) ((x.c 2).toStr) ((x.c 3).toLst) ((x.c 4).toLst) ((x.c 5).toLst) ((x.c 6).toLst) ((x.c 7).toInt)
          else L77_1110145110411016 within out e_Args v i false e_Kind e_Num e_Text e_Names e_Types e_Arms e_At ((x.c 0).toInt) ((x.c 1).toInt) ((x.c 2).toStr) ((x.c 3).toLst) ((x.c 4).toLst) ((x.c 5).toLst) ((x.c 6).toLst) ((x.c 7).toInt)
        else none)
    else none
  else bif (e_Kind == (13 : Int)) then
    L77_1111016 within out true e_Kind e_Num e_Text e_Names e_Types e_Args e_Arms e_At
  else L77_1111016 within out (e_Kind == (18 : Int)) e_Kind e_Num e_Text e_Names e_Types e_Args e_Arms e_At :=
  (LV_eq pa 77 _ _).trans (by kernel_rfl)
theorem e77_1110145110411016 (within : List PV) (out : List PV) (e_Args : List PV) (v : Int) (i1 : Int) (b : Bool) (e_Kind : Int) (e_Num : Int) (e_Text : List UInt8) (e_Names : List PV) (e_Types : List PV) (e_Arms : List PV) (e_At : Int) (v1 : Int) (v2 : Int) (v3 : List UInt8) (v4 : List PV) (v5 : List PV) (v6 : List PV) (v7 : List PV) (v8 : Int) : L77_1110145110411016 within out e_Args v i1 b e_Kind e_Num e_Text e_Names e_Types e_Arms e_At v1 v2 v3 v4 v5 v6 v7 v8 =
  bif b then
    (V 42 [.pv (.lst within)]).bind fun r =>
      ((retB 1 r).bind fun l =>
        (bif small (l.length) 1 16 then
          L77_111014511041116 within out (l ++ [.str e_Text]) e_Args v i1 e_Kind e_Num e_Text e_Names e_Types e_Arms e_At v1 v2 v3 v4 v5 v6 v7 v8
        else none))
  else L77_111014511041116 within out within e_Args v i1 e_Kind e_Num e_Text e_Names e_Types e_Arms e_At v1 v2 v3 v4 v5 v6 v7 v8 :=
  (LV_eq pa 77 _ _).trans (by kernel_rfl)
theorem e77_1111016 (within : List PV) (out : List PV) (b : Bool) (e_Kind : Int) (e_Num : Int) (e_Text : List UInt8) (e_Names : List PV) (e_Types : List PV) (e_Args : List PV) (e_Arms : List PV) (e_At : Int) : L77_1111016 within out b e_Kind e_Num e_Text e_Names e_Types e_Args e_Arms e_At =
  bif b then
    L77_111101214 within out e_Arms 0
  else some (.bld 1 out, []) :=
  (LV_eq pa 77 _ _).trans (by kernel_rfl)
theorem e77_111014511041116 (within : List PV) (out : List PV) (l1 : List PV) (e_Args : List PV) (v : Int) (i : Int) (e_Kind : Int) (e_Num : Int) (e_Text : List UInt8) (e_Names : List PV) (e_Types : List PV) (e_Arms : List PV) (e_At : Int) (v1 : Int) (v2 : Int) (v3 : List UInt8) (v4 : List PV) (v5 : List PV) (v6 : List PV) (v7 : List PV) (v8 : Int) : L77_111014511041116 within out l1 e_Args v i e_Kind e_Num e_Text e_Names e_Types e_Arms e_At v1 v2 v3 v4 v5 v6 v7 v8 =
  bif (e_Kind == (10 : Int)) then
    (V 42 [.pv (.lst within)]).bind fun r =>
      ((retB 1 r).bind fun l =>
        (bif headOk 1 e_Names then
          bif small (l.length) (e_Names.length) 16 then
            (V 77 [.pv (.agg [.int .i64 v1, .int .i64 v2, .str v3, .lst v4, .lst v5, .lst v6, .lst v7, .int .i64 v8]), .pv (.lst (l ++ e_Names)), .bld 1 out]).bind fun r1 =>
              ((retB 1 r1).bind fun l2 =>
                (L77_111014 within l2 e_Args v (IntKind.i64.wrap (i + (1 : Int))) e_Kind e_Num e_Text e_Names e_Types e_Arms e_At))
          else none
        else none))
  else (V 77 [.pv (.agg [.int .i64 v1, .int .i64 v2, .str v3, .lst v4, .lst v5, .lst v6, .lst v7, .int .i64 v8]), .pv (.lst l1), .bld 1 out]).bind fun r2 =>
    ((retB 1 r2).bind fun l3 =>
      (L77_111014 within l3 e_Args v (IntKind.i64.wrap (i + (1 : Int))) e_Kind e_Num e_Text e_Names e_Types e_Arms e_At)) :=
  (LV_eq pa 77 _ _).trans (by kernel_rfl)
theorem e77_111101214 (within : List PV) (out : List PV) (e_Arms : List PV) (i : Int) : L77_111101214 within out e_Arms i =
  bif decide (i < (e_Arms.length : Int)) then
    bif decide (0 ≤ i) then
      (e_Arms[i.toNat]?).bind fun x =>
        (bif (Sh.agg [Sh.int .i64, Sh.int .i64, Sh.str, Sh.lst, Sh.int .i64, Sh.int .i64, Sh.str, Sh.lst, Sh.lst, Sh.lst, Sh.lst, Sh.int .i64]).fits x then
          (V 42 [.pv (.lst within)]).bind fun r =>
            ((retB 1 r).bind fun l =>
              (((V 112 [.pv (.agg [.int .i64 ((x.c 0).toInt), .int .i64 ((x.c 1).toInt), .str ((x.c 2).toStr), .lst ((x.c 3).toLst)])]).bind retPV).bind fun r1 =>
                (bif (Sh.lst).fits r1 then
                  bif headOk 1 r1.toLst then
                    bif small (l.length) (r1.toLst.length) 16 then
                      (V 77 [.pv (.agg [.int .i64 ((x.c 4).toInt), .int .i64 ((x.c 5).toInt), .str ((x.c 6).toStr), .lst ((x.c 7).toLst), .lst ((x.c 8).toLst), .lst ((x.c 9).toLst), .lst ((x.c 10).toLst), .int .i64 ((x.c 11).toInt)]), .pv (.lst (l ++ r1.toLst)), .bld 1 out]).bind fun r2 =>
                        ((retB 1 r2).bind fun l1 =>
                          (L77_111101214 within l1 e_Arms (IntKind.i64.wrap (i + (1 : Int)))))
                    else none
                  else none
                else none)))
        else none)
    else none
  else some (.bld 1 out, []) :=
  (LV_eq pa 77 _ _).trans (by kernel_rfl)
/-! 78 roadstead/tree.SamePat -/
theorem e78 (a_Kind : Int) (a_Num : Int) (a_Text : List UInt8) (a_Args : List PV) (b_Kind : Int) (b_Num : Int) (b_Text : List UInt8) (b_Args : List PV) : V 78 [.pv (.agg [.int .i64 a_Kind, .int .i64 a_Num, .str a_Text, .lst a_Args]), .pv (.agg [.int .i64 b_Kind, .int .i64 b_Num, .str b_Text, .lst b_Args])] =
  bif (a_Kind == b_Kind) then
    bif (a_Num == b_Num) then
      bif (a_Text == b_Text) then
        ((V 113 [.pv (.lst a_Args), .pv (.lst b_Args), .pv (.fn 78 [])]).bind retPV).bind fun r =>
          (bif (Sh.bool).fits r then
            some (.pv (.bool r.toBool), [])
          else none)
      else some (.pv (.bool false), [])
    else some (.pv (.bool false), [])
  else some (.pv (.bool false), []) :=
  (V_eq pa rfl _).trans (by kernel_rfl)
/-! 86 slices.Index[[]string,string] -/
def st86_1014 (s : List PV) (v : List UInt8) (i : Int) : AS :=
  ⟨[.pv (.lst s), .pv (.str v), .any, .any, .any, .any, .any, .pv (.int .i64 (s.length : Int)), .pv (.int .i64 i), .any, .any, .any, .any, .any, .any, .any, .any, .any, .any], ⟨[], [], []⟩⟩
noncomputable def L86_1014 (s : List PV) (v : List UInt8) (i : Int) : Option Out := LV Pr T 86 [1, 0, 1, 4] (st86_1014 s v i)
theorem e86 (s : List PV) (v : List UInt8) : V 86 [.pv (.lst s), .pv (.str v)] =
  L86_1014 s v 0 :=
  (V_eq pa rfl _).trans (by kernel_rfl)
theorem e86_1014 (s : List PV) (v : List UInt8) (i : Int) : L86_1014 s v i =
  bif decide (i < (s.length : Int)) then
    bif decide (0 ≤ i) then
      (s[i.toNat]?).bind fun x =>
        (bif (Sh.str).fits x then
          bif (v == x.toStr) then
            some (.pv (.int .i64 i), [])
          else L86_1014 s v (IntKind.i64.wrap (i + (1 : Int)))
        else none)
    else none
  else some (.pv (.int .i64 (-1)), []) :=
  (LV_eq pa 86 _ _).trans (by kernel_rfl)
/-! 89 slices.Contains[[]string,string] -/
theorem e89 (s : List PV) (v : List UInt8) : V 89 [.pv (.lst s), .pv (.str v)] =
  ((V 86 [.pv (.lst s), .pv (.str v)]).bind retPV).bind fun r =>
    (bif (Sh.int .i64).fits r then
      some (.pv (.bool (decide ((r.toInt) ≥ (0 : Int)))), [])
    else none) :=
  (V_eq pa rfl _).trans (by kernel_rfl)
/-! 111 roadstead/tree.Needs -/
def st111_101416 (e_Kind : Int) (b : Bool) (e_Num : Int) (e_Text : List UInt8) (e_Names : List PV) (e_Types : List PV) (e_Args : List PV) (e_Arms : List PV) (e_At : Int) : AS :=
  ⟨[.any, .box 0 0, .any, .any, .pv (.int .i64 e_Kind), .pv (.bool b), .any, .any, .any, .any, .any, .any, .any, .any, .any, .any, .any, .any, .any, .any, .any, .any, .any, .any, .any, .any, .any, .any, .any, .any, .any, .any, .any, .any, .any, .any, .any, .any, .any, .any, .any, .any, .any, .any, .any, .any, .any], ⟨[(false, [.pv (.int .i64 e_Kind), .pv (.int .i64 e_Num), .pv (.str e_Text), .pv (.lst e_Names), .pv (.lst e_Types), .pv (.lst e_Args), .pv (.lst e_Arms), .pv (.int .i64 e_At)])], [], []⟩⟩
noncomputable def L111_101416 (e_Kind : Int) (b : Bool) (e_Num : Int) (e_Text : List UInt8) (e_Names : List PV) (e_Types : List PV) (e_Args : List PV) (e_Arms : List PV) (e_At : Int) : Option Out := LV Pr T 111 [1, 0, 1, 4, 1, 6] (st111_101416 e_Kind b e_Num e_Text e_Names e_Types e_Args e_Arms e_At)
def st111_10141316 (e_Kind : Int) (b : Bool) (e_Num : Int) (e_Text : List UInt8) (e_Names : List PV) (e_Types : List PV) (e_Args : List PV) (e_Arms : List PV) (e_At : Int) : AS :=
  ⟨[.any, .box 0 0, .any, .any, .pv (.int .i64 e_Kind), .any, .any, .any, .any, .any, .any, .any, .pv (.bool b), .any, .any, .any, .any, .any, .any, .any, .any, .any, .any, .any, .any, .any, .any, .any, .any, .any, .any, .any, .any, .any, .any, .any, .any, .any, .any, .any, .any, .any, .any, .any, .any, .any, .any], ⟨[(false, [.pv (.int .i64 e_Kind), .pv (.int .i64 e_Num), .pv (.str e_Text), .pv (.lst e_Names), .pv (.lst e_Types), .pv (.lst e_Args), .pv (.lst e_Arms), .pv (.int .i64 e_At)])], [], []⟩⟩
noncomputable def L111_10141316 (e_Kind : Int) (b : Bool) (e_Num : Int) (e_Text : List UInt8) (e_Names : List PV) (e_Types : List PV) (e_Args : List PV) (e_Arms : List PV) (e_At : Int) : Option Out := LV Pr T 111 [1, 0, 1, 4, 1, 3, 1, 6] (st111_10141316 e_Kind b e_Num e_Text e_Names e_Types e_Args e_Arms e_At)
def st111_101413131316 (e_Kind : Int) (b : Bool) (e_Num : Int) (e_Text : List UInt8) (e_Names : List PV) (e_Types : List PV) (e_Args : List PV) (e_Arms : List PV) (e_At : Int) : AS :=
  ⟨[.any, .box 0 0, .any, .any, .pv (.int .i64 e_Kind), .any, .any, .any, .any, .any, .any, .any, .any, .any, .any, .any, .any, .any, .pv (.bool b), .any, .any, .any, .any, .any, .any, .any, .any, .any, .any, .any, .any, .any, .any, .any, .any, .any, .any, .any, .any, .any, .any, .any, .any, .any, .any, .any, .any], ⟨[(false, [.pv (.int .i64 e_Kind), .pv (.int .i64 e_Num), .pv (.str e_Text), .pv (.lst e_Names), .pv (.lst e_Types), .pv (.lst e_Args), .pv (.lst e_Arms), .pv (.int .i64 e_At)])], [], []⟩⟩
noncomputable def L111_101413131316 (e_Kind : Int) (b : Bool) (e_Num : Int) (e_Text : List UInt8) (e_Names : List PV) (e_Types : List PV) (e_Args : List PV) (e_Arms : List PV) (e_At : Int) : Option Out := LV Pr T 111 [1, 0, 1, 4, 1, 3, 1, 3, 1, 3, 1, 6] (st111_101413131316 e_Kind b e_Num e_Text e_Names e_Types e_Args e_Arms e_At)
theorem e111 (e_Kind : Int) (e_Num : Int) (e_Text : List UInt8) (e_Names : List PV) (e_Types : List PV) (e_Args : List PV) (e_Arms : List PV) (e_At : Int) : V 111 [.pv (.agg [.int .i64 e_Kind, .int .i64 e_Num, .str e_Text, .lst e_Names, .lst e_Types, .lst e_Args, .lst e_Arms, .int .i64 e_At])] =
  bif (e_Kind == (1 : Int)) then
    L111_101416 e_Kind (e_Kind == (1 : Int)) e_Num e_Text e_Names e_Types e_Args e_Arms e_At
  else bif (e_Kind == (2 : Int)) then
    L111_101416 e_Kind (e_Kind == (2 : Int)) e_Num e_Text e_Names e_Types e_Args e_Arms e_At
  else bif (e_Kind == (3 : Int)) then
    L111_101416 e_Kind (e_Kind == (3 : Int)) e_Num e_Text e_Names e_Types e_Args e_Arms e_At
  else bif (e_Kind == (4 : Int)) then
    L111_101416 e_Kind (e_Kind == (4 : Int)) e_Num e_Text e_Names e_Types e_Args e_Arms e_At
  else bif (e_Kind == (5 : Int)) then
    L111_101416 e_Kind (e_Kind == (5 : Int)) e_Num e_Text e_Names e_Types e_Args e_Arms e_At
  else L111_101416 e_Kind (e_Kind == (16 : Int)) e_Num e_Text e_Names e_Types e_Args e_Arms e_At :=
  (V_eq pa rfl _).trans (by kernel_rfl)
theorem e111_101416 (e_Kind : Int) (b : Bool) (e_Num : Int) (e_Text : List UInt8) (e_Names : List PV) (e_Types : List PV) (e_Args : List PV) (e_Arms : List PV) (e_At : Int) : L111_101416 e_Kind b e_Num e_Text e_Names e_Types e_Args e_Arms e_At =
  bif b then
    some (.pv (.int .i64 0), [])
  else bif (e_Kind == (6 : Int)) then
    L111_10141316 e_Kind (e_Kind == (6 : Int)) e_Num e_Text e_Names e_Types e_Args e_Arms e_At
  else bif (e_Kind == (15 : Int)) then
    L111_10141316 e_Kind (e_Kind == (15 : Int)) e_Num e_Text e_Names e_Types e_Args e_Arms e_At
  else L111_10141316 e_Kind (e_Kind == (23 : Int)) e_Num e_Text e_Names e_Types e_Args e_Arms e_At :=
  (LV_eq pa 111 _ _).trans (by kernel_rfl)
theorem e111_10141316 (e_Kind : Int) (b : Bool) (e_Num : Int) (e_Text : List UInt8) (e_Names : List PV) (e_Types : List PV) (e_Args : List PV) (e_Arms : List PV) (e_At : Int) : L111_10141316 e_Kind b e_Num e_Text e_Names e_Types e_Args e_Arms e_At =
  bif b then
    some (.pv (.int .i64 2), [])
  else bif (e_Kind == (7 : Int)) then
    some (.pv (.int .i64 3), [])
  else bif (e_Kind == (10 : Int)) then
    L111_101413131316 e_Kind (e_Kind == (10 : Int)) e_Num e_Text e_Names e_Types e_Args e_Arms e_At
  else bif (e_Kind == (13 : Int)) then
    L111_101413131316 e_Kind (e_Kind == (13 : Int)) e_Num e_Text e_Names e_Types e_Args e_Arms e_At
  else bif (e_Kind == (19 : Int)) then
    L111_101413131316 e_Kind (e_Kind == (19 : Int)) e_Num e_Text e_Names e_Types e_Args e_Arms e_At
  else bif (e_Kind == (20 : Int)) then
    L111_101413131316 e_Kind (e_Kind == (20 : Int)) e_Num e_Text e_Names e_Types e_Args e_Arms e_At
  else bif (e_Kind == (21 : Int)) then
    L111_101413131316 e_Kind (e_Kind == (21 : Int)) e_Num e_Text e_Names e_Types e_Args e_Arms e_At
  else bif (e_Kind == (22 : Int)) then
    L111_101413131316 e_Kind (e_Kind == (22 : Int)) e_Num e_Text e_Names e_Types e_Args e_Arms e_At
  else bif (e_Kind == (24 : Int)) then
    L111_101413131316 e_Kind (e_Kind == (24 : Int)) e_Num e_Text e_Names e_Types e_Args e_Arms e_At
  else L111_101413131316 e_Kind (e_Kind == (25 : Int)) e_Num e_Text e_Names e_Types e_Args e_Arms e_At :=
  (LV_eq pa 111 _ _).trans (by kernel_rfl)
theorem e111_101413131316 (e_Kind : Int) (b : Bool) (e_Num : Int) (e_Text : List UInt8) (e_Names : List PV) (e_Types : List PV) (e_Args : List PV) (e_Arms : List PV) (e_At : Int) : L111_101413131316 e_Kind b e_Num e_Text e_Names e_Types e_Args e_Arms e_At =
  bif b then
    some (.pv (.int .i64 1), [])
  else bif (e_Kind == (18 : Int)) then
    bif decide (e_Num ≥ (0 : Int)) then
      some (.pv (.int .i64 1), [])
    else some (.pv (.int .i64 0), [])
  else bif (e_Kind == (11 : Int)) then
    some (.pv (.int .i64 (bif decide ((e_Args.length : Int) > (1 : Int)) then (e_Args.length : Int) else (1 : Int))), [])
  else bif (e_Kind == (8 : Int)) then
    bif (e_Kind == (8 : Int)) then
      some (.pv (.int .i64 (e_Args.length : Int)), [])
    else some (.pv (.int .i64 (-1)), [])
  else bif (e_Kind == (9 : Int)) then
    bif (e_Kind == (9 : Int)) then
      some (.pv (.int .i64 (e_Args.length : Int)), [])
    else some (.pv (.int .i64 (-1)), [])
  else bif (e_Kind == (12 : Int)) then
    bif (e_Kind == (12 : Int)) then
      some (.pv (.int .i64 (e_Args.length : Int)), [])
    else some (.pv (.int .i64 (-1)), [])
  else bif (e_Kind == (14 : Int)) then
    bif (e_Kind == (14 : Int)) then
      some (.pv (.int .i64 (e_Args.length : Int)), [])
    else some (.pv (.int .i64 (-1)), [])
  else bif (e_Kind == (17 : Int)) then
    some (.pv (.int .i64 (e_Args.length : Int)), [])
  else some (.pv (.int .i64 (-1)), []) :=
  (LV_eq pa 111 _ _).trans (by kernel_rfl)
/-! 112 roadstead/tree.Bound -/
def st112_101413121014 (l : List PV) (p_Args : List PV) (i : Int) : AS :=
  ⟨[.any, .any, .any, .bld 0 0 l, .any, .any, .any, .any, .any, .any, .any, .any, .any, .any, .any, .any, .pv (.lst p_Args), .pv (.int .i64 (p_Args.length : Int)), .pv (.int .i64 i), .any, .any, .any, .any, .any, .any, .any, .any, .any], ⟨[], [], [(0, 1)]⟩⟩
noncomputable def L112_101413121014 (l : List PV) (p_Args : List PV) (i : Int) : Option Out := LV Pr T 112 [1, 0, 1, 4, 1, 3, 1, 2, 1, 0, 1, 4] (st112_101413121014 l p_Args i)
theorem e112 (p_Kind : Int) (p_Num : Int) (p_Text : List UInt8) (p_Args : List PV) : V 112 [.pv (.agg [.int .i64 p_Kind, .int .i64 p_Num, .str p_Text, .lst p_Args])] =
  bif (p_Kind == (2 : Int)) then
    some (.pv (.lst [.str p_Text]), [])
  else bif (p_Kind == (6 : Int)) then
    L112_101413121014 [] p_Args 0
  else some (.bld 1 [], []) :=
  (V_eq pa rfl _).trans (by kernel_rfl)
theorem e112_101413121014 (l : List PV) (p_Args : List PV) (i : Int) : L112_101413121014 l p_Args i =
  bif decide (i < (p_Args.length : Int)) then
    bif decide (0 ≤ i) then
      (p_Args[i.toNat]?).bind fun x =>
        (bif (Sh.agg [Sh.int .i64, Sh.int .i64, Sh.str, Sh.lst]).fits x then
          ((V 112 [.pv (.agg [.int .i64 ((x.c 0).toInt), .int .i64 ((x.c 1).toInt), .str ((x.c 2).toStr), .lst ((x.c 3).toLst)])]).bind retPV).bind fun r =>
            (bif (Sh.lst).fits r then
              bif headOk 1 r.toLst then
                bif small (l.length) (r.toLst.length) 16 then
                  L112_101413121014 (l ++ r.toLst) p_Args (IntKind.i64.wrap (i + (1 : Int)))
                else none
              else none
            else none)
        else none)
    else none
  else some (.bld 1 l, []) :=
  (LV_eq pa 112 _ _).trans (by kernel_rfl)
/-! 113 slices.EqualFunc[[]roadstead/api.Pat,[]roadstead/api.Pat,roadstead/api.Pat,roadstead/api.Pat] -/
def st113_11014 (s2 : List PV) (eq_f : FuncId) (eq_c : List PV) (s1 : List PV) (i : Int) : AS :=
  ⟨[.any, .pv (.lst s2), .pv (.fn eq_f eq_c), .any, .any, .any, .any, .any, .any, .any, .any, .any, .any, .any, .any, .pv (.lst s1), .pv (.int .i64 (s1.length : Int)), .pv (.int .i64 i), .any, .any, .any, .any, .any, .any, .any, .any, .any, .any, .any, .any, .any, .any], ⟨[], [], []⟩⟩
noncomputable def L113_11014 (s2 : List PV) (eq_f : FuncId) (eq_c : List PV) (s1 : List PV) (i : Int) : Option Out := LV Pr T 113 [1, 1, 0, 1, 4] (st113_11014 s2 eq_f eq_c s1 i)
theorem e113 (s1 : List PV) (s2 : List PV) (eq_f : FuncId) (eq_c : List PV) : V 113 [.pv (.lst s1), .pv (.lst s2), .pv (.fn eq_f eq_c)] =
  bif ((s1.length : Int) != (s2.length : Int)) then
    some (.pv (.bool false), [])
  else L113_11014 s2 eq_f eq_c s1 0 :=
  (V_eq pa rfl _).trans (by kernel_rfl)
theorem e113_11014 (s2 : List PV) (eq_f : FuncId) (eq_c : List PV) (s1 : List PV) (i : Int) : L113_11014 s2 eq_f eq_c s1 i =
  bif decide (i < (s1.length : Int)) then
    bif decide (0 ≤ i) then
      (s1[i.toNat]?).bind fun x =>
        (bif (Sh.agg [Sh.int .i64, Sh.int .i64, Sh.str, Sh.lst]).fits x then
          bif decide (0 ≤ i) then
            (s2[i.toNat]?).bind fun x1 =>
              (bif (Sh.agg [Sh.int .i64, Sh.int .i64, Sh.str, Sh.lst]).fits x1 then
                ((V eq_f ((([.agg [.int .i64 ((x.c 0).toInt), .int .i64 ((x.c 1).toInt), .str ((x.c 2).toStr), .lst ((x.c 3).toLst)], .agg [.int .i64 ((x1.c 0).toInt), .int .i64 ((x1.c 1).toInt), .str ((x1.c 2).toStr), .lst ((x1.c 3).toLst)]] : List PV) ++ eq_c).map .pv)).bind retPV).bind fun r =>
                  (bif (Sh.bool).fits r then
                    bif (!r.toBool) then
                      some (.pv (.bool false), [])
                    else L113_11014 s2 eq_f eq_c s1 (IntKind.i64.wrap (i + (1 : Int)))
                  else none)
              else none)
          else none
        else none)
    else none
  else some (.pv (.bool true), []) :=
  (LV_eq pa 113 _ _).trans (by kernel_rfl)
end Go.AL.S2
