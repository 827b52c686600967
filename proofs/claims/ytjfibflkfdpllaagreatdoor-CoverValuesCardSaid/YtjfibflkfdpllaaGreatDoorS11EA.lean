/- Equations of functions in the abstract machine: printed by gen.py. -/
import Derived.Test.YtjfibflkfdpllaaGreatDoorS11T
set_option linter.unusedVariables false
set_option maxRecDepth 100000
namespace Go.AL.S11
open Go Go.AL
/-! 6 roadstead/roadkeep2.Program -/
theorem f6 (s : List UInt8) (cl_ : FuncId → List Arg → Option Out) (lp_ : List Nat → AS → Option Out) : runW Pr T cl_ lp_ 6 [.pv (.str s)] =
  ((cl_ 19 [.pv (.str s)]).bind retPV).bind fun r =>
    (bif (Sh.tup [Sh.agg [Sh.str, Sh.int .i64, Sh.lst, Sh.lst, Sh.lst, Sh.lst, Sh.lst, Sh.lst], Sh.int .i64, Sh.int .i64]).fits r then
      some (.pv (.agg [.str (((r.r 0).c 0).toStr), .int .i64 (((r.r 0).c 1).toInt), .lst (((r.r 0).c 2).toLst), .lst (((r.r 0).c 3).toLst), .lst (((r.r 0).c 4).toLst), .lst (((r.r 0).c 5).toLst), .lst (((r.r 0).c 6).toLst), .lst (((r.r 0).c 7).toLst)]), [])
    else none) := by kernel_rfl
theorem e6 (s : List UInt8) : V 6 [.pv (.str s)] =
  ((V 19 [.pv (.str s)]).bind retPV).bind fun r =>
    (bif (Sh.tup [Sh.agg [Sh.str, Sh.int .i64, Sh.lst, Sh.lst, Sh.lst, Sh.lst, Sh.lst, Sh.lst], Sh.int .i64, Sh.int .i64]).fits r then
      some (.pv (.agg [.str (((r.r 0).c 0).toStr), .int .i64 (((r.r 0).c 1).toInt), .lst (((r.r 0).c 2).toLst), .lst (((r.r 0).c 3).toLst), .lst (((r.r 0).c 4).toLst), .lst (((r.r 0).c 5).toLst), .lst (((r.r 0).c 6).toLst), .lst (((r.r 0).c 7).toLst)]), [])
    else none) :=
  (V_eq pa rfl _).trans (f6 s V (LV Pr T 6))
/-! 7 roadstead/roadkeep2.covers -/
theorem f7  (cl_ : FuncId → List Arg → Option Out) (lp_ : List Nat → AS → Option Out) : runW Pr T cl_ lp_ 7 [] =
  ((cl_ 9 [.pv (.agg [.str [], .int .i64 0, .lst [], .lst [], .lst [], .lst [], .lst [], .lst []]), .pv (.lst [.agg [.int .i64 4, .int .i64 1, .str [], .lst []]])]).bind retPV).bind fun r =>
    (bif (Sh.tup [Sh.agg [Sh.int .i64, Sh.int .i64, Sh.str, Sh.lst], Sh.bool]).fits r then
      ((cl_ 9 [.pv (.agg [.str [], .int .i64 0, .lst [], .lst [], .lst [], .lst [], .lst [], .lst []]), .pv (.lst [.agg [.int .i64 1, .int .i64 0, .str [], .lst []]])]).bind retPV).bind fun r1 =>
        (bif (Sh.tup [Sh.agg [Sh.int .i64, Sh.int .i64, Sh.str, Sh.lst], Sh.bool]).fits r1 then
          bif (r.r 1).toBool then
            bif ((((r.r 0).c 0).toInt) == (4 : Int)) then
              bif ((((r.r 0).c 1).toInt) == (0 : Int)) then
                some (.pv (.bool (!(r1.r 1).toBool)), [])
              else some (.pv (.bool false), [])
            else some (.pv (.bool false), [])
          else some (.pv (.bool false), [])
        else none)
    else none) := by kernel_rfl
theorem e7  : V 7 [] =
  ((V 9 [.pv (.agg [.str [], .int .i64 0, .lst [], .lst [], .lst [], .lst [], .lst [], .lst []]), .pv (.lst [.agg [.int .i64 4, .int .i64 1, .str [], .lst []]])]).bind retPV).bind fun r =>
    (bif (Sh.tup [Sh.agg [Sh.int .i64, Sh.int .i64, Sh.str, Sh.lst], Sh.bool]).fits r then
      ((V 9 [.pv (.agg [.str [], .int .i64 0, .lst [], .lst [], .lst [], .lst [], .lst [], .lst []]), .pv (.lst [.agg [.int .i64 1, .int .i64 0, .str [], .lst []]])]).bind retPV).bind fun r1 =>
        (bif (Sh.tup [Sh.agg [Sh.int .i64, Sh.int .i64, Sh.str, Sh.lst], Sh.bool]).fits r1 then
          bif (r.r 1).toBool then
            bif ((((r.r 0).c 0).toInt) == (4 : Int)) then
              bif ((((r.r 0).c 1).toInt) == (0 : Int)) then
                some (.pv (.bool (!(r1.r 1).toBool)), [])
              else some (.pv (.bool false), [])
            else some (.pv (.bool false), [])
          else some (.pv (.bool false), [])
        else none)
    else none) :=
  (V_eq pa rfl _).trans (f7  V (LV Pr T 7))
/-! 8 roadstead/roadkeep2.PairPat -/
def st8_1116 (k : Int) (i : Int) (i1 : Int) (s : List UInt8) : AS :=
  ⟨[.pv (.int .i64 k), .any, .box 0 0, .box 1 0, .any, .any, .any, .any, .any, .any, .any, .any, .any, .any, .any, .any, .any, .any, .any, .any, .any, .any, .any, .any, .any, .any, .any, .any, .any, .any, .any, .any, .any, .any, .any, .any, .any, .any], ⟨[(false, [.pv (.int .i64 0), .pv (.int .i64 0), .pv (.str []), .pv .nils]), (false, [.pv (.int .i64 i), .pv (.int .i64 i1), .pv (.str s), .pv (.lst [])])], [], [], 0, 0⟩⟩
noncomputable def L8_1116 (k : Int) (i : Int) (i1 : Int) (s : List UInt8) : Option Out := LV Pr T 8 [1, 1, 1, 6] (st8_1116 k i i1 s)
theorem f8 (k : Int) (cl_ : FuncId → List Arg → Option Out) (lp_ : List Nat → AS → Option Out) : runW Pr T cl_ lp_ 8 [.pv (.int .i64 k)] =
  ((cl_ 20 [.pv (.int .i64 (IntKind.i64.wrap (k.tdiv (60 : Int)))), .pv (.int .i64 2)]).bind retPV).bind fun r =>
    (bif (Sh.int .i64).fits r then
      ((cl_ 20 [.pv (.int .i64 (IntKind.i64.wrap (k.tdiv (60 : Int)))), .pv (.int .i64 3)]).bind retPV).bind fun r1 =>
        (bif (Sh.int .i64).fits r1 then
          bif ((r1.toInt) == (2 : Int)) then
            lp_ [1, 1, 1, 6] (st8_1116 k 2 0 [120])
          else lp_ [1, 1, 1, 6] (st8_1116 k 4 r.toInt [])
        else none)
    else none) := by kernel_rfl
theorem e8 (k : Int) : V 8 [.pv (.int .i64 k)] =
  ((V 20 [.pv (.int .i64 (IntKind.i64.wrap (k.tdiv (60 : Int)))), .pv (.int .i64 2)]).bind retPV).bind fun r =>
    (bif (Sh.int .i64).fits r then
      ((V 20 [.pv (.int .i64 (IntKind.i64.wrap (k.tdiv (60 : Int)))), .pv (.int .i64 3)]).bind retPV).bind fun r1 =>
        (bif (Sh.int .i64).fits r1 then
          bif ((r1.toInt) == (2 : Int)) then
            L8_1116 k 2 0 [120]
          else L8_1116 k 4 r.toInt []
        else none)
    else none) :=
  (V_eq pa rfl _).trans (f8 k V (LV Pr T 8))
theorem f8_1116 (k : Int) (i : Int) (i1 : Int) (s : List UInt8) (cl_ : FuncId → List Arg → Option Out) (lp_ : List Nat → AS → Option Out) : stepW Pr T cl_ lp_ 8 [1, 1, 1, 6] (st8_1116 k i i1 s) =
  ((cl_ 20 [.pv (.int .i64 k), .pv (.int .i64 5)]).bind retPV).bind fun r =>
    (bif (Sh.int .i64).fits r then
      bif ((r.toInt) == (0 : Int)) then
        some (.pv (.agg [.int .i64 2, .int .i64 0, .str [120], .lst []]), [])
      else bif ((r.toInt) == (1 : Int)) then
        ((cl_ 20 [.pv (.int .i64 (IntKind.i64.wrap (k.tdiv (5 : Int)))), .pv (.int .i64 4)]).bind retPV).bind fun r1 =>
          (bif (Sh.int .i64).fits r1 then
            some (.pv (.agg [.int .i64 6, .int .i64 0, .str [79, 110, 101], .lst [.agg [.int .i64 3, .int .i64 r1.toInt, .str [], .lst []]]]), [])
          else none)
      else bif ((r.toInt) == (2 : Int)) then
        some (.pv (.agg [.int .i64 6, .int .i64 0, .str [79, 110, 101], .lst [.agg [.int .i64 1, .int .i64 0, .str [], .lst []]]]), [])
      else ((cl_ 20 [.pv (.int .i64 (IntKind.i64.wrap (k.tdiv (5 : Int)))), .pv (.int .i64 12)]).bind retPV).bind fun r2 =>
        (bif (Sh.int .i64).fits r2 then
          ((cl_ 21 [.pv (.int .i64 r2.toInt)]).bind retPV).bind fun r3 =>
            (bif (Sh.agg [Sh.int .i64, Sh.int .i64, Sh.str, Sh.lst]).fits r3 then
              some (.pv (.agg [.int .i64 6, .int .i64 0, .str [80, 97, 105, 114], .lst [.agg [.int .i64 ((r3.c 0).toInt), .int .i64 ((r3.c 1).toInt), .str ((r3.c 2).toStr), .lst ((r3.c 3).toLst)], .agg [.int .i64 i, .int .i64 i1, .str s, .lst []]]]), [])
            else none)
        else none)
    else none) := by kernel_rfl
theorem e8_1116 (k : Int) (i : Int) (i1 : Int) (s : List UInt8) : L8_1116 k i i1 s =
  ((V 20 [.pv (.int .i64 k), .pv (.int .i64 5)]).bind retPV).bind fun r =>
    (bif (Sh.int .i64).fits r then
      bif ((r.toInt) == (0 : Int)) then
        some (.pv (.agg [.int .i64 2, .int .i64 0, .str [120], .lst []]), [])
      else bif ((r.toInt) == (1 : Int)) then
        ((V 20 [.pv (.int .i64 (IntKind.i64.wrap (k.tdiv (5 : Int)))), .pv (.int .i64 4)]).bind retPV).bind fun r1 =>
          (bif (Sh.int .i64).fits r1 then
            some (.pv (.agg [.int .i64 6, .int .i64 0, .str [79, 110, 101], .lst [.agg [.int .i64 3, .int .i64 r1.toInt, .str [], .lst []]]]), [])
          else none)
      else bif ((r.toInt) == (2 : Int)) then
        some (.pv (.agg [.int .i64 6, .int .i64 0, .str [79, 110, 101], .lst [.agg [.int .i64 1, .int .i64 0, .str [], .lst []]]]), [])
      else ((V 20 [.pv (.int .i64 (IntKind.i64.wrap (k.tdiv (5 : Int)))), .pv (.int .i64 12)]).bind retPV).bind fun r2 =>
        (bif (Sh.int .i64).fits r2 then
          ((V 21 [.pv (.int .i64 r2.toInt)]).bind retPV).bind fun r3 =>
            (bif (Sh.agg [Sh.int .i64, Sh.int .i64, Sh.str, Sh.lst]).fits r3 then
              some (.pv (.agg [.int .i64 6, .int .i64 0, .str [80, 97, 105, 114], .lst [.agg [.int .i64 ((r3.c 0).toInt), .int .i64 ((r3.c 1).toInt), .str ((r3.c 2).toStr), .lst ((r3.c 3).toLst)], .agg [.int .i64 i, .int .i64 i1, .str s, .lst []]]]), [])
            else none)
        else none)
    else none) :=
  (LV_eq pa 8 _ _).trans (f8_1116 k i i1 s V (LV Pr T 8))
/-! 13 roadstead/roadkeep2.Pair -/
def st13_111014 (k : Int) (v : Int) (i : Int) (s : List UInt8) (l : List PV) : AS :=
  ⟨[.pv (.int .i64 k), .any, .box 0 0, .box 1 0, .any, .any, .any, .any, .any, .any, .any, .any, .any, .any, .any, .any, .pv (.int .i64 v), .pv (.int .i64 i), .any, .any, .any, .any, .any, .any, .any, .any, .any, .any, .any, .any], ⟨[(false, [.pv (.int .i64 0), .pv (.int .i64 0), .pv (.str []), .pv .nils]), (false, [.pv (.int .i64 5), .pv (.int .i64 0), .pv (.str s), .pv (.lst l)])], [], [], 0, 0⟩⟩
noncomputable def L13_111014 (k : Int) (v : Int) (i : Int) (s : List UInt8) (l : List PV) : Option Out := LV Pr T 13 [1, 1, 1, 0, 1, 4] (st13_111014 k v i s l)
theorem f13 (k : Int) (cl_ : FuncId → List Arg → Option Out) (lp_ : List Nat → AS → Option Out) : runW Pr T cl_ lp_ 13 [.pv (.int .i64 k)] =
  bif ((k.tmod (3 : Int)) == (0 : Int)) then
    ((cl_ 20 [.pv (.int .i64 (IntKind.i64.wrap (k.tdiv (3 : Int)))), .pv (.int .i64 4)]).bind retPV).bind fun r =>
      (bif (Sh.int .i64).fits r then
        some (.pv (.agg [.int .i64 5, .int .i64 0, .str [79, 110, 101], .lst [.agg [.int .i64 2, .int .i64 r.toInt, .str [], .lst []]]]), [])
      else none)
  else ((cl_ 20 [.pv (.int .i64 (IntKind.i64.wrap (k.tdiv (3 : Int)))), .pv (.int .i64 4)]).bind retPV).bind fun r1 =>
    (bif (Sh.int .i64).fits r1 then
      lp_ [1, 1, 1, 0, 1, 4] (st13_111014 k r1.toInt 0 [90, 101, 114, 111] [])
    else none) := by kernel_rfl
theorem e13 (k : Int) : V 13 [.pv (.int .i64 k)] =
  bif ((k.tmod (3 : Int)) == (0 : Int)) then
    ((V 20 [.pv (.int .i64 (IntKind.i64.wrap (k.tdiv (3 : Int)))), .pv (.int .i64 4)]).bind retPV).bind fun r =>
      (bif (Sh.int .i64).fits r then
        some (.pv (.agg [.int .i64 5, .int .i64 0, .str [79, 110, 101], .lst [.agg [.int .i64 2, .int .i64 r.toInt, .str [], .lst []]]]), [])
      else none)
  else ((V 20 [.pv (.int .i64 (IntKind.i64.wrap (k.tdiv (3 : Int)))), .pv (.int .i64 4)]).bind retPV).bind fun r1 =>
    (bif (Sh.int .i64).fits r1 then
      L13_111014 k r1.toInt 0 [90, 101, 114, 111] []
    else none) :=
  (V_eq pa rfl _).trans (f13 k V (LV Pr T 13))
theorem f13_111014 (k : Int) (v : Int) (i : Int) (s : List UInt8) (l : List PV) (cl_ : FuncId → List Arg → Option Out) (lp_ : List Nat → AS → Option Out) : stepW Pr T cl_ lp_ 13 [1, 1, 1, 0, 1, 4] (st13_111014 k v i s l) =
  bif decide (i < v) then
    lp_ [1, 1, 1, 0, 1, 4] (st13_111014 k v (IntKind.i64.wrap (i + (1 : Int))) [78, 101, 120, 116] [.agg [.int .i64 5, .int .i64 0, .str s, .lst l]])
  else ((cl_ 20 [.pv (.int .i64 (IntKind.i64.wrap (k.tdiv (12 : Int)))), .pv (.int .i64 2)]).bind retPV).bind fun r =>
    (bif (Sh.int .i64).fits r then
      some (.pv (.agg [.int .i64 5, .int .i64 0, .str [80, 97, 105, 114], .lst [.agg [.int .i64 5, .int .i64 0, .str s, .lst l], .agg [.int .i64 3, .int .i64 r.toInt, .str [], .lst []]]]), [])
    else none) := by kernel_rfl
theorem e13_111014 (k : Int) (v : Int) (i : Int) (s : List UInt8) (l : List PV) : L13_111014 k v i s l =
  bif decide (i < v) then
    L13_111014 k v (IntKind.i64.wrap (i + (1 : Int))) [78, 101, 120, 116] [.agg [.int .i64 5, .int .i64 0, .str s, .lst l]]
  else ((V 20 [.pv (.int .i64 (IntKind.i64.wrap (k.tdiv (12 : Int)))), .pv (.int .i64 2)]).bind retPV).bind fun r =>
    (bif (Sh.int .i64).fits r then
      some (.pv (.agg [.int .i64 5, .int .i64 0, .str [80, 97, 105, 114], .lst [.agg [.int .i64 5, .int .i64 0, .str s, .lst l], .agg [.int .i64 3, .int .i64 r.toInt, .str [], .lst []]]]), [])
    else none) :=
  (LV_eq pa 13 _ _).trans (f13_111014 k v i s l V (LV Pr T 13))
/-! 16 roadstead/roadkeep2.Fits -/
def st16_101416 (q_Kind : Int) (b : Bool) (q_Num : Int) (q_Text : List UInt8) (q_Args : List PV) (v_Kind : Int) (v_Num : Int) (v_Text : List UInt8) (v_Args : List PV) : AS :=
  ⟨[.any, .any, .box 0 0, .box 1 0, .any, .any, .any, .pv (.int .i64 q_Kind), .pv (.bool b), .any, .any, .any, .any, .any, .any, .any, .any, .any, .any, .any, .any, .any, .any, .any, .any, .any, .any, .any, .any, .any, .any, .any, .any, .any, .any, .any, .any, .any, .any, .any, .any, .any, .any, .any, .any, .any, .any, .any, .any, .any, .any, .any, .any, .any, .any, .any, .any, .any, .any, .any, .any, .any, .any, .any, .any, .any, .any, .any, .any, .any, .any, .any, .any, .any, .any, .any, .any, .any, .any, .any, .any, .any, .any, .any, .any, .any, .any, .any, .any, .any], ⟨[(false, [.pv (.int .i64 q_Kind), .pv (.int .i64 q_Num), .pv (.str q_Text), .pv (.lst q_Args)]), (false, [.pv (.int .i64 v_Kind), .pv (.int .i64 v_Num), .pv (.str v_Text), .pv (.lst v_Args)])], [], [], 0, 0⟩⟩
noncomputable def L16_101416 (q_Kind : Int) (b : Bool) (q_Num : Int) (q_Text : List UInt8) (q_Args : List PV) (v_Kind : Int) (v_Num : Int) (v_Text : List UInt8) (v_Args : List PV) : Option Out := LV Pr T 16 [1, 0, 1, 4, 1, 6] (st16_101416 q_Kind b q_Num q_Text q_Args v_Kind v_Num v_Text v_Args)
def st16_111014 (q_Args : List PV) (i : Int) (q_Kind : Int) (q_Num : Int) (q_Text : List UInt8) (v_Kind : Int) (v_Num : Int) (v_Text : List UInt8) (v_Args : List PV) : AS :=
  ⟨[.any, .any, .box 0 0, .box 1 0, .any, .any, .any, .any, .any, .any, .any, .any, .any, .any, .any, .any, .any, .any, .any, .any, .any, .any, .any, .any, .any, .any, .any, .any, .any, .any, .any, .any, .any, .any, .any, .any, .any, .any, .any, .any, .any, .any, .any, .any, .any, .any, .any, .any, .any, .any, .any, .any, .any, .any, .any, .any, .any, .any, .any, .any, .any, .any, .any, .any, .any, .any, .any, .any, .any, .any, .any, .any, .any, .pv (.int .i64 (q_Args.length : Int)), .pv (.int .i64 i), .any, .any, .any, .any, .any, .any, .any, .any, .any, .any, .any, .any, .any, .any, .any], ⟨[(false, [.pv (.int .i64 q_Kind), .pv (.int .i64 q_Num), .pv (.str q_Text), .pv (.lst q_Args)]), (false, [.pv (.int .i64 v_Kind), .pv (.int .i64 v_Num), .pv (.str v_Text), .pv (.lst v_Args)])], [], [], 0, 0⟩⟩
noncomputable def L16_111014 (q_Args : List PV) (i : Int) (q_Kind : Int) (q_Num : Int) (q_Text : List UInt8) (v_Kind : Int) (v_Num : Int) (v_Text : List UInt8) (v_Args : List PV) : Option Out := LV Pr T 16 [1, 1, 1, 0, 1, 4] (st16_111014 q_Args i q_Kind q_Num q_Text v_Kind v_Num v_Text v_Args)
theorem f16 (q_Kind : Int) (q_Num : Int) (q_Text : List UInt8) (q_Args : List PV) (v_Kind : Int) (v_Num : Int) (v_Text : List UInt8) (v_Args : List PV) (cl_ : FuncId → List Arg → Option Out) (lp_ : List Nat → AS → Option Out) : runW Pr T cl_ lp_ 16 [.pv (.agg [.int .i64 q_Kind, .int .i64 q_Num, .str q_Text, .lst q_Args]), .pv (.agg [.int .i64 v_Kind, .int .i64 v_Num, .str v_Text, .lst v_Args])] =
  bif (q_Kind == (1 : Int)) then
    lp_ [1, 0, 1, 4, 1, 6] (st16_101416 q_Kind (q_Kind == (1 : Int)) q_Num q_Text q_Args v_Kind v_Num v_Text v_Args)
  else lp_ [1, 0, 1, 4, 1, 6] (st16_101416 q_Kind (q_Kind == (2 : Int)) q_Num q_Text q_Args v_Kind v_Num v_Text v_Args) := by kernel_rfl
theorem e16 (q_Kind : Int) (q_Num : Int) (q_Text : List UInt8) (q_Args : List PV) (v_Kind : Int) (v_Num : Int) (v_Text : List UInt8) (v_Args : List PV) : V 16 [.pv (.agg [.int .i64 q_Kind, .int .i64 q_Num, .str q_Text, .lst q_Args]), .pv (.agg [.int .i64 v_Kind, .int .i64 v_Num, .str v_Text, .lst v_Args])] =
  bif (q_Kind == (1 : Int)) then
    L16_101416 q_Kind (q_Kind == (1 : Int)) q_Num q_Text q_Args v_Kind v_Num v_Text v_Args
  else L16_101416 q_Kind (q_Kind == (2 : Int)) q_Num q_Text q_Args v_Kind v_Num v_Text v_Args :=
  (V_eq pa rfl _).trans (f16 q_Kind q_Num q_Text q_Args v_Kind v_Num v_Text v_Args V (LV Pr T 16))
theorem f16_101416 (q_Kind : Int) (b : Bool) (q_Num : Int) (q_Text : List UInt8) (q_Args : List PV) (v_Kind : Int) (v_Num : Int) (v_Text : List UInt8) (v_Args : List PV) (cl_ : FuncId → List Arg → Option Out) (lp_ : List Nat → AS → Option Out) : stepW Pr T cl_ lp_ 16 [1, 0, 1, 4, 1, 6] (st16_101416 q_Kind b q_Num q_Text q_Args v_Kind v_Num v_Text v_Args) =
  bif b then
    some (.pv (.bool true), [])
  else bif (q_Kind == (3 : Int)) then
    bif (v_Kind == (2 : Int)) then
      some (.pv (.bool (v_Num == q_Num)), [])
    else some (.pv (.bool false), [])
  else bif (q_Kind == (4 : Int)) then
    bif (v_Kind == (3 : Int)) then
      some (.pv (.bool (v_Num == q_Num)), [])
    else some (.pv (.bool false), [])
  else bif (q_Kind == (5 : Int)) then
    bif (v_Kind == (4 : Int)) then
      some (.pv (.bool (v_Text == q_Text)), [])
    else some (.pv (.bool false), [])
  else bif (q_Kind != (6 : Int)) then
    some (.pv (.bool false), [])
  else bif (v_Kind != (5 : Int)) then
    some (.pv (.bool false), [])
  else bif (!(q_Text == v_Text)) then
    some (.pv (.bool false), [])
  else bif ((q_Args.length : Int) != (v_Args.length : Int)) then
    some (.pv (.bool false), [])
  else lp_ [1, 1, 1, 0, 1, 4] (st16_111014 q_Args 0 q_Kind q_Num q_Text v_Kind v_Num v_Text v_Args) := by kernel_rfl
theorem e16_101416 (q_Kind : Int) (b : Bool) (q_Num : Int) (q_Text : List UInt8) (q_Args : List PV) (v_Kind : Int) (v_Num : Int) (v_Text : List UInt8) (v_Args : List PV) : L16_101416 q_Kind b q_Num q_Text q_Args v_Kind v_Num v_Text v_Args =
  bif b then
    some (.pv (.bool true), [])
  else bif (q_Kind == (3 : Int)) then
    bif (v_Kind == (2 : Int)) then
      some (.pv (.bool (v_Num == q_Num)), [])
    else some (.pv (.bool false), [])
  else bif (q_Kind == (4 : Int)) then
    bif (v_Kind == (3 : Int)) then
      some (.pv (.bool (v_Num == q_Num)), [])
    else some (.pv (.bool false), [])
  else bif (q_Kind == (5 : Int)) then
    bif (v_Kind == (4 : Int)) then
      some (.pv (.bool (v_Text == q_Text)), [])
    else some (.pv (.bool false), [])
  else bif (q_Kind != (6 : Int)) then
    some (.pv (.bool false), [])
  else bif (v_Kind != (5 : Int)) then
    some (.pv (.bool false), [])
  else bif (!(q_Text == v_Text)) then
    some (.pv (.bool false), [])
  else bif ((q_Args.length : Int) != (v_Args.length : Int)) then
    some (.pv (.bool false), [])
  else L16_111014 q_Args 0 q_Kind q_Num q_Text v_Kind v_Num v_Text v_Args :=
  (LV_eq pa 16 _ _).trans (f16_101416 q_Kind b q_Num q_Text q_Args v_Kind v_Num v_Text v_Args V (LV Pr T 16))
theorem f16_111014 (q_Args : List PV) (i : Int) (q_Kind : Int) (q_Num : Int) (q_Text : List UInt8) (v_Kind : Int) (v_Num : Int) (v_Text : List UInt8) (v_Args : List PV) (cl_ : FuncId → List Arg → Option Out) (lp_ : List Nat → AS → Option Out) : stepW Pr T cl_ lp_ 16 [1, 1, 1, 0, 1, 4] (st16_111014 q_Args i q_Kind q_Num q_Text v_Kind v_Num v_Text v_Args) =
  bif decide (i < (q_Args.length : Int)) then
    bif decide (0 ≤ i) then
      (q_Args[i.toNat]?).bind fun x =>
        (bif (Sh.agg [Sh.int .i64, Sh.int .i64, Sh.str, Sh.lst]).fits x then
          bif decide (0 ≤ i) then
            (v_Args[i.toNat]?).bind fun x1 =>
              (bif (Sh.agg [Sh.int .i64, Sh.int .i64, Sh.str, Sh.lst]).fits x1 then
                ((cl_ 16 [.pv (.agg [.int .i64 ((x.c 0).toInt), .int .i64 ((x.c 1).toInt), .str ((x.c 2).toStr), .lst ((x.c 3).toLst)]), .pv (.agg [.int .i64 ((x1.c 0).toInt), .int .i64 ((x1.c 1).toInt), .str ((x1.c 2).toStr), .lst ((x1.c 3).toLst)])]).bind retPV).bind fun r =>
                  (bif (Sh.bool).fits r then
                    bif (!r.toBool) then
                      some (.pv (.bool false), [])
                    else lp_ [1, 1, 1, 0, 1, 4] (st16_111014 q_Args (IntKind.i64.wrap (i + (1 : Int))) q_Kind q_Num q_Text v_Kind v_Num v_Text v_Args)
                  else none)
              else none)
          else none
        else none)
    else none
  else some (.pv (.bool true), []) := by kernel_rfl
theorem e16_111014 (q_Args : List PV) (i : Int) (q_Kind : Int) (q_Num : Int) (q_Text : List UInt8) (v_Kind : Int) (v_Num : Int) (v_Text : List UInt8) (v_Args : List PV) : L16_111014 q_Args i q_Kind q_Num q_Text v_Kind v_Num v_Text v_Args =
  bif decide (i < (q_Args.length : Int)) then
    bif decide (0 ≤ i) then
      (q_Args[i.toNat]?).bind fun x =>
        (bif (Sh.agg [Sh.int .i64, Sh.int .i64, Sh.str, Sh.lst]).fits x then
          bif decide (0 ≤ i) then
            (v_Args[i.toNat]?).bind fun x1 =>
              (bif (Sh.agg [Sh.int .i64, Sh.int .i64, Sh.str, Sh.lst]).fits x1 then
                ((V 16 [.pv (.agg [.int .i64 ((x.c 0).toInt), .int .i64 ((x.c 1).toInt), .str ((x.c 2).toStr), .lst ((x.c 3).toLst)]), .pv (.agg [.int .i64 ((x1.c 0).toInt), .int .i64 ((x1.c 1).toInt), .str ((x1.c 2).toStr), .lst ((x1.c 3).toLst)])]).bind retPV).bind fun r =>
                  (bif (Sh.bool).fits r then
                    bif (!r.toBool) then
                      some (.pv (.bool false), [])
                    else L16_111014 q_Args (IntKind.i64.wrap (i + (1 : Int))) q_Kind q_Num q_Text v_Kind v_Num v_Text v_Args
                  else none)
              else none)
          else none
        else none)
    else none
  else some (.pv (.bool true), []) :=
  (LV_eq pa 16 _ _).trans (f16_111014 q_Args i q_Kind q_Num q_Text v_Kind v_Num v_Text v_Args V (LV Pr T 16))
/-! 18 roadstead/tree.SamePat -/
theorem f18 (a_Kind : Int) (a_Num : Int) (a_Text : List UInt8) (a_Args : List PV) (b_Kind : Int) (b_Num : Int) (b_Text : List UInt8) (b_Args : List PV) (cl_ : FuncId → List Arg → Option Out) (lp_ : List Nat → AS → Option Out) : runW Pr T cl_ lp_ 18 [.pv (.agg [.int .i64 a_Kind, .int .i64 a_Num, .str a_Text, .lst a_Args]), .pv (.agg [.int .i64 b_Kind, .int .i64 b_Num, .str b_Text, .lst b_Args])] =
  bif (a_Kind == b_Kind) then
    bif (a_Num == b_Num) then
      bif (a_Text == b_Text) then
        ((cl_ 25 [.pv (.lst a_Args), .pv (.lst b_Args), .pv (.fn 18 [])]).bind retPV).bind fun r =>
          (bif (Sh.bool).fits r then
            some (.pv (.bool r.toBool), [])
          else none)
      else some (.pv (.bool false), [])
    else some (.pv (.bool false), [])
  else some (.pv (.bool false), []) := by kernel_rfl
theorem e18 (a_Kind : Int) (a_Num : Int) (a_Text : List UInt8) (a_Args : List PV) (b_Kind : Int) (b_Num : Int) (b_Text : List UInt8) (b_Args : List PV) : V 18 [.pv (.agg [.int .i64 a_Kind, .int .i64 a_Num, .str a_Text, .lst a_Args]), .pv (.agg [.int .i64 b_Kind, .int .i64 b_Num, .str b_Text, .lst b_Args])] =
  bif (a_Kind == b_Kind) then
    bif (a_Num == b_Num) then
      bif (a_Text == b_Text) then
        ((V 25 [.pv (.lst a_Args), .pv (.lst b_Args), .pv (.fn 18 [])]).bind retPV).bind fun r =>
          (bif (Sh.bool).fits r then
            some (.pv (.bool r.toBool), [])
          else none)
      else some (.pv (.bool false), [])
    else some (.pv (.bool false), [])
  else some (.pv (.bool false), []) :=
  (V_eq pa rfl _).trans (f18 a_Kind a_Num a_Text a_Args b_Kind b_Num b_Text b_Args V (LV Pr T 18))
/-! 20 roadstead/roadkeep2.Within -/
theorem f20 (k : Int) (n : Int) (cl_ : FuncId → List Arg → Option Out) (lp_ : List Nat → AS → Option Out) : runW Pr T cl_ lp_ 20 [.pv (.int .i64 k), .pv (.int .i64 n)] =
  ((cl_ 30 [.pv (.int .i64 k), .pv (.int .i64 n)]).bind retPV).bind fun r =>
    (bif (Sh.int .i64).fits r then
      some (.pv (.int .i64 r.toInt), [])
    else none) := by kernel_rfl
theorem e20 (k : Int) (n : Int) : V 20 [.pv (.int .i64 k), .pv (.int .i64 n)] =
  ((V 30 [.pv (.int .i64 k), .pv (.int .i64 n)]).bind retPV).bind fun r =>
    (bif (Sh.int .i64).fits r then
      some (.pv (.int .i64 r.toInt), [])
    else none) :=
  (V_eq pa rfl _).trans (f20 k n V (LV Pr T 20))
/-! 21 roadstead/roadkeep2.nat -/
def st21_1116 (k : Int) (i : Int) (s : List UInt8) : AS :=
  ⟨[.pv (.int .i64 k), .any, .box 0 0, .box 1 0, .any, .any, .any, .any, .any, .any, .any, .any, .any, .any, .any, .any, .any, .any, .any], ⟨[(false, [.pv (.int .i64 0), .pv (.int .i64 0), .pv (.str []), .pv .nils]), (false, [.pv (.int .i64 i), .pv (.int .i64 0), .pv (.str s), .pv (.lst [])])], [], [], 0, 0⟩⟩
noncomputable def L21_1116 (k : Int) (i : Int) (s : List UInt8) : Option Out := LV Pr T 21 [1, 1, 1, 6] (st21_1116 k i s)
def st21_111014 (v : Int) (i1 : Int) (i : Int) (s : List UInt8) (l : List PV) : AS :=
  ⟨[.any, .any, .box 0 0, .box 1 0, .any, .any, .any, .any, .any, .any, .any, .pv (.int .i64 v), .pv (.int .i64 i1), .any, .any, .any, .any, .any, .any], ⟨[(false, [.pv (.int .i64 0), .pv (.int .i64 0), .pv (.str []), .pv .nils]), (false, [.pv (.int .i64 i), .pv (.int .i64 0), .pv (.str s), .pv (.lst l)])], [], [], 0, 0⟩⟩
noncomputable def L21_111014 (v : Int) (i1 : Int) (i : Int) (s : List UInt8) (l : List PV) : Option Out := LV Pr T 21 [1, 1, 1, 0, 1, 4] (st21_111014 v i1 i s l)
theorem f21 (k : Int) (cl_ : FuncId → List Arg → Option Out) (lp_ : List Nat → AS → Option Out) : runW Pr T cl_ lp_ 21 [.pv (.int .i64 k)] =
  bif ((k.tmod (2 : Int)) == (0 : Int)) then
    lp_ [1, 1, 1, 6] (st21_1116 k 6 [90, 101, 114, 111])
  else lp_ [1, 1, 1, 6] (st21_1116 k 1 []) := by kernel_rfl
theorem e21 (k : Int) : V 21 [.pv (.int .i64 k)] =
  bif ((k.tmod (2 : Int)) == (0 : Int)) then
    L21_1116 k 6 [90, 101, 114, 111]
  else L21_1116 k 1 [] :=
  (V_eq pa rfl _).trans (f21 k V (LV Pr T 21))
theorem f21_1116 (k : Int) (i : Int) (s : List UInt8) (cl_ : FuncId → List Arg → Option Out) (lp_ : List Nat → AS → Option Out) : stepW Pr T cl_ lp_ 21 [1, 1, 1, 6] (st21_1116 k i s) =
  ((cl_ 20 [.pv (.int .i64 (IntKind.i64.wrap (k.tdiv (2 : Int)))), .pv (.int .i64 3)]).bind retPV).bind fun r =>
    (bif (Sh.int .i64).fits r then
      lp_ [1, 1, 1, 0, 1, 4] (st21_111014 r.toInt 0 i s [])
    else none) := by kernel_rfl
theorem e21_1116 (k : Int) (i : Int) (s : List UInt8) : L21_1116 k i s =
  ((V 20 [.pv (.int .i64 (IntKind.i64.wrap (k.tdiv (2 : Int)))), .pv (.int .i64 3)]).bind retPV).bind fun r =>
    (bif (Sh.int .i64).fits r then
      L21_111014 r.toInt 0 i s []
    else none) :=
  (LV_eq pa 21 _ _).trans (f21_1116 k i s V (LV Pr T 21))
theorem f21_111014 (v : Int) (i1 : Int) (i : Int) (s : List UInt8) (l : List PV) (cl_ : FuncId → List Arg → Option Out) (lp_ : List Nat → AS → Option Out) : stepW Pr T cl_ lp_ 21 [1, 1, 1, 0, 1, 4] (st21_111014 v i1 i s l) =
  bif decide (i1 < v) then
    lp_ [1, 1, 1, 0, 1, 4] (st21_111014 v (IntKind.i64.wrap (i1 + (1 : Int))) 6 [78, 101, 120, 116] [.agg [.int .i64 i, .int .i64 0, .str s, .lst l]])
  else some (.pv (.agg [.int .i64 i, .int .i64 0, .str s, .lst l]), []) := by kernel_rfl
theorem e21_111014 (v : Int) (i1 : Int) (i : Int) (s : List UInt8) (l : List PV) : L21_111014 v i1 i s l =
  bif decide (i1 < v) then
    L21_111014 v (IntKind.i64.wrap (i1 + (1 : Int))) 6 [78, 101, 120, 116] [.agg [.int .i64 i, .int .i64 0, .str s, .lst l]]
  else some (.pv (.agg [.int .i64 i, .int .i64 0, .str s, .lst l]), []) :=
  (LV_eq pa 21 _ _).trans (f21_111014 v i1 i s l V (LV Pr T 21))
/-! 25 slices.EqualFunc[[]roadstead/api.Pat,[]roadstead/api.Pat,roadstead/api.Pat,roadstead/api.Pat] -/
def st25_11014 (s2 : List PV) (eq_f : FuncId) (eq_c : List PV) (s1 : List PV) (i : Int) : AS :=
  ⟨[.any, .pv (.lst s2), .pv (.fn eq_f eq_c), .any, .any, .any, .any, .any, .any, .any, .any, .any, .any, .any, .any, .pv (.lst s1), .pv (.int .i64 (s1.length : Int)), .pv (.int .i64 i), .any, .any, .any, .any, .any, .any, .any, .any, .any, .any, .any, .any, .any, .any], ⟨[], [], [], 0, 0⟩⟩
noncomputable def L25_11014 (s2 : List PV) (eq_f : FuncId) (eq_c : List PV) (s1 : List PV) (i : Int) : Option Out := LV Pr T 25 [1, 1, 0, 1, 4] (st25_11014 s2 eq_f eq_c s1 i)
theorem f25 (s1 : List PV) (s2 : List PV) (eq_f : FuncId) (eq_c : List PV) (cl_ : FuncId → List Arg → Option Out) (lp_ : List Nat → AS → Option Out) : runW Pr T cl_ lp_ 25 [.pv (.lst s1), .pv (.lst s2), .pv (.fn eq_f eq_c)] =
  bif ((s1.length : Int) != (s2.length : Int)) then
    some (.pv (.bool false), [])
  else lp_ [1, 1, 0, 1, 4] (st25_11014 s2 eq_f eq_c s1 0) := by kernel_rfl
theorem e25 (s1 : List PV) (s2 : List PV) (eq_f : FuncId) (eq_c : List PV) : V 25 [.pv (.lst s1), .pv (.lst s2), .pv (.fn eq_f eq_c)] =
  bif ((s1.length : Int) != (s2.length : Int)) then
    some (.pv (.bool false), [])
  else L25_11014 s2 eq_f eq_c s1 0 :=
  (V_eq pa rfl _).trans (f25 s1 s2 eq_f eq_c V (LV Pr T 25))
theorem f25_11014 (s2 : List PV) (eq_f : FuncId) (eq_c : List PV) (s1 : List PV) (i : Int) (cl_ : FuncId → List Arg → Option Out) (lp_ : List Nat → AS → Option Out) : stepW Pr T cl_ lp_ 25 [1, 1, 0, 1, 4] (st25_11014 s2 eq_f eq_c s1 i) =
  bif decide (i < (s1.length : Int)) then
    bif decide (0 ≤ i) then
      (s1[i.toNat]?).bind fun x =>
        (bif (Sh.agg [Sh.int .i64, Sh.int .i64, Sh.str, Sh.lst]).fits x then
          bif decide (0 ≤ i) then
            (s2[i.toNat]?).bind fun x1 =>
              (bif (Sh.agg [Sh.int .i64, Sh.int .i64, Sh.str, Sh.lst]).fits x1 then
                ((cl_ eq_f ((([.agg [.int .i64 ((x.c 0).toInt), .int .i64 ((x.c 1).toInt), .str ((x.c 2).toStr), .lst ((x.c 3).toLst)], .agg [.int .i64 ((x1.c 0).toInt), .int .i64 ((x1.c 1).toInt), .str ((x1.c 2).toStr), .lst ((x1.c 3).toLst)]] : List PV) ++ eq_c).map .pv)).bind retPV).bind fun r =>
                  (bif (Sh.bool).fits r then
                    bif (!r.toBool) then
                      some (.pv (.bool false), [])
                    else lp_ [1, 1, 0, 1, 4] (st25_11014 s2 eq_f eq_c s1 (IntKind.i64.wrap (i + (1 : Int))))
                  else none)
              else none)
          else none
        else none)
    else none
  else some (.pv (.bool true), []) := by kernel_rfl
theorem e25_11014 (s2 : List PV) (eq_f : FuncId) (eq_c : List PV) (s1 : List PV) (i : Int) : L25_11014 s2 eq_f eq_c s1 i =
  bif decide (i < (s1.length : Int)) then
    bif decide (0 ≤ i) then
      (s1[i.toNat]?).bind fun x =>
        (bif (Sh.agg [Sh.int .i64, Sh.int .i64, Sh.str, Sh.lst]).fits x then
          bif decide (0 ≤ i) then
            (s2[i.toNat]?).bind fun x1 =>
              (bif (Sh.agg [Sh.int .i64, Sh.int .i64, Sh.str, Sh.lst]).fits x1 then
                ((V eq_f ((([.agg [.int .i64 ((x.c 0).toInt), .int .i64 ((x.c 1).toInt), .str ((x.c 2).toStr), .lst ((x.c 3).toLst)], .agg [.int .i64 ((x1.c 0).toInt), .int .i64 ((x1.c 1).toInt), .str ((x1.c 2).toStr), .lst ((x1.c 3).toLst)]] : List PV) ++ eq_c).map .pv)).bind retPV).bind fun r =>
                  (bif (Sh.bool).fits r then
                    bif (!r.toBool) then
                      some (.pv (.bool false), [])
                    else L25_11014 s2 eq_f eq_c s1 (IntKind.i64.wrap (i + (1 : Int)))
                  else none)
              else none)
          else none
        else none)
    else none
  else some (.pv (.bool true), []) :=
  (LV_eq pa 25 _ _).trans (f25_11014 s2 eq_f eq_c s1 i V (LV Pr T 25))
/-! 15 roadstead/roadkeep2.CoverValues$1 -/
theorem f15 (q_Kind : Int) (q_Num : Int) (q_Text : List UInt8) (q_Args : List PV) (c0 : Int) (c01 : Int) (c02 : List UInt8) (c03 : List PV) (cl_ : FuncId → List Arg → Option Out) (lp_ : List Nat → AS → Option Out) : runW Pr T cl_ lp_ 15 [.pv (.agg [.int .i64 q_Kind, .int .i64 q_Num, .str q_Text, .lst q_Args]), .pv (.ptr [.int .i64 c0, .int .i64 c01, .str c02, .lst c03])] =
  ((cl_ 16 [.pv (.agg [.int .i64 q_Kind, .int .i64 q_Num, .str q_Text, .lst q_Args]), .pv (.agg [.int .i64 c0, .int .i64 c01, .str c02, .lst c03])]).bind retPV).bind fun r =>
    (bif (Sh.bool).fits r then
      some (.pv (.bool r.toBool), [])
    else none) := by kernel_rfl
theorem e15 (q_Kind : Int) (q_Num : Int) (q_Text : List UInt8) (q_Args : List PV) (c0 : Int) (c01 : Int) (c02 : List UInt8) (c03 : List PV) : V 15 [.pv (.agg [.int .i64 q_Kind, .int .i64 q_Num, .str q_Text, .lst q_Args]), .pv (.ptr [.int .i64 c0, .int .i64 c01, .str c02, .lst c03])] =
  ((V 16 [.pv (.agg [.int .i64 q_Kind, .int .i64 q_Num, .str q_Text, .lst q_Args]), .pv (.agg [.int .i64 c0, .int .i64 c01, .str c02, .lst c03])]).bind retPV).bind fun r =>
    (bif (Sh.bool).fits r then
      some (.pv (.bool r.toBool), [])
    else none) :=
  (V_eq pa rfl _).trans (f15 q_Kind q_Num q_Text q_Args c0 c01 c02 c03 V (LV Pr T 15))
/-! 14 slices.IndexFunc[[]roadstead/api.Pat,roadstead/api.Pat] -/
def st14_1014 (s : List PV) (f_f : FuncId) (f_c : List PV) (i : Int) : AS :=
  ⟨[.pv (.lst s), .pv (.fn f_f f_c), .any, .any, .any, .any, .any, .pv (.int .i64 (s.length : Int)), .pv (.int .i64 i), .any, .any, .any, .any, .any, .any, .any, .any, .any, .any], ⟨[], [], [], 0, 0⟩⟩
noncomputable def L14_1014 (s : List PV) (f_f : FuncId) (f_c : List PV) (i : Int) : Option Out := LV Pr T 14 [1, 0, 1, 4] (st14_1014 s f_f f_c i)
theorem f14 (s : List PV) (f_f : FuncId) (f_c : List PV) (cl_ : FuncId → List Arg → Option Out) (lp_ : List Nat → AS → Option Out) : runW Pr T cl_ lp_ 14 [.pv (.lst s), .pv (.fn f_f f_c)] =
  lp_ [1, 0, 1, 4] (st14_1014 s f_f f_c 0) := by kernel_rfl
theorem e14 (s : List PV) (f_f : FuncId) (f_c : List PV) : V 14 [.pv (.lst s), .pv (.fn f_f f_c)] =
  L14_1014 s f_f f_c 0 :=
  (V_eq pa rfl _).trans (f14 s f_f f_c V (LV Pr T 14))
theorem f14_1014 (s : List PV) (f_f : FuncId) (f_c : List PV) (i : Int) (cl_ : FuncId → List Arg → Option Out) (lp_ : List Nat → AS → Option Out) : stepW Pr T cl_ lp_ 14 [1, 0, 1, 4] (st14_1014 s f_f f_c i) =
  bif decide (i < (s.length : Int)) then
    bif decide (0 ≤ i) then
      (s[i.toNat]?).bind fun x =>
        (bif (Sh.agg [Sh.int .i64, Sh.int .i64, Sh.str, Sh.lst]).fits x then
          ((cl_ f_f ((([.agg [.int .i64 ((x.c 0).toInt), .int .i64 ((x.c 1).toInt), .str ((x.c 2).toStr), .lst ((x.c 3).toLst)]] : List PV) ++ f_c).map .pv)).bind retPV).bind fun r =>
            (bif (Sh.bool).fits r then
              bif r.toBool then
                some (.pv (.int .i64 i), [])
              else lp_ [1, 0, 1, 4] (st14_1014 s f_f f_c (IntKind.i64.wrap (i + (1 : Int))))
            else none)
        else none)
    else none
  else some (.pv (.int .i64 (-1)), []) := by kernel_rfl
theorem e14_1014 (s : List PV) (f_f : FuncId) (f_c : List PV) (i : Int) : L14_1014 s f_f f_c i =
  bif decide (i < (s.length : Int)) then
    bif decide (0 ≤ i) then
      (s[i.toNat]?).bind fun x =>
        (bif (Sh.agg [Sh.int .i64, Sh.int .i64, Sh.str, Sh.lst]).fits x then
          ((V f_f ((([.agg [.int .i64 ((x.c 0).toInt), .int .i64 ((x.c 1).toInt), .str ((x.c 2).toStr), .lst ((x.c 3).toLst)]] : List PV) ++ f_c).map .pv)).bind retPV).bind fun r =>
            (bif (Sh.bool).fits r then
              bif r.toBool then
                some (.pv (.int .i64 i), [])
              else L14_1014 s f_f f_c (IntKind.i64.wrap (i + (1 : Int)))
            else none)
        else none)
    else none
  else some (.pv (.int .i64 (-1)), []) :=
  (LV_eq pa 14 _ _).trans (f14_1014 s f_f f_c i V (LV Pr T 14))
end Go.AL.S11
