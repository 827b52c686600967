/- Equations of functions in the abstract machine: printed by gen.py. -/
import Derived.Test.YtofjejdlggmcjaaS1T
set_option linter.unusedVariables false
set_option maxRecDepth 100000
namespace Go.AL.S1
open Go Go.AL
/-! 4 roadstead/roadkeep2.TalkOrder -/
theorem e4 (n_Lines : List PV) (n_Who : List PV) (a : List PV) (b : List PV) : V 4 [.pv (.agg [.lst n_Lines, .lst n_Who]), .pv (.lst a), .pv (.lst b)] =
  ((V 21 []).bind retPV).bind fun r =>
    (bif (Sh.bool).fits r then
      bif (!r.toBool) then
        some (.pv (.bool false), [])
      else ((V 22 [.pv (.agg [.lst n_Lines, .lst n_Who]), .pv (.lst a)]).bind retPV).bind fun r1 =>
        (bif (Sh.tup [Sh.lst, Sh.lst, Sh.int .i64]).fits r1 then
          ((V 22 [.pv (.agg [.lst n_Lines, .lst n_Who]), .pv (.lst b)]).bind retPV).bind fun r2 =>
            (bif (Sh.tup [Sh.lst, Sh.lst, Sh.int .i64]).fits r2 then
              bif (((r1.r 2).toInt) == ((r2.r 2).toInt)) then
                ((V 23 [.pv (.lst ((r1.r 1).toLst)), .pv (.lst ((r2.r 1).toLst))]).bind retPV).bind fun r3 =>
                  (bif (Sh.bool).fits r3 then
                    some (.pv (.bool r3.toBool), [])
                  else none)
              else some (.pv (.bool false), [])
            else none)
        else none)
    else none) :=
  (V_eq pa rfl _).trans (by kernel_rfl)
/-! 7 roadstead/roadkeep2.TalkWaits -/
def st7_111111014 (v : List PV) (v1 : List PV) (i : Int) (n_Lines : List PV) (n_Who : List PV) : AS :=
  ⟨[.any, .any, .box 0 0, .any, .any, .any, .pv (.lst v), .any, .any, .any, .any, .any, .any, .any, .any, .any, .any, .any, .any, .any, .any, .any, .any, .any, .any, .any, .any, .any, .any, .any, .any, .any, .any, .any, .any, .any, .any, .any, .any, .any, .any, .any, .any, .any, .any, .any, .any, .any, .any, .any, .any, .any, .pv (.lst v1), .pv (.int .i64 (v1.length : Int)), .pv (.int .i64 i), .any, .any, .any, .any, .any, .any, .any, .any, .any, .any, .any, .any, .any, .any, .any, .any, .any, .any, .any, .any, .any, .any, .any, .any, .any, .any, .any, .any, .any, .any, .any, .any, .any, .any, .any, .any, .any, .any, .any, .any, .any, .any, .any, .any, .any, .any, .any, .any, .any, .any, .any, .any, .any, .any, .any, .any, .any, .any, .any, .any, .any, .any, .any, .any, .any, .any, .any, .any, .any, .any, .any, .any, .any, .any, .any, .any, .any, .any, .any, .any, .any, .any, .any, .any, .any, .any, .any, .any, .any, .any, .any, .any, .any, .any, .any, .any, .any, .any, .any, .any, .any, .any], ⟨[(false, [.pv (.lst n_Lines), .pv (.lst n_Who)])], [], [], 0, 0⟩⟩
noncomputable def L7_111111014 (v : List PV) (v1 : List PV) (i : Int) (n_Lines : List PV) (n_Who : List PV) : Option Out := LV Pr T 7 [1, 1, 1, 1, 1, 1, 0, 1, 4] (st7_111111014 v v1 i n_Lines n_Who)
theorem e7 (n_Lines : List PV) (n_Who : List PV) (picks : List PV) : V 7 [.pv (.agg [.lst n_Lines, .lst n_Who]), .pv (.lst picks)] =
  ((V 21 []).bind retPV).bind fun r =>
    (bif (Sh.bool).fits r then
      bif (!r.toBool) then
        some (.pv (.bool false), [])
      else ((V 22 [.pv (.agg [.lst n_Lines, .lst n_Who]), .pv (.lst picks)]).bind retPV).bind fun r1 =>
        (bif (Sh.tup [Sh.lst, Sh.lst, Sh.int .i64]).fits r1 then
          bif (((r1.r 2).toInt) != (0 : Int)) then
            some (.pv (.bool (((r1.r 1).toLst.length : Int) == (0 : Int))), [])
          else ((V 30 [.pv (.agg [.lst n_Lines, .lst n_Who]), .pv (.lst ((r1.r 1).toLst))]).bind retPV).bind fun r2 =>
            (bif (Sh.tup [Sh.lst, Sh.int .i64]).fits r2 then
              bif (((r2.r 1).toInt) != (0 : Int)) then
                some (.pv (.bool false), [])
              else bif (((r2.r 0).toLst.length : Int) != (n_Who.length : Int)) then
                some (.pv (.bool false), [])
              else bif (((r1.r 1).toLst.length : Int) != (n_Who.length : Int)) then
                some (.pv (.bool false), [])
              else L7_111111014 ((r1.r 1).toLst) ((r2.r 0).toLst) 0 n_Lines n_Who
            else none)
        else none)
    else none) :=
  (V_eq pa rfl _).trans (by kernel_rfl)
theorem e7_111111014 (v : List PV) (v1 : List PV) (i : Int) (n_Lines : List PV) (n_Who : List PV) : L7_111111014 v v1 i n_Lines n_Who =
  bif decide (i < (v1.length : Int)) then
    bif decide (0 ≤ i) then
      (v1[i.toNat]?).bind fun x =>
        (bif (Sh.int .i64).fits x then
          bif decide (0 ≤ i) then
            (v[i.toNat]?).bind fun x1 =>
              (bif (Sh.int .i64).fits x1 then
                bif decide ((x1.toInt) < (0 : Int)) then
                  some (.pv (.bool false), [])
                else bif decide (0 ≤ i) then
                  (v[i.toNat]?).bind fun x2 =>
                    (bif (Sh.int .i64).fits x2 then
                      bif decide (0 ≤ i) then
                        (n_Who[i.toNat]?).bind fun x3 =>
                          (bif (Sh.lst).fits x3 then
                            bif decide ((x2.toInt) > (x3.toLst.length : Int)) then
                              some (.pv (.bool false), [])
                            else bif decide (0 ≤ i) then
                              (v[i.toNat]?).bind fun x4 =>
                                (bif (Sh.int .i64).fits x4 then
                                  bif decide (0 ≤ i) then
                                    (n_Who[i.toNat]?).bind fun x5 =>
                                      (bif (Sh.lst).fits x5 then
                                        bif (!(decide ((x.toInt) < (0 : Int)) == ((x4.toInt) == (x5.toLst.length : Int)))) then
                                          some (.pv (.bool false), [])
                                        else bif decide ((x.toInt) ≥ (n_Who.length : Int)) then
                                          some (.pv (.bool false), [])
                                        else bif decide ((x.toInt) < (0 : Int)) then
                                          L7_111111014 v v1 (IntKind.i64.wrap (i + (1 : Int))) n_Lines n_Who
                                        else bif decide (0 ≤ (x.toInt)) then
                                          (v[(x.toInt).toNat]?).bind fun x6 =>
                                            (bif (Sh.int .i64).fits x6 then
                                              bif decide (0 ≤ (x.toInt)) then
                                                (n_Who[(x.toInt).toNat]?).bind fun x7 =>
                                                  (bif (Sh.lst).fits x7 then
                                                    bif ((x6.toInt) == (x7.toLst.length : Int)) then
                                                      L7_111111014 v v1 (IntKind.i64.wrap (i + (1 : Int))) n_Lines n_Who
                                                    else bif decide (0 ≤ i) then
                                                      (n_Who[i.toNat]?).bind fun x8 =>
                                                        (bif (Sh.lst).fits x8 then
                                                          bif decide (0 ≤ i) then
                                                            (v[i.toNat]?).bind fun x9 =>
                                                              (bif (Sh.int .i64).fits x9 then
                                                                bif decide (0 ≤ (x9.toInt)) then
                                                                  (x8.toLst[(x9.toInt).toNat]?).bind fun x10 =>
                                                                    (bif (Sh.agg [Sh.int .i64, Sh.bool, Sh.int .i64]).fits x10 then
                                                                      bif decide (0 ≤ (x.toInt)) then
                                                                        (n_Who[(x.toInt).toNat]?).bind fun x11 =>
                                                                          (bif (Sh.lst).fits x11 then
                                                                            bif decide (0 ≤ (x.toInt)) then
                                                                              (v[(x.toInt).toNat]?).bind fun x12 =>
                                                                                (bif (Sh.int .i64).fits x12 then
                                                                                  bif decide (0 ≤ (x12.toInt)) then
                                                                                    (x11.toLst[(x12.toInt).toNat]?).bind fun x13 =>
                                                                                      (bif (Sh.agg [Sh.int .i64, Sh.bool, Sh.int .i64]).fits x13 then
                                                                                        bif (((x10.c 0).toInt) == ((x13.c 0).toInt)) then
                                                                                          bif (((x10.c 2).toInt) == ((x13.c 2).toInt)) then
                                                                                            bif (!((x10.c 1).toBool == (x13.c 1).toBool)) then
                                                                                              some (.pv (.bool false), [])
                                                                                            else L7_111111014 v v1 (IntKind.i64.wrap (i + (1 : Int))) n_Lines n_Who
                                                                                          else L7_111111014 v v1 (IntKind.i64.wrap (i + (1 : Int))) n_Lines n_Who
                                                                                        else L7_111111014 v v1 (IntKind.i64.wrap (i + (1 : Int))) n_Lines n_Who
                                                                                      else none)
                                                                                  else none
                                                                                else none)
                                                                            else none
                                                                          else none)
                                                                      else none
                                                                    else none)
                                                                else none
                                                              else none)
                                                          else none
                                                        else none)
                                                    else none
                                                  else none)
                                              else none
                                            else none)
                                        else none
                                      else none)
                                  else none
                                else none)
                            else none
                          else none)
                      else none
                    else none)
                else none
              else none)
          else none
        else none)
    else none
  else some (.pv (.bool true), []) :=
  (LV_eq pa 7 _ _).trans (by kernel_rfl)
/-! 8 roadstead/roadkeep2.TalkTurned -/
def st8_111014 (picks : List PV) (n_Who : List PV) (i : Int) (n_Lines : List PV) (l : List PV) : AS :=
  ⟨[.any, .pv (.lst picks), .box 0 0, .any, .any, .box 1 0, .any, .any, .any, .any, .any, .any, .any, .any, .any, .any, .any, .any, .any, .any, .any, .any, .any, .any, .any, .any, .any, .pv (.lst n_Who), .pv (.int .i64 (n_Who.length : Int)), .pv (.int .i64 i), .any, .any, .any, .any, .any, .any, .any, .any, .any, .any, .any, .any, .any, .any, .any, .any, .any, .any, .any, .any, .any, .any, .any, .any, .any, .any, .any, .any, .any, .any, .any, .any, .any, .any, .any, .any, .any, .any, .any, .any, .any, .any, .any, .any, .any, .any, .any, .any, .any, .any, .any, .any, .any, .any, .any, .any, .any, .any, .any, .any, .any, .any, .any, .any, .any, .any, .any, .any, .any, .any, .any, .any], ⟨[(false, [.pv (.lst n_Lines), .pv (.lst n_Who)]), (false, [.pv (.lst n_Lines), .bld 0 0 l])], [], [(0, 1)], 0, 0⟩⟩
noncomputable def L8_111014 (picks : List PV) (n_Who : List PV) (i : Int) (n_Lines : List PV) (l : List PV) : Option Out := LV Pr T 8 [1, 1, 1, 0, 1, 4] (st8_111014 picks n_Who i n_Lines l)
def st8_1110145110411014 (picks : List PV) (l : List PV) (n_Who : List PV) (i1 : Int) (v : List PV) (i : Int) (n_Lines : List PV) (l1 : List PV) : AS :=
  ⟨[.any, .pv (.lst picks), .box 0 0, .any, .any, .box 1 0, .any, .any, .bld 0 0 l, .any, .any, .any, .any, .any, .any, .any, .any, .any, .any, .any, .any, .any, .any, .any, .any, .any, .any, .pv (.lst n_Who), .pv (.int .i64 (n_Who.length : Int)), .pv (.int .i64 i1), .any, .any, .any, .pv (.lst v), .pv (.int .i64 (v.length : Int)), .pv (.int .i64 i), .any, .any, .any, .any, .any, .any, .any, .any, .any, .any, .any, .any, .any, .any, .any, .any, .any, .any, .any, .any, .any, .any, .any, .any, .any, .any, .any, .any, .any, .any, .any, .any, .any, .any, .any, .any, .any, .any, .any, .any, .any, .any, .any, .any, .any, .any, .any, .any, .any, .any, .any, .any, .any, .any, .any, .any, .any, .any, .any, .any, .any, .any, .any, .any, .any, .any], ⟨[(false, [.pv (.lst n_Lines), .pv (.lst n_Who)]), (false, [.pv (.lst n_Lines), .bld 1 0 l1])], [], [(0, 3), (0, 1)], 0, 0⟩⟩
noncomputable def L8_1110145110411014 (picks : List PV) (l : List PV) (n_Who : List PV) (i1 : Int) (v : List PV) (i : Int) (n_Lines : List PV) (l1 : List PV) : Option Out := LV Pr T 8 [1, 1, 1, 0, 1, 4, 5, 1, 1, 0, 4, 1, 1, 0, 1, 4] (st8_1110145110411014 picks l n_Who i1 v i n_Lines l1)
theorem e8 (n_Lines : List PV) (n_Who : List PV) (picks : List PV) : V 8 [.pv (.agg [.lst n_Lines, .lst n_Who]), .pv (.lst picks)] =
  ((V 21 []).bind retPV).bind fun r =>
    (bif (Sh.bool).fits r then
      bif (!r.toBool) then
        some (.pv (.bool false), [])
      else L8_111014 picks n_Who 0 n_Lines []
    else none) :=
  (V_eq pa rfl _).trans (by kernel_rfl)
theorem e8_111014 (picks : List PV) (n_Who : List PV) (i : Int) (n_Lines : List PV) (l : List PV) : L8_111014 picks n_Who i n_Lines l =
  bif decide (i < (n_Who.length : Int)) then
    bif decide (0 ≤ i) then
      (n_Who[i.toNat]?).bind fun x =>
        (bif (Sh.lst).fits x then
          L8_1110145110411014 picks [] n_Who i x.toLst 0 n_Lines l
        else none)
    else none
  else ((V 22 [.pv (.agg [.lst n_Lines, .lst n_Who]), .pv (.lst picks)]).bind retPV).bind fun r =>
    (bif (Sh.tup [Sh.lst, Sh.lst, Sh.int .i64]).fits r then
      ((V 22 [.pv (.agg [.lst n_Lines, .lst l]), .pv (.lst picks)]).bind retPV).bind fun r1 =>
        (bif (Sh.tup [Sh.lst, Sh.lst, Sh.int .i64]).fits r1 then
          ((V 31 [.pv (.agg [.lst n_Lines, .lst n_Who])]).bind retPV).bind fun r2 =>
            (bif (Sh.tup [Sh.int .i64, Sh.int .i64]).fits r2 then
              ((V 31 [.pv (.agg [.lst n_Lines, .lst l])]).bind retPV).bind fun r3 =>
                (bif (Sh.tup [Sh.int .i64, Sh.int .i64]).fits r3 then
                  bif (((r.r 2).toInt) == ((r1.r 2).toInt)) then
                    bif (((r2.r 1).toInt) == ((r3.r 1).toInt)) then
                      bif (((r2.r 0).toInt) == ((r3.r 0).toInt)) then
                        ((V 23 [.pv (.lst ((r.r 0).toLst)), .pv (.lst ((r1.r 0).toLst))]).bind retPV).bind fun r4 =>
                          (bif (Sh.bool).fits r4 then
                            bif r4.toBool then
                              ((V 23 [.pv (.lst ((r.r 1).toLst)), .pv (.lst ((r1.r 1).toLst))]).bind retPV).bind fun r5 =>
                                (bif (Sh.bool).fits r5 then
                                  some (.pv (.bool r5.toBool), [])
                                else none)
                            else some (.pv (.bool false), [])
                          else none)
                      else some (.pv (.bool false), [])
                    else some (.pv (.bool false), [])
                  else some (.pv (.bool false), [])
                else none)
            else none)
        else none)
    else none) :=
  (LV_eq pa 8 _ _).trans (by kernel_rfl)
theorem e8_1110145110411014 (picks : List PV) (l : List PV) (n_Who : List PV) (i1 : Int) (v : List PV) (i : Int) (n_Lines : List PV) (l1 : List PV) : L8_1110145110411014 picks l n_Who i1 v i n_Lines l1 =
  bif decide (i < (v.length : Int)) then
    bif decide (0 ≤ i) then
      (v[i.toNat]?).bind fun x =>
        (bif (Sh.agg [Sh.int .i64, Sh.bool, Sh.int .i64]).fits x then
          bif small (l.length) 1 24 then
            L8_1110145110411014 picks (l ++ [.agg [.int .i64 ((x.c 0).toInt), .bool (!(x.c 1).toBool), .int .i64 ((x.c 2).toInt)]]) n_Who i1 v (IntKind.i64.wrap (i + (1 : Int))) n_Lines l1
          else none
        else none)
    else none
  else bif small (l1.length) 1 24 then
    L8_111014 picks n_Who (IntKind.i64.wrap (i1 + (1 : Int))) n_Lines (l1 ++ [.lst l])
  else none :=
  (LV_eq pa 8 _ _).trans (by kernel_rfl)
/-! 21 roadstead/roadkeep2.talks -/
theorem e21  : V 21 [] =
  ((V 22 [.pv (.agg [.lst [.agg [.int .i64 0, .int .i64 1]], .lst [.lst [.agg [.int .i64 0, .bool true, .int .i64 3]], .lst [.agg [.int .i64 0, .bool false, .int .i64 3]]]]), .pv (.lst [])]).bind retPV).bind fun r =>
    (bif (Sh.tup [Sh.lst, Sh.lst, Sh.int .i64]).fits r then
      bif (((r.r 2).toInt) == (0 : Int)) then
        ((V 23 [.pv (.lst ((r.r 0).toLst)), .pv (.lst [.int .i64 0])]).bind retPV).bind fun r1 =>
          (bif (Sh.bool).fits r1 then
            bif r1.toBool then
              ((V 23 [.pv (.lst ((r.r 1).toLst)), .pv (.lst [.int .i64 1, .int .i64 1])]).bind retPV).bind fun r2 =>
                (bif (Sh.bool).fits r2 then
                  some (.pv (.bool r2.toBool), [])
                else none)
            else some (.pv (.bool false), [])
          else none)
      else some (.pv (.bool false), [])
    else none) :=
  (V_eq pa rfl _).trans (by kernel_rfl)
/-! 22 roadstead/talk.Run -/
def st22_11114 (picks : List PV) (l : List PV) (n_Lines : List PV) (n_Who : List PV) (l1 : List PV) : AS :=
  ⟨[.any, .pv (.lst picks), .box 0 0, .any, .any, .any, .any, .any, .vec 0 0, .bld 0 0 l, .any, .any, .any, .any, .any, .any, .any, .any, .any, .any, .any, .any, .any, .any, .any, .any, .any, .any, .any, .any, .any, .any, .any, .any, .any, .any, .any, .any, .any, .any, .any, .any, .any, .any, .any, .any, .any, .any, .any, .any, .any, .any, .any, .any, .any, .any, .any, .any, .any, .any, .any, .any, .any, .any, .any, .any, .any, .any, .any, .any, .any, .any, .any, .any, .any], ⟨[(false, [.pv (.lst n_Lines), .pv (.lst n_Who)])], [some (0, 1, l1)], [(0, 1)], 0, 0⟩⟩
noncomputable def L22_11114 (picks : List PV) (l : List PV) (n_Lines : List PV) (n_Who : List PV) (l1 : List PV) : Option Out := LV Pr T 22 [1, 1, 1, 1, 4] (st22_11114 picks l n_Lines n_Who l1)
def st22_111145411116 (picks : List PV) (l3 : List PV) (l : List PV) (i : Int) (n_Lines : List PV) (n_Who : List PV) (l4 : List PV) : AS :=
  ⟨[.any, .pv (.lst picks), .box 0 0, .any, .any, .any, .any, .any, .vec 0 0, .bld 0 0 l3, .pv (.lst l), .pv (.int .i64 i), .any, .any, .any, .any, .any, .any, .any, .any, .any, .any, .any, .any, .any, .any, .any, .any, .any, .any, .any, .any, .any, .any, .any, .any, .any, .any, .any, .any, .any, .any, .any, .any, .any, .any, .any, .any, .any, .any, .any, .any, .any, .any, .any, .any, .any, .any, .any, .any, .any, .any, .any, .any, .any, .any, .any, .any, .any, .any, .any, .any, .any, .any, .any], ⟨[(false, [.pv (.lst n_Lines), .pv (.lst n_Who)])], [some (0, 1, l4)], [(0, 1)], 0, 0⟩⟩
noncomputable def L22_111145411116 (picks : List PV) (l3 : List PV) (l : List PV) (i : Int) (n_Lines : List PV) (n_Who : List PV) (l4 : List PV) : Option Out := LV Pr T 22 [1, 1, 1, 1, 4, 5, 4, 1, 1, 1, 1, 6] (st22_111145411116 picks l3 l i n_Lines n_Who l4)
theorem e22 (n_Lines : List PV) (n_Who : List PV) (picks : List PV) : V 22 [.pv (.agg [.lst n_Lines, .lst n_Who]), .pv (.lst picks)] =
  ((V 63 [.pv (.agg [.lst n_Lines, .lst n_Who])]).bind retPV).bind fun r =>
    (bif (Sh.int .i64).fits r then
      bif ((r.toInt) != (0 : Int)) then
        some (.pv (.tup [.lst [], .lst [], .int .i64 r.toInt]), [])
      else bif (decide (0 ≤ (n_Who.length : Int)) && decide ((n_Who.length : Int) ≤ (n_Who.length : Int)) && decide ((n_Who.length : Int) ≤ 2147483648) && Nat.ble 8 65536 && Nat.blt 0 1) then
        L22_11114 picks [] n_Lines n_Who (List.replicate (n_Who.length : Int).toNat (.int .i64 0) : List PV)
      else none
    else none) :=
  (V_eq pa rfl _).trans (by kernel_rfl)
theorem e22_11114 (picks : List PV) (l : List PV) (n_Lines : List PV) (n_Who : List PV) (l1 : List PV) : L22_11114 picks l n_Lines n_Who l1 =
  (V 64 [.pv (.agg [.lst n_Lines, .lst n_Who]), .pv (.lst l1)]).bind fun r =>
    ((retB 1 r).bind fun l2 =>
      (bif l2.all (Sh.int .i64).fits then
        bif ((l2.length : Int) == (0 : Int)) then
          some (.pv (.tup [.lst l, .lst l1, .int .i64 0]), [])
        else bif decide ((l.length : Int) < (picks.length : Int)) then
          bif decide (0 ≤ (l.length : Int)) then
            (picks[(l.length : Int).toNat]?).bind fun x =>
              (bif (Sh.int .i64).fits x then
                bif decide ((IntKind.u64.wrap (l2.length : Int)) = 0) then
                  none
                else L22_111145411116 picks l l2 (IntKind.i64.wrap ((IntKind.u64.wrap (x.toInt)).tmod (IntKind.u64.wrap (l2.length : Int)))) n_Lines n_Who l1
              else none)
          else none
        else L22_111145411116 picks l l2 0 n_Lines n_Who l1
      else none)) :=
  (LV_eq pa 22 _ _).trans (by kernel_rfl)
theorem e22_111145411116 (picks : List PV) (l3 : List PV) (l : List PV) (i : Int) (n_Lines : List PV) (n_Who : List PV) (l4 : List PV) : L22_111145411116 picks l3 l i n_Lines n_Who l4 =
  bif decide (0 ≤ i) then
    (l[i.toNat]?).bind fun x =>
      (bif (Sh.int .i64).fits x then
        bif decide (0 ≤ (x.toInt)) then
          (n_Lines[(x.toInt).toNat]?).bind fun x1 =>
            (bif (Sh.agg [Sh.int .i64, Sh.int .i64]).fits x1 then
              bif (decide (0 ≤ ((x1.c 0).toInt)) && decide (((x1.c 0).toInt) < (l4.length : Int))) then
                (l4[((x1.c 0).toInt).toNat]?).bind fun y =>
                  (bif (Nat.blt 0 y.cells.length && (Sh.int .i64).fits (y.cl 0)) then
                    bif (decide (0 ≤ ((x1.c 0).toInt)) && decide (((x1.c 0).toInt) < (l4.length : Int))) then
                      (l4[((x1.c 0).toInt).toNat]?).bind fun z =>
                        (bif (Nat.blt 0 z.cells.length && true) then
                          bif (decide (0 ≤ ((x1.c 1).toInt)) && decide (((x1.c 1).toInt) < ((l4.set ((x1.c 0).toInt).toNat (z.setc 0 (.int .i64 (IntKind.i64.wrap (((y.cl 0).toInt) + (1 : Int)))))).length : Int))) then
                            ((l4.set ((x1.c 0).toInt).toNat (z.setc 0 (.int .i64 (IntKind.i64.wrap (((y.cl 0).toInt) + (1 : Int))))))[((x1.c 1).toInt).toNat]?).bind fun y1 =>
                              (bif (Nat.blt 0 y1.cells.length && (Sh.int .i64).fits (y1.cl 0)) then
                                bif (decide (0 ≤ ((x1.c 1).toInt)) && decide (((x1.c 1).toInt) < ((l4.set ((x1.c 0).toInt).toNat (z.setc 0 (.int .i64 (IntKind.i64.wrap (((y.cl 0).toInt) + (1 : Int)))))).length : Int))) then
                                  ((l4.set ((x1.c 0).toInt).toNat (z.setc 0 (.int .i64 (IntKind.i64.wrap (((y.cl 0).toInt) + (1 : Int))))))[((x1.c 1).toInt).toNat]?).bind fun z1 =>
                                    (bif (Nat.blt 0 z1.cells.length && true) then
                                      bif decide (0 ≤ i) then
                                        (l[i.toNat]?).bind fun x2 =>
                                          (bif (Sh.int .i64).fits x2 then
                                            bif small (l3.length) 1 8 then
                                              L22_11114 picks (l3 ++ [.int .i64 x2.toInt]) n_Lines n_Who ((l4.set ((x1.c 0).toInt).toNat (z.setc 0 (.int .i64 (IntKind.i64.wrap (((y.cl 0).toInt) + (1 : Int)))))).set ((x1.c 1).toInt).toNat (z1.setc 0 (.int .i64 (IntKind.i64.wrap (((y1.cl 0).toInt) + (1 : Int))))))
                                            else none
                                          else none)
                                      else none
                                    else none)
                                else none
                              else none)
                          else none
                        else none)
                    else none
                  else none)
              else none
            else none)
        else none
      else none)
  else none :=
  (LV_eq pa 22 _ _).trans (by kernel_rfl)
/-! 23 slices.Equal[[]int,int] -/
def st23_11014 (s1 : List PV) (s2 : List PV) (i : Int) : AS :=
  ⟨[.pv (.lst s1), .pv (.lst s2), .any, .any, .any, .any, .any, .any, .any, .any, .any, .any, .pv (.int .i64 (s1.length : Int)), .pv (.int .i64 i), .any, .any, .any, .any, .any, .any, .any, .any, .any, .any, .any, .any], ⟨[], [], [], 0, 0⟩⟩
noncomputable def L23_11014 (s1 : List PV) (s2 : List PV) (i : Int) : Option Out := LV Pr T 23 [1, 1, 0, 1, 4] (st23_11014 s1 s2 i)
theorem e23 (s1 : List PV) (s2 : List PV) : V 23 [.pv (.lst s1), .pv (.lst s2)] =
  bif ((s1.length : Int) != (s2.length : Int)) then
    some (.pv (.bool false), [])
  else L23_11014 s1 s2 0 :=
  (V_eq pa rfl _).trans (by kernel_rfl)
theorem e23_11014 (s1 : List PV) (s2 : List PV) (i : Int) : L23_11014 s1 s2 i =
  bif decide (i < (s1.length : Int)) then
    bif decide (0 ≤ i) then
      (s1[i.toNat]?).bind fun x =>
        (bif (Sh.int .i64).fits x then
          bif decide (0 ≤ i) then
            (s2[i.toNat]?).bind fun x1 =>
              (bif (Sh.int .i64).fits x1 then
                bif ((x.toInt) != (x1.toInt)) then
                  some (.pv (.bool false), [])
                else L23_11014 s1 s2 (IntKind.i64.wrap (i + (1 : Int)))
              else none)
          else none
        else none)
    else none
  else some (.pv (.bool true), []) :=
  (LV_eq pa 23 _ _).trans (by kernel_rfl)
/-! 30 roadstead/talk.Waits -/
def st30_111014 (at_ : List PV) (i : Int) (n_Lines : List PV) (n_Who : List PV) : AS :=
  ⟨[.any, .pv (.lst at_), .box 0 0, .any, .any, .any, .any, .any, .any, .any, .any, .any, .any, .any, .any, .any, .any, .any, .any, .any, .any, .any, .any, .any, .pv (.lst at_), .pv (.int .i64 (at_.length : Int)), .pv (.int .i64 i), .any, .any, .any, .any, .any, .any, .any, .any, .any, .any, .any, .any, .any, .any, .any, .any, .any, .any, .any, .any, .any, .any, .any, .any, .any, .any, .any, .any, .any, .any, .any, .any, .any, .any, .any, .any, .any, .any, .any, .any, .any, .any, .any, .any, .any, .any, .any, .any, .any, .any, .any, .any, .any, .any, .any, .any, .any, .any, .any, .any, .any, .any, .any], ⟨[(false, [.pv (.lst n_Lines), .pv (.lst n_Who)])], [], [], 0, 0⟩⟩
noncomputable def L30_111014 (at_ : List PV) (i : Int) (n_Lines : List PV) (n_Who : List PV) : Option Out := LV Pr T 30 [1, 1, 1, 0, 1, 4] (st30_111014 at_ i n_Lines n_Who)
def st30_11111014 (at_ : List PV) (i : Int) (n_Lines : List PV) (n_Who : List PV) (l : List PV) : AS :=
  ⟨[.any, .any, .box 0 0, .any, .any, .any, .any, .any, .any, .vec 0 0, .any, .any, .any, .any, .any, .any, .any, .any, .any, .any, .any, .any, .any, .any, .any, .any, .any, .any, .any, .any, .any, .any, .any, .any, .any, .any, .any, .any, .any, .any, .any, .any, .any, .any, .any, .any, .any, .pv (.lst at_), .pv (.int .i64 (at_.length : Int)), .pv (.int .i64 i), .any, .any, .any, .any, .any, .any, .any, .any, .any, .any, .any, .any, .any, .any, .any, .any, .any, .any, .any, .any, .any, .any, .any, .any, .any, .any, .any, .any, .any, .any, .any, .any, .any, .any, .any, .any, .any, .any, .any, .any], ⟨[(false, [.pv (.lst n_Lines), .pv (.lst n_Who)])], [some (0, 1, l)], [], 0, 0⟩⟩
noncomputable def L30_11111014 (at_ : List PV) (i : Int) (n_Lines : List PV) (n_Who : List PV) (l : List PV) : Option Out := LV Pr T 30 [1, 1, 1, 1, 1, 0, 1, 4] (st30_11111014 at_ i n_Lines n_Who l)
theorem e30 (n_Lines : List PV) (n_Who : List PV) (at_ : List PV) : V 30 [.pv (.agg [.lst n_Lines, .lst n_Who]), .pv (.lst at_)] =
  ((V 63 [.pv (.agg [.lst n_Lines, .lst n_Who])]).bind retPV).bind fun r =>
    (bif (Sh.int .i64).fits r then
      bif ((r.toInt) != (0 : Int)) then
        some (.pv (.tup [.lst [], .int .i64 r.toInt]), [])
      else bif ((at_.length : Int) != (n_Who.length : Int)) then
        some (.pv (.tup [.lst [], .int .i64 3]), [])
      else L30_111014 at_ 0 n_Lines n_Who
    else none) :=
  (V_eq pa rfl _).trans (by kernel_rfl)
theorem e30_111014 (at_ : List PV) (i : Int) (n_Lines : List PV) (n_Who : List PV) : L30_111014 at_ i n_Lines n_Who =
  bif decide (i < (at_.length : Int)) then
    bif decide (0 ≤ i) then
      (at_[i.toNat]?).bind fun x =>
        (bif (Sh.int .i64).fits x then
          bif decide ((x.toInt) < (0 : Int)) then
            some (.pv (.tup [.lst [], .int .i64 1]), [])
          else bif decide (0 ≤ i) then
            (n_Who[i.toNat]?).bind fun x1 =>
              (bif (Sh.lst).fits x1 then
                bif decide ((x.toInt) > (x1.toLst.length : Int)) then
                  some (.pv (.tup [.lst [], .int .i64 1]), [])
                else L30_111014 at_ (IntKind.i64.wrap (i + (1 : Int))) n_Lines n_Who
              else none)
          else none
        else none)
    else none
  else bif (decide (0 ≤ (at_.length : Int)) && decide ((at_.length : Int) ≤ (at_.length : Int)) && decide ((at_.length : Int) ≤ 2147483648) && Nat.ble 8 65536 && Nat.blt 0 1) then
    L30_11111014 at_ 0 n_Lines n_Who (List.replicate (at_.length : Int).toNat (.int .i64 0) : List PV)
  else none :=
  (LV_eq pa 30 _ _).trans (by kernel_rfl)
theorem e30_11111014 (at_ : List PV) (i : Int) (n_Lines : List PV) (n_Who : List PV) (l : List PV) : L30_11111014 at_ i n_Lines n_Who l =
  bif decide (i < (at_.length : Int)) then
    bif decide (0 ≤ i) then
      (at_[i.toNat]?).bind fun x =>
        (bif (Sh.int .i64).fits x then
          bif (decide (0 ≤ i) && decide (i < (l.length : Int))) then
            (l[i.toNat]?).bind fun z =>
              (bif (Nat.blt 0 z.cells.length && true) then
                bif decide (0 ≤ i) then
                  (n_Who[i.toNat]?).bind fun x1 =>
                    (bif (Sh.lst).fits x1 then
                      bif decide ((x.toInt) < (x1.toLst.length : Int)) then
                        bif decide (0 ≤ i) then
                          (n_Who[i.toNat]?).bind fun x2 =>
                            (bif (Sh.lst).fits x2 then
                              bif decide (0 ≤ (x.toInt)) then
                                (x2.toLst[(x.toInt).toNat]?).bind fun x3 =>
                                  (bif (Sh.agg [Sh.int .i64, Sh.bool, Sh.int .i64]).fits x3 then
                                    bif decide (0 ≤ ((x3.c 0).toInt)) then
                                      (n_Lines[((x3.c 0).toInt).toNat]?).bind fun x4 =>
                                        (bif (Sh.agg [Sh.int .i64, Sh.int .i64]).fits x4 then
                                          bif (decide (0 ≤ i) && decide (i < ((l.set i.toNat (z.setc 0 (.int .i64 (-1)))).length : Int))) then
                                            ((l.set i.toNat (z.setc 0 (.int .i64 (-1))))[i.toNat]?).bind fun z1 =>
                                              (bif (Nat.blt 0 z1.cells.length && true) then
                                                L30_11111014 at_ (IntKind.i64.wrap (i + (1 : Int))) n_Lines n_Who ((l.set i.toNat (z.setc 0 (.int .i64 (-1)))).set i.toNat (z1.setc 0 (.int .i64 (IntKind.i64.wrap ((IntKind.i64.wrap (((x4.c 0).toInt) + ((x4.c 1).toInt))) - i)))))
                                              else none)
                                          else none
                                        else none)
                                    else none
                                  else none)
                              else none
                            else none)
                        else none
                      else L30_11111014 at_ (IntKind.i64.wrap (i + (1 : Int))) n_Lines n_Who (l.set i.toNat (z.setc 0 (.int .i64 (-1))))
                    else none)
                else none
              else none)
          else none
        else none)
    else none
  else some (.pv (.tup [.lst l, .int .i64 0]), []) :=
  (LV_eq pa 30 _ _).trans (by kernel_rfl)
/-! 31 roadstead/talk.Dual -/
def st31_11014 (n_Lines : List PV) (i : Int) (n_Who : List PV) : AS :=
  ⟨[.any, .box 0 0, .any, .any, .any, .any, .any, .any, .any, .any, .any, .any, .any, .pv (.lst n_Lines), .pv (.int .i64 (n_Lines.length : Int)), .pv (.int .i64 i), .any, .any, .any, .any, .any, .any, .any, .any, .any, .any, .any, .any, .any, .any, .any, .any, .any, .any, .any, .any, .any, .any, .any, .any], ⟨[(false, [.pv (.lst n_Lines), .pv (.lst n_Who)])], [], [], 0, 0⟩⟩
noncomputable def L31_11014 (n_Lines : List PV) (i : Int) (n_Who : List PV) : Option Out := LV Pr T 31 [1, 1, 0, 1, 4] (st31_11014 n_Lines i n_Who)
theorem e31 (n_Lines : List PV) (n_Who : List PV) : V 31 [.pv (.agg [.lst n_Lines, .lst n_Who])] =
  ((V 63 [.pv (.agg [.lst n_Lines, .lst n_Who])]).bind retPV).bind fun r =>
    (bif (Sh.int .i64).fits r then
      bif ((r.toInt) != (0 : Int)) then
        some (.pv (.tup [.int .i64 0, .int .i64 r.toInt]), [])
      else L31_11014 n_Lines 0 n_Who
    else none) :=
  (V_eq pa rfl _).trans (by kernel_rfl)
theorem e31_11014 (n_Lines : List PV) (i : Int) (n_Who : List PV) : L31_11014 n_Lines i n_Who =
  bif decide (i < (n_Lines.length : Int)) then
    bif decide (0 ≤ i) then
      (n_Lines[i.toNat]?).bind fun x =>
        (bif (Sh.agg [Sh.int .i64, Sh.int .i64]).fits x then
          bif decide (0 ≤ ((x.c 0).toInt)) then
            (n_Who[((x.c 0).toInt).toNat]?).bind fun x1 =>
              (bif (Sh.lst).fits x1 then
                ((V 72 [.pv (.lst x1.toLst), .pv (.int .i64 i)]).bind retPV).bind fun r =>
                  (bif (Sh.lst).fits r then
                    bif decide (0 ≤ ((x.c 1).toInt)) then
                      (n_Who[((x.c 1).toInt).toNat]?).bind fun x2 =>
                        (bif (Sh.lst).fits x2 then
                          ((V 72 [.pv (.lst x2.toLst), .pv (.int .i64 i)]).bind retPV).bind fun r1 =>
                            (bif (Sh.lst).fits r1 then
                              ((V 71 [.pv (.lst r.toLst), .pv (.lst r1.toLst), .pv (.fn 73 [])]).bind retPV).bind fun r2 =>
                                (bif (Sh.bool).fits r2 then
                                  bif (!r2.toBool) then
                                    some (.pv (.tup [.int .i64 i, .int .i64 0]), [])
                                  else L31_11014 n_Lines (IntKind.i64.wrap (i + (1 : Int))) n_Who
                                else none)
                            else none)
                        else none)
                    else none
                  else none)
              else none)
          else none
        else none)
    else none
  else some (.pv (.tup [.int .i64 (-1), .int .i64 0]), []) :=
  (LV_eq pa 31 _ _).trans (by kernel_rfl)
/-! 63 roadstead/talk.Check -/
def st63_11014 (n_Lines : List PV) (i : Int) (n_Who : List PV) : AS :=
  ⟨[.any, .box 0 0, .any, .any, .any, .any, .any, .any, .any, .any, .any, .any, .any, .any, .any, .any, .any, .any, .any, .any, .any, .pv (.lst n_Lines), .pv (.int .i64 (n_Lines.length : Int)), .pv (.int .i64 i), .any, .any, .any, .any, .any, .any, .any, .any, .any, .any, .any, .any, .any, .any, .any, .any, .any, .any, .any, .any, .any, .any, .any, .any, .any, .any, .any, .any, .any, .any, .any, .any, .any, .any, .any, .any, .any, .any, .any, .any, .any, .any, .any, .any, .any, .any, .any, .any, .any, .any, .any, .any, .any, .any, .any, .any, .any, .any, .any, .any, .any, .any, .any, .any, .any, .any, .any, .any, .any, .any, .any, .any, .any, .any, .any, .any, .any, .any, .any, .any, .any, .any, .any, .any, .any, .any, .any, .any, .any, .any, .any], ⟨[(false, [.pv (.lst n_Lines), .pv (.lst n_Who)])], [], [], 0, 0⟩⟩
noncomputable def L63_11014 (n_Lines : List PV) (i : Int) (n_Who : List PV) : Option Out := LV Pr T 63 [1, 1, 0, 1, 4] (st63_11014 n_Lines i n_Who)
def st63_111014 (n_Who : List PV) (i : Int) (n_Lines : List PV) : AS :=
  ⟨[.any, .box 0 0, .any, .any, .any, .any, .any, .any, .any, .any, .any, .any, .any, .any, .any, .any, .any, .any, .any, .any, .any, .any, .any, .any, .any, .any, .any, .any, .any, .any, .any, .any, .any, .any, .any, .any, .any, .any, .any, .any, .any, .any, .any, .any, .any, .any, .any, .any, .any, .any, .any, .any, .any, .any, .any, .any, .any, .any, .any, .any, .pv (.lst n_Who), .pv (.int .i64 (n_Who.length : Int)), .pv (.int .i64 i), .any, .any, .any, .any, .any, .any, .any, .any, .any, .any, .any, .any, .any, .any, .any, .any, .any, .any, .any, .any, .any, .any, .any, .any, .any, .any, .any, .any, .any, .any, .any, .any, .any, .any, .any, .any, .any, .any, .any, .any, .any, .any, .any, .any, .any, .any, .any, .any, .any, .any, .any, .any], ⟨[(false, [.pv (.lst n_Lines), .pv (.lst n_Who)])], [], [], 0, 0⟩⟩
noncomputable def L63_111014 (n_Who : List PV) (i : Int) (n_Lines : List PV) : Option Out := LV Pr T 63 [1, 1, 1, 0, 1, 4] (st63_111014 n_Who i n_Lines)
def st63_111014511041114 (i1 : Int) (n_Who : List PV) (v : List PV) (i : Int) (n_Lines : List PV) : AS :=
  ⟨[.any, .box 0 0, .any, .any, .any, .pv (.int .i64 i1), .any, .any, .any, .any, .any, .any, .any, .any, .any, .any, .any, .any, .any, .any, .any, .any, .any, .any, .any, .any, .any, .any, .any, .any, .any, .any, .any, .any, .any, .any, .any, .any, .any, .any, .any, .any, .any, .any, .any, .any, .any, .any, .any, .any, .any, .any, .any, .any, .any, .any, .any, .any, .any, .any, .pv (.lst n_Who), .pv (.int .i64 (n_Who.length : Int)), .pv (.int .i64 i1), .any, .any, .any, .any, .any, .any, .any, .pv (.lst v), .pv (.int .i64 (v.length : Int)), .pv (.int .i64 i), .any, .any, .any, .any, .any, .any, .any, .any, .any, .any, .any, .any, .any, .any, .any, .any, .any, .any, .any, .any, .any, .any, .any, .any, .any, .any, .any, .any, .any, .any, .any, .any, .any, .any, .any, .any, .any, .any, .any, .any, .any, .any], ⟨[(false, [.pv (.lst n_Lines), .pv (.lst n_Who)])], [], [], 0, 0⟩⟩
noncomputable def L63_111014511041114 (i1 : Int) (n_Who : List PV) (v : List PV) (i : Int) (n_Lines : List PV) : Option Out := LV Pr T 63 [1, 1, 1, 0, 1, 4, 5, 1, 1, 0, 4, 1, 1, 1, 4] (st63_111014511041114 i1 n_Who v i n_Lines)
theorem e63 (n_Lines : List PV) (n_Who : List PV) : V 63 [.pv (.agg [.lst n_Lines, .lst n_Who])] =
  bif decide ((n_Who.length : Int) > (8 : Int)) then
    some (.pv (.int .i64 2), [])
  else bif decide ((n_Lines.length : Int) > (12 : Int)) then
    some (.pv (.int .i64 2), [])
  else L63_11014 n_Lines 0 n_Who :=
  (V_eq pa rfl _).trans (by kernel_rfl)
theorem e63_11014 (n_Lines : List PV) (i : Int) (n_Who : List PV) : L63_11014 n_Lines i n_Who =
  bif decide (i < (n_Lines.length : Int)) then
    bif decide (0 ≤ i) then
      (n_Lines[i.toNat]?).bind fun x =>
        (bif (Sh.agg [Sh.int .i64, Sh.int .i64]).fits x then
          bif decide (((x.c 0).toInt) < (0 : Int)) then
            some (.pv (.int .i64 1), [])
          else bif decide (((x.c 1).toInt) < (0 : Int)) then
            some (.pv (.int .i64 1), [])
          else bif decide (((x.c 0).toInt) ≥ (n_Who.length : Int)) then
            some (.pv (.int .i64 1), [])
          else bif decide (((x.c 1).toInt) ≥ (n_Who.length : Int)) then
            some (.pv (.int .i64 1), [])
          else bif (((x.c 0).toInt) == ((x.c 1).toInt)) then
            some (.pv (.int .i64 1), [])
          else L63_11014 n_Lines (IntKind.i64.wrap (i + (1 : Int))) n_Who
        else none)
    else none
  else L63_111014 n_Who 0 n_Lines :=
  (LV_eq pa 63 _ _).trans (by kernel_rfl)
theorem e63_111014 (n_Who : List PV) (i : Int) (n_Lines : List PV) : L63_111014 n_Who i n_Lines =
  bif decide (i < (n_Who.length : Int)) then
    bif decide (0 ≤ i) then
      (n_Who[i.toNat]?).bind fun x =>
        (bif (Sh.lst).fits x then
          bif decide ((x.toLst.length : Int) > (40 : Int)) then
            some (.pv (.int .i64 2), [])
          else L63_111014511041114 i n_Who x.toLst 0 n_Lines
        else none)
    else none
  else some (.pv (.int .i64 0), []) :=
  (LV_eq pa 63 _ _).trans (by kernel_rfl)
theorem e63_111014511041114 (i1 : Int) (n_Who : List PV) (v : List PV) (i : Int) (n_Lines : List PV) : L63_111014511041114 i1 n_Who v i n_Lines =
  bif decide (i < (v.length : Int)) then
    bif decide (0 ≤ i) then
      (v[i.toNat]?).bind fun x =>
        (bif (Sh.agg [Sh.int .i64, Sh.bool, Sh.int .i64]).fits x then
          bif decide (((x.c 0).toInt) < (0 : Int)) then
            some (.pv (.int .i64 1), [])
          else bif decide (((x.c 0).toInt) ≥ (n_Lines.length : Int)) then
            some (.pv (.int .i64 1), [])
          else bif decide (((x.c 2).toInt) < (0 : Int)) then
            some (.pv (.int .i64 1), [])
          else bif decide (((x.c 2).toInt) > (20 : Int)) then
            some (.pv (.int .i64 1), [])
          else bif decide (0 ≤ ((x.c 0).toInt)) then
            (n_Lines[((x.c 0).toInt).toNat]?).bind fun x1 =>
              (bif (Sh.agg [Sh.int .i64, Sh.int .i64]).fits x1 then
                bif (((x1.c 0).toInt) != i1) then
                  bif (((x1.c 1).toInt) != i1) then
                    some (.pv (.int .i64 7), [])
                  else L63_111014511041114 i1 n_Who v (IntKind.i64.wrap (i + (1 : Int))) n_Lines
                else L63_111014511041114 i1 n_Who v (IntKind.i64.wrap (i + (1 : Int))) n_Lines
              else none)
          else none
        else none)
    else none
  else L63_111014 n_Who (IntKind.i64.wrap (i1 + (1 : Int))) n_Lines :=
  (LV_eq pa 63 _ _).trans (by kernel_rfl)
/-! 64 roadstead/talk.ready -/
def st64_11014 (at_ : List PV) (l : List PV) (n_Lines : List PV) (i : Int) (n_Who : List PV) : AS :=
  ⟨[.any, .pv (.lst at_), .box 0 0, .any, .any, .bld 0 0 l, .any, .any, .any, .any, .any, .pv (.lst n_Lines), .pv (.int .i64 (n_Lines.length : Int)), .pv (.int .i64 i), .any, .any, .any, .any, .any, .any, .any, .any, .any, .any, .any, .any, .any, .any, .any, .any, .any, .any, .any, .any, .any, .any, .any, .any, .any, .any, .any, .any, .any, .any, .any, .any, .any, .any, .any, .any, .any, .any, .any, .any, .any, .any, .any, .any, .any, .any, .any, .any, .any, .any, .any, .any, .any, .any, .any, .any, .any, .any, .any, .any, .any, .any, .any, .any, .any, .any, .any, .any, .any, .any, .any, .any, .any, .any, .any, .any, .any, .any, .any, .any, .any, .any, .any, .any, .any, .any, .any, .any], ⟨[(false, [.pv (.lst n_Lines), .pv (.lst n_Who)])], [], [(0, 1)], 0, 0⟩⟩
noncomputable def L64_11014 (at_ : List PV) (l : List PV) (n_Lines : List PV) (i : Int) (n_Who : List PV) : Option Out := LV Pr T 64 [1, 1, 0, 1, 4] (st64_11014 at_ l n_Lines i n_Who)
def st64_110145110411116 (at_ : List PV) (l1 : List PV) (i1 : Int) (n_Lines : List PV) (b : Bool) (n_Who : List PV) : AS :=
  ⟨[.any, .pv (.lst at_), .box 0 0, .any, .any, .bld 0 0 l1, .pv (.int .i64 i1), .any, .any, .any, .any, .pv (.lst n_Lines), .pv (.int .i64 (n_Lines.length : Int)), .pv (.int .i64 i1), .any, .any, .any, .any, .any, .any, .any, .any, .any, .any, .any, .any, .any, .any, .any, .any, .any, .any, .any, .any, .any, .any, .any, .any, .any, .any, .any, .any, .any, .any, .any, .any, .any, .any, .any, .any, .any, .any, .any, .any, .any, .any, .any, .any, .any, .any, .any, .any, .any, .any, .any, .any, .any, .any, .any, .any, .any, .any, .any, .any, .any, .any, .any, .any, .any, .any, .any, .any, .any, .any, .any, .any, .any, .any, .any, .any, .any, .any, .any, .any, .any, .pv (.bool b), .any, .any, .any, .any, .any, .any], ⟨[(false, [.pv (.lst n_Lines), .pv (.lst n_Who)])], [], [(0, 1)], 0, 0⟩⟩
noncomputable def L64_110145110411116 (at_ : List PV) (l1 : List PV) (i1 : Int) (n_Lines : List PV) (b : Bool) (n_Who : List PV) : Option Out := LV Pr T 64 [1, 1, 0, 1, 4, 5, 1, 1, 0, 4, 1, 1, 1, 1, 6] (st64_110145110411116 at_ l1 i1 n_Lines b n_Who)
theorem e64 (n_Lines : List PV) (n_Who : List PV) (at_ : List PV) : V 64 [.pv (.agg [.lst n_Lines, .lst n_Who]), .pv (.lst at_)] =
  L64_11014 at_ [] n_Lines 0 n_Who :=
  (V_eq pa rfl _).trans (by kernel_rfl)
theorem e64_11014 (at_ : List PV) (l : List PV) (n_Lines : List PV) (i : Int) (n_Who : List PV) : L64_11014 at_ l n_Lines i n_Who =
  bif decide (i < (n_Lines.length : Int)) then
    bif decide (0 ≤ i) then
      (n_Lines[i.toNat]?).bind fun x =>
        (bif (Sh.agg [Sh.int .i64, Sh.int .i64]).fits x then
          bif decide (0 ≤ ((x.c 0).toInt)) then
            (at_[((x.c 0).toInt).toNat]?).bind fun x1 =>
              (bif (Sh.int .i64).fits x1 then
                bif decide (0 ≤ ((x.c 0).toInt)) then
                  (n_Who[((x.c 0).toInt).toNat]?).bind fun x2 =>
                    (bif (Sh.lst).fits x2 then
                      bif ((x1.toInt) == (x2.toLst.length : Int)) then
                        L64_11014 at_ l n_Lines (IntKind.i64.wrap (i + (1 : Int))) n_Who
                      else bif decide (0 ≤ ((x.c 1).toInt)) then
                        (at_[((x.c 1).toInt).toNat]?).bind fun x3 =>
                          (bif (Sh.int .i64).fits x3 then
                            bif decide (0 ≤ ((x.c 1).toInt)) then
                              (n_Who[((x.c 1).toInt).toNat]?).bind fun x4 =>
                                (bif (Sh.lst).fits x4 then
                                  bif ((x3.toInt) == (x4.toLst.length : Int)) then
                                    L64_11014 at_ l n_Lines (IntKind.i64.wrap (i + (1 : Int))) n_Who
                                  else bif decide (0 ≤ ((x.c 0).toInt)) then
                                    (n_Who[((x.c 0).toInt).toNat]?).bind fun x5 =>
                                      (bif (Sh.lst).fits x5 then
                                        bif decide (0 ≤ ((x.c 0).toInt)) then
                                          (at_[((x.c 0).toInt).toNat]?).bind fun x6 =>
                                            (bif (Sh.int .i64).fits x6 then
                                              bif decide (0 ≤ (x6.toInt)) then
                                                (x5.toLst[(x6.toInt).toNat]?).bind fun x7 =>
                                                  (bif (Sh.agg [Sh.int .i64, Sh.bool, Sh.int .i64]).fits x7 then
                                                    bif decide (0 ≤ ((x.c 1).toInt)) then
                                                      (n_Who[((x.c 1).toInt).toNat]?).bind fun x8 =>
                                                        (bif (Sh.lst).fits x8 then
                                                          bif decide (0 ≤ ((x.c 1).toInt)) then
                                                            (at_[((x.c 1).toInt).toNat]?).bind fun x9 =>
                                                              (bif (Sh.int .i64).fits x9 then
                                                                bif decide (0 ≤ (x9.toInt)) then
                                                                  (x8.toLst[(x9.toInt).toNat]?).bind fun x10 =>
                                                                    (bif (Sh.agg [Sh.int .i64, Sh.bool, Sh.int .i64]).fits x10 then
                                                                      bif (((x7.c 0).toInt) == i) then
                                                                        bif (((x10.c 0).toInt) == i) then
                                                                          bif (((x7.c 2).toInt) == ((x10.c 2).toInt)) then
                                                                            L64_110145110411116 at_ l i n_Lines (!((x7.c 1).toBool == (x10.c 1).toBool)) n_Who
                                                                          else L64_110145110411116 at_ l i n_Lines false n_Who
                                                                        else L64_110145110411116 at_ l i n_Lines false n_Who
                                                                      else L64_110145110411116 at_ l i n_Lines false n_Who
                                                                    else none)
                                                                else none
                                                              else none)
                                                          else none
                                                        else none)
                                                    else none
                                                  else none)
                                              else none
                                            else none)
                                        else none
                                      else none)
                                  else none
                                else none)
                            else none
                          else none)
                      else none
                    else none)
                else none
              else none)
          else none
        else none)
    else none
  else some (.bld 1 l, []) :=
  (LV_eq pa 64 _ _).trans (by kernel_rfl)
theorem e64_110145110411116 (at_ : List PV) (l1 : List PV) (i1 : Int) (n_Lines : List PV) (b : Bool) (n_Who : List PV) : L64_110145110411116 at_ l1 i1 n_Lines b n_Who =
  bif b then
    bif small (l1.length) 1 8 then
      L64_11014 at_ (l1 ++ [.int .i64 i1]) n_Lines (IntKind.i64.wrap (i1 + (1 : Int))) n_Who
    else none
  else L64_11014 at_ l1 n_Lines (IntKind.i64.wrap (i1 + (1 : Int))) n_Who :=
  (LV_eq pa 64 _ _).trans (by kernel_rfl)
/-! 71 slices.EqualFunc[[]roadstead/talk.Deed,[]roadstead/talk.Deed,roadstead/talk.Deed,roadstead/talk.Deed] -/
def st71_11014 (s2 : List PV) (eq_f : FuncId) (eq_c : List PV) (s1 : List PV) (i : Int) : AS :=
  ⟨[.any, .pv (.lst s2), .pv (.fn eq_f eq_c), .any, .any, .any, .any, .any, .any, .any, .any, .any, .any, .any, .any, .pv (.lst s1), .pv (.int .i64 (s1.length : Int)), .pv (.int .i64 i), .any, .any, .any, .any, .any, .any, .any, .any, .any, .any, .any, .any, .any, .any], ⟨[], [], [], 0, 0⟩⟩
noncomputable def L71_11014 (s2 : List PV) (eq_f : FuncId) (eq_c : List PV) (s1 : List PV) (i : Int) : Option Out := LV Pr T 71 [1, 1, 0, 1, 4] (st71_11014 s2 eq_f eq_c s1 i)
theorem e71 (s1 : List PV) (s2 : List PV) (eq_f : FuncId) (eq_c : List PV) : V 71 [.pv (.lst s1), .pv (.lst s2), .pv (.fn eq_f eq_c)] =
  bif ((s1.length : Int) != (s2.length : Int)) then
    some (.pv (.bool false), [])
  else L71_11014 s2 eq_f eq_c s1 0 :=
  (V_eq pa rfl _).trans (by kernel_rfl)
theorem e71_11014 (s2 : List PV) (eq_f : FuncId) (eq_c : List PV) (s1 : List PV) (i : Int) : L71_11014 s2 eq_f eq_c s1 i =
  bif decide (i < (s1.length : Int)) then
    bif decide (0 ≤ i) then
      (s1[i.toNat]?).bind fun x =>
        (bif (Sh.agg [Sh.int .i64, Sh.bool, Sh.int .i64]).fits x then
          bif decide (0 ≤ i) then
            (s2[i.toNat]?).bind fun x1 =>
              (bif (Sh.agg [Sh.int .i64, Sh.bool, Sh.int .i64]).fits x1 then
                ((V eq_f ((([.agg [.int .i64 ((x.c 0).toInt), .bool ((x.c 1).toBool), .int .i64 ((x.c 2).toInt)], .agg [.int .i64 ((x1.c 0).toInt), .bool ((x1.c 1).toBool), .int .i64 ((x1.c 2).toInt)]] : List PV) ++ eq_c).map .pv)).bind retPV).bind fun r =>
                  (bif (Sh.bool).fits r then
                    bif (!r.toBool) then
                      some (.pv (.bool false), [])
                    else L71_11014 s2 eq_f eq_c s1 (IntKind.i64.wrap (i + (1 : Int)))
                  else none)
              else none)
          else none
        else none)
    else none
  else some (.pv (.bool true), []) :=
  (LV_eq pa 71 _ _).trans (by kernel_rfl)
/-! 72 roadstead/talk.part -/
def st72_11014 (line : Int) (l1 : List PV) (l : List PV) (i : Int) : AS :=
  ⟨[.any, .pv (.int .i64 line), .any, .any, .any, .bld 0 0 l1, .any, .any, .pv (.lst l), .pv (.int .i64 (l.length : Int)), .pv (.int .i64 i), .any, .any, .any, .any, .any, .any, .any, .any, .any, .any, .any, .any, .any], ⟨[], [], [(0, 3)], 0, 0⟩⟩
noncomputable def L72_11014 (line : Int) (l1 : List PV) (l : List PV) (i : Int) : Option Out := LV Pr T 72 [1, 1, 0, 1, 4] (st72_11014 line l1 l i)
theorem e72 (l : List PV) (line : Int) : V 72 [.pv (.lst l), .pv (.int .i64 line)] =
  L72_11014 line [] l 0 :=
  (V_eq pa rfl _).trans (by kernel_rfl)
theorem e72_11014 (line : Int) (l1 : List PV) (l : List PV) (i : Int) : L72_11014 line l1 l i =
  bif decide (i < (l.length : Int)) then
    bif decide (0 ≤ i) then
      (l[i.toNat]?).bind fun x =>
        (bif (Sh.agg [Sh.int .i64, Sh.bool, Sh.int .i64]).fits x then
          bif (((x.c 0).toInt) == line) then
            bif small (l1.length) 1 24 then
              L72_11014 line (l1 ++ [.agg [.int .i64 ((x.c 0).toInt), .bool ((x.c 1).toBool), .int .i64 ((x.c 2).toInt)]]) l (IntKind.i64.wrap (i + (1 : Int)))
            else none
          else L72_11014 line l1 l (IntKind.i64.wrap (i + (1 : Int)))
        else none)
    else none
  else some (.bld 3 l1, []) :=
  (LV_eq pa 72 _ _).trans (by kernel_rfl)
/-! 73 roadstead/talk.Dual$1 -/
theorem e73 (a_Line : Int) (a_Send : Bool) (a_Msg : Int) (b_Line : Int) (b_Send : Bool) (b_Msg : Int) : V 73 [.pv (.agg [.int .i64 a_Line, .bool a_Send, .int .i64 a_Msg]), .pv (.agg [.int .i64 b_Line, .bool b_Send, .int .i64 b_Msg])] =
  bif (a_Msg == b_Msg) then
    some (.pv (.bool (!(a_Send == b_Send))), [])
  else some (.pv (.bool false), []) :=
  (V_eq pa rfl _).trans (by kernel_rfl)
end Go.AL.S1
