/- Equations of functions in the abstract machine: printed by gen.py. -/
import Derived.Test.YtlmodlihiglnhaaS2T
set_option linter.unusedVariables false
set_option maxRecDepth 100000
namespace Go.AL.S2
open Go Go.AL
/-! 3 roadstead/roadkeep2.SessionLeast -/
theorem e3 (a : List PV) (b : List PV) : V 3 [.pv (.lst a), .pv (.lst b)] =
  ((V 9 []).bind retPV).bind fun r =>
    (bif (Sh.bool).fits r then
      bif (!r.toBool) then
        some (.pv (.bool false), [])
      else ((V 10 [.pv (.lst a)]).bind retPV).bind fun r1 =>
        (bif (Sh.tup [Sh.lst, Sh.int .i64]).fits r1 then
          bif (((r1.r 1).toInt) != (0 : Int)) then
            some (.pv (.bool (((r1.r 0).toLst.length : Int) == (0 : Int))), [])
          else ((V 10 [.pv (.lst ((r1.r 0).toLst))]).bind retPV).bind fun r2 =>
            (bif (Sh.tup [Sh.lst, Sh.int .i64]).fits r2 then
              ((V 11 [.pv (.lst a), .pv (.lst ((r1.r 0).toLst))]).bind retPV).bind fun r3 =>
                (bif (Sh.tup [Sh.bool, Sh.int .i64]).fits r3 then
                  bif (((r2.r 1).toInt) != (0 : Int)) then
                    some (.pv (.bool false), [])
                  else bif (((r3.r 1).toInt) != (0 : Int)) then
                    some (.pv (.bool false), [])
                  else bif (!(r3.r 0).toBool) then
                    some (.pv (.bool false), [])
                  else bif decide (((r1.r 0).toLst.length : Int) > (a.length : Int)) then
                    some (.pv (.bool false), [])
                  else ((V 12 [.pv (.lst ((r1.r 0).toLst)), .pv (.lst ((r2.r 0).toLst))]).bind retPV).bind fun r4 =>
                    (bif (Sh.bool).fits r4 then
                      bif (!r4.toBool) then
                        some (.pv (.bool false), [])
                      else ((V 10 [.pv (.lst b)]).bind retPV).bind fun r5 =>
                        (bif (Sh.tup [Sh.lst, Sh.int .i64]).fits r5 then
                          ((V 11 [.pv (.lst a), .pv (.lst b)]).bind retPV).bind fun r6 =>
                            (bif (Sh.tup [Sh.bool, Sh.int .i64]).fits r6 then
                              bif (((r5.r 1).toInt) != (0 : Int)) then
                                some (.pv (.bool true), [])
                              else bif (((r6.r 1).toInt) != (0 : Int)) then
                                some (.pv (.bool true), [])
                              else ((V 12 [.pv (.lst ((r1.r 0).toLst)), .pv (.lst ((r5.r 0).toLst))]).bind retPV).bind fun r7 =>
                                (bif (Sh.bool).fits r7 then
                                  some (.pv (.bool ((r6.r 0).toBool == r7.toBool)), [])
                                else none)
                            else none)
                        else none)
                    else none)
                else none)
            else none)
        else none)
    else none) :=
  (V_eq pa rfl _).trans (by kernel_rfl)
/-! 10 roadstead/session.Least -/
def st10_11104 (l : List PV) (l2 : List PV) : AS :=
  ⟨[.pv (.lst l), .any, .any, .any, .any, .vec 0 0, .any, .any, .any, .any, .any, .any, .any, .any, .any, .any, .any, .any, .any, .any, .any, .any, .any, .any, .any, .any, .any, .any, .any, .any, .any, .any, .any, .any, .any, .any, .any, .any, .any, .any, .any, .any, .any, .any, .any, .any, .any, .any, .any, .any, .any, .any, .any, .any, .any, .any, .any, .any, .any, .any, .any, .any, .any], ⟨[], [some (0, 1, l2)], [], 0, 0⟩⟩
noncomputable def L10_11104 (l : List PV) (l2 : List PV) : Option Out := LV Pr T 10 [1, 1, 1, 0, 4] (st10_11104 l l2)
def st10_111045411014 (l : List PV) (i : Int) (i1 : Int) (l3 : List PV) (l1 : List PV) : AS :=
  ⟨[.pv (.lst l), .any, .any, .any, .any, .vec 0 0, .vec 1 0, .pv (.int .i64 i), .any, .any, .any, .any, .any, .any, .any, .any, .any, .any, .any, .any, .any, .any, .pv (.int .i64 (l.length : Int)), .pv (.int .i64 i1), .any, .any, .any, .any, .any, .any, .any, .any, .any, .any, .any, .any, .any, .any, .any, .any, .any, .any, .any, .any, .any, .any, .any, .any, .any, .any, .any, .any, .any, .any, .any, .any, .any, .any, .any, .any, .any, .any, .any], ⟨[], [some (0, 1, l3), some (0, 1, l1)], [], 0, 0⟩⟩
noncomputable def L10_111045411014 (l : List PV) (i : Int) (i1 : Int) (l3 : List PV) (l1 : List PV) : Option Out := LV Pr T 10 [1, 1, 1, 0, 4, 5, 4, 1, 1, 0, 1, 4] (st10_111045411014 l i i1 l3 l1)
def st10_1110454110145110411014 (l : List PV) (i2 : Int) (i3 : Int) (i : Int) (l4 : List PV) (l2 : List PV) : AS :=
  ⟨[.pv (.lst l), .any, .any, .any, .any, .vec 0 0, .vec 1 0, .pv (.int .i64 i2), .pv (.int .i64 i3), .any, .any, .any, .any, .any, .any, .any, .any, .any, .any, .any, .any, .any, .pv (.int .i64 (l.length : Int)), .pv (.int .i64 i3), .any, .any, .any, .any, .any, .any, .pv (.int .i64 i3), .pv (.int .i64 i), .any, .any, .any, .any, .any, .any, .any, .any, .any, .any, .any, .any, .any, .any, .any, .any, .any, .any, .any, .any, .any, .any, .any, .any, .any, .any, .any, .any, .any, .any, .any], ⟨[], [some (0, 1, l4), some (0, 1, l2)], [], 0, 0⟩⟩
noncomputable def L10_1110454110145110411014 (l : List PV) (i2 : Int) (i3 : Int) (i : Int) (l4 : List PV) (l2 : List PV) : Option Out := LV Pr T 10 [1, 1, 1, 0, 4, 5, 4, 1, 1, 0, 1, 4, 5, 1, 1, 0, 4, 1, 1, 0, 1, 4] (st10_1110454110145110411014 l i2 i3 i l4 l2)
def st10_111045411014511041116 (l : List PV) (i : Int) (i1 : Int) (l1 : List PV) (l3 : List PV) : AS :=
  ⟨[.pv (.lst l), .any, .any, .any, .any, .vec 0 0, .vec 1 0, .pv (.int .i64 i), .pv (.int .i64 i1), .any, .any, .any, .any, .any, .any, .any, .any, .any, .any, .any, .any, .any, .pv (.int .i64 (l.length : Int)), .pv (.int .i64 i1), .any, .any, .any, .any, .any, .any, .any, .any, .any, .any, .any, .any, .any, .any, .any, .any, .any, .any, .any, .any, .any, .any, .any, .any, .any, .any, .any, .any, .any, .any, .any, .any, .any, .any, .any, .any, .any, .any, .any], ⟨[], [some (0, 1, l1), some (0, 1, l3)], [], 0, 0⟩⟩
noncomputable def L10_111045411014511041116 (l : List PV) (i : Int) (i1 : Int) (l1 : List PV) (l3 : List PV) : Option Out := LV Pr T 10 [1, 1, 1, 0, 4, 5, 4, 1, 1, 0, 1, 4, 5, 1, 1, 0, 4, 1, 1, 1, 6] (st10_111045411014511041116 l i i1 l1 l3)
theorem e10 (l : List PV) : V 10 [.pv (.lst l)] =
  ((V 28 [.pv (.lst l)]).bind retPV).bind fun r =>
    (bif (Sh.int .i64).fits r then
      bif ((r.toInt) != (0 : Int)) then
        some (.pv (.tup [.lst [], .int .i64 r.toInt]), [])
      else bif (decide (0 ≤ (l.length : Int)) && decide ((l.length : Int) ≤ (l.length : Int)) && decide ((l.length : Int) ≤ 2147483648) && Nat.ble 8 65536 && Nat.blt 0 1) then
        L10_11104 l (List.replicate (l.length : Int).toNat (.int .i64 0) : List PV)
      else none
    else none) :=
  (V_eq pa rfl _).trans (by kernel_rfl)
theorem e10_11104 (l : List PV) (l2 : List PV) : L10_11104 l l2 =
  bif (decide (0 ≤ (l.length : Int)) && decide ((l.length : Int) ≤ (l.length : Int)) && decide ((l.length : Int) ≤ 2147483648) && Nat.ble 8 65536 && Nat.blt 0 1) then
    L10_111045411014 l 0 0 l2 (List.replicate (l.length : Int).toNat (.int .i64 0) : List PV)
  else none :=
  (LV_eq pa 10 _ _).trans (by kernel_rfl)
theorem e10_111045411014 (l : List PV) (i : Int) (i1 : Int) (l3 : List PV) (l1 : List PV) : L10_111045411014 l i i1 l3 l1 =
  bif decide (i1 < (l.length : Int)) then
    bif (decide (0 ≤ i1) && decide (i1 < (l1.length : Int))) then
      (l1[i1.toNat]?).bind fun z =>
        (bif (Nat.blt 0 z.cells.length && true) then
          L10_1110454110145110411014 l i i1 0 l3 (l1.set i1.toNat (z.setc 0 (.int .i64 i)))
        else none)
    else none
  else (V 30 [.pv (.lst l1), .pv (.lst l3)]).bind fun r =>
    ((retPV r).bind fun r1 =>
      (bif (Sh.bool).fits r1 then
        bif r1.toBool then
          (V 31 [.pv (.lst l), .pv (.lst l3)]).bind fun r2 =>
            ((retB 2 r2).bind fun l2 =>
              (some (.pv (.tup [.lst l2, .int .i64 0]), [])))
        else L10_11104 l l1
      else none)) :=
  (LV_eq pa 10 _ _).trans (by kernel_rfl)
theorem e10_1110454110145110411014 (l : List PV) (i2 : Int) (i3 : Int) (i : Int) (l4 : List PV) (l2 : List PV) : L10_1110454110145110411014 l i2 i3 i l4 l2 =
  bif decide (i < i3) then
    (V 29 [.pv (.lst l), .pv (.lst l4), .pv (.int .i64 i3), .pv (.int .i64 i)]).bind fun r =>
      ((retPV r).bind fun r1 =>
        (bif (Sh.bool).fits r1 then
          bif r1.toBool then
            bif (decide (0 ≤ i) && decide (i < (l2.length : Int))) then
              (l2[i.toNat]?).bind fun y =>
                (bif (Nat.blt 0 y.cells.length && (Sh.int .i64).fits (y.cl 0)) then
                  bif (decide (0 ≤ i3) && decide (i3 < (l2.length : Int))) then
                    (l2[i3.toNat]?).bind fun z =>
                      (bif (Nat.blt 0 z.cells.length && true) then
                        L10_111045411014511041116 l i2 i3 l4 (l2.set i3.toNat (z.setc 0 (.int .i64 ((y.cl 0).toInt))))
                      else none)
                  else none
                else none)
            else none
          else L10_1110454110145110411014 l i2 i3 (IntKind.i64.wrap (i + (1 : Int))) l4 l2
        else none))
  else L10_111045411014511041116 l i2 i3 l4 l2 :=
  (LV_eq pa 10 _ _).trans (by kernel_rfl)
theorem e10_111045411014511041116 (l : List PV) (i : Int) (i1 : Int) (l1 : List PV) (l3 : List PV) : L10_111045411014511041116 l i i1 l1 l3 =
  bif (decide (0 ≤ i1) && decide (i1 < (l3.length : Int))) then
    (l3[i1.toNat]?).bind fun y =>
      (bif (Nat.blt 0 y.cells.length && (Sh.int .i64).fits (y.cl 0)) then
        bif (((y.cl 0).toInt) == i) then
          L10_111045411014 l (IntKind.i64.wrap (i + (1 : Int))) (IntKind.i64.wrap (i1 + (1 : Int))) l1 l3
        else L10_111045411014 l i (IntKind.i64.wrap (i1 + (1 : Int))) l1 l3
      else none)
  else none :=
  (LV_eq pa 10 _ _).trans (by kernel_rfl)
/-! 12 roadstead/roadkeep2.sameSession -/
theorem e12 (a : List PV) (b : List PV) : V 12 [.pv (.lst a), .pv (.lst b)] =
  ((V 33 [.pv (.lst a), .pv (.lst b), .pv (.fn 34 [])]).bind retPV).bind fun r =>
    (bif (Sh.bool).fits r then
      some (.pv (.bool r.toBool), [])
    else none) :=
  (V_eq pa rfl _).trans (by kernel_rfl)
/-! 29 roadstead/session.alike -/
theorem e29 (l : List PV) (class_ : List PV) (i : Int) (k : Int) : V 29 [.pv (.lst l), .pv (.lst class_), .pv (.int .i64 i), .pv (.int .i64 k)] =
  bif decide (0 ≤ i) then
    (l[i.toNat]?).bind fun x =>
      (bif (Sh.agg [Sh.int .i64, Sh.lst]).fits x then
        bif decide (0 ≤ k) then
          (l[k.toNat]?).bind fun x1 =>
            (bif (Sh.agg [Sh.int .i64, Sh.lst]).fits x1 then
              bif decide (0 ≤ i) then
                (class_[i.toNat]?).bind fun x2 =>
                  (bif (Sh.int .i64).fits x2 then
                    bif decide (0 ≤ k) then
                      (class_[k.toNat]?).bind fun x3 =>
                        (bif (Sh.int .i64).fits x3 then
                          bif ((x2.toInt) == (x3.toInt)) then
                            bif (((x.c 0).toInt) == ((x1.c 0).toInt)) then
                              ((V 71 [.pv (.lst ((x.c 1).toLst)), .pv (.lst ((x1.c 1).toLst)), .pv (.fn 72 [.ptr [.lst class_]])]).bind retPV).bind fun r =>
                                (bif (Sh.bool).fits r then
                                  some (.pv (.bool r.toBool), [])
                                else none)
                            else some (.pv (.bool false), [])
                          else some (.pv (.bool false), [])
                        else none)
                    else none
                  else none)
              else none
            else none)
        else none
      else none)
  else none :=
  (V_eq pa rfl _).trans (by kernel_rfl)
/-! 30 slices.Equal[[]int,int] -/
def st30_11014 (s1 : List PV) (s2 : List PV) (i : Int) : AS :=
  ⟨[.pv (.lst s1), .pv (.lst s2), .any, .any, .any, .any, .any, .any, .any, .any, .any, .any, .pv (.int .i64 (s1.length : Int)), .pv (.int .i64 i), .any, .any, .any, .any, .any, .any, .any, .any, .any, .any, .any, .any], ⟨[], [], [], 0, 0⟩⟩
noncomputable def L30_11014 (s1 : List PV) (s2 : List PV) (i : Int) : Option Out := LV Pr T 30 [1, 1, 0, 1, 4] (st30_11014 s1 s2 i)
theorem e30 (s1 : List PV) (s2 : List PV) : V 30 [.pv (.lst s1), .pv (.lst s2)] =
  bif ((s1.length : Int) != (s2.length : Int)) then
    some (.pv (.bool false), [])
  else L30_11014 s1 s2 0 :=
  (V_eq pa rfl _).trans (by kernel_rfl)
theorem e30_11014 (s1 : List PV) (s2 : List PV) (i : Int) : L30_11014 s1 s2 i =
  bif decide (i < (s1.length : Int)) then
    bif decide (0 ≤ i) then
      (s1[i.toNat]?).bind fun x =>
        (bif (Sh.int .i64).fits x then
          bif decide (0 ≤ i) then
            (s2[i.toNat]?).bind fun x1 =>
              (bif (Sh.int .i64).fits x1 then
                bif ((x.toInt) != (x1.toInt)) then
                  some (.pv (.bool false), [])
                else L30_11014 s1 s2 (IntKind.i64.wrap (i + (1 : Int)))
              else none)
          else none
        else none)
    else none
  else some (.pv (.bool true), []) :=
  (LV_eq pa 30 _ _).trans (by kernel_rfl)
/-! 31 roadstead/session.numbered -/
def st31_1111014 (l : List PV) (class_ : List PV) (l3 : List PV) (l1 : List PV) (i : Int) (m : List (PV × PV)) : AS :=
  ⟨[.pv (.lst l), .pv (.lst class_), .any, .any, .any, .mp 0, .bld 0 0 l3, .bld 1 0 l1, .pv (.int .i64 i), .any, .any, .any, .any, .any, .any, .any, .any, .any, .any, .any, .any, .any, .any, .any, .any, .any, .any, .any, .any, .any, .any, .any, .any, .any, .any, .any, .any, .any, .any, .any, .any, .any, .any, .any, .any, .any, .any, .any, .any, .any, .any, .any, .any, .any, .any, .any, .any, .any, .any, .any, .any, .any, .any, .any, .any, .any, .any, .any, .any, .any, .any, .any, .any, .any, .any, .any, .any, .any, .any, .any, .any, .any, .any, .any, .any, .any, .any, .any], ⟨[(false, [.ment m])], [], [(0, 1), (0, 2)], 0, 0⟩⟩
noncomputable def L31_1111014 (l : List PV) (class_ : List PV) (l3 : List PV) (l1 : List PV) (i : Int) (m : List (PV × PV)) : Option Out := LV Pr T 31 [1, 1, 1, 1, 0, 1, 4] (st31_1111014 l class_ l3 l1 i m)
def st31_111101451041014 (l : List PV) (class_ : List PV) (l4 : List PV) (l2 : List PV) (i1 : Int) (v : List PV) (i2 : Int) (m : List (PV × PV)) (v1 : Int) (l5 : List PV) : AS :=
  ⟨[.pv (.lst l), .pv (.lst class_), .any, .any, .any, .mp 0, .bld 0 0 l4, .bld 1 0 l2, .pv (.int .i64 i1), .box 1 0, .any, .any, .any, .any, .any, .any, .any, .any, .any, .any, .any, .any, .any, .any, .any, .any, .any, .any, .any, .any, .any, .any, .any, .any, .any, .any, .any, .any, .any, .any, .any, .any, .any, .pv (.lst v), .pv (.int .i64 (v.length : Int)), .pv (.int .i64 i2), .any, .any, .any, .any, .any, .any, .any, .any, .any, .any, .any, .any, .any, .any, .any, .any, .any, .any, .any, .any, .any, .any, .any, .any, .any, .any, .any, .any, .any, .any, .any, .any, .any, .any, .any, .any, .any, .any, .any, .any, .any, .any], ⟨[(false, [.ment m]), (false, [.pv (.int .i64 v1), .bld 2 0 l5])], [], [(0, 1), (0, 2), (0, 2)], 0, 0⟩⟩
noncomputable def L31_111101451041014 (l : List PV) (class_ : List PV) (l4 : List PV) (l2 : List PV) (i1 : Int) (v : List PV) (i2 : Int) (m : List (PV × PV)) (v1 : Int) (l5 : List PV) : Option Out := LV Pr T 31 [1, 1, 1, 1, 0, 1, 4, 5, 1, 0, 4, 1, 0, 1, 4] (st31_111101451041014 l class_ l4 l2 i1 v i2 m v1 l5)
def st31_111101451041014511041116 (l : List PV) (class_ : List PV) (l1 : List PV) (l3 : List PV) (i : Int) (v3 : Int) (v : List PV) (i3 : Int) (m1 : List (PV × PV)) (v1 : Int) (l6 : List PV) (v4 : Int) (v2 : Int) : AS :=
  ⟨[.pv (.lst l), .pv (.lst class_), .any, .any, .any, .mp 0, .bld 0 0 l1, .bld 1 0 l3, .pv (.int .i64 i), .box 1 0, .any, .box 2 0, .pv (.int .i64 v3), .any, .any, .any, .any, .any, .any, .any, .any, .any, .any, .any, .any, .any, .any, .any, .any, .any, .any, .any, .any, .any, .any, .any, .any, .any, .any, .any, .any, .any, .any, .pv (.lst v), .pv (.int .i64 (v.length : Int)), .pv (.int .i64 i3), .any, .any, .any, .any, .any, .any, .any, .any, .any, .any, .any, .any, .any, .any, .any, .any, .any, .any, .any, .any, .any, .any, .any, .any, .any, .any, .any, .any, .any, .any, .any, .any, .any, .any, .any, .any, .any, .any, .any, .any, .any, .any], ⟨[(false, [.ment m1]), (false, [.pv (.int .i64 v1), .bld 2 0 l6]), (false, [.pv (.int .i64 v4), .pv (.int .i64 v2)])], [], [(0, 1), (0, 2), (0, 2)], 0, 0⟩⟩
noncomputable def L31_111101451041014511041116 (l : List PV) (class_ : List PV) (l1 : List PV) (l3 : List PV) (i : Int) (v3 : Int) (v : List PV) (i3 : Int) (m1 : List (PV × PV)) (v1 : Int) (l6 : List PV) (v4 : Int) (v2 : Int) : Option Out := LV Pr T 31 [1, 1, 1, 1, 0, 1, 4, 5, 1, 0, 4, 1, 0, 1, 4, 5, 1, 1, 0, 4, 1, 1, 1, 6] (st31_111101451041014511041116 l class_ l1 l3 i v3 v i3 m1 v1 l6 v4 v2)
theorem e31 (l : List PV) (class_ : List PV) : V 31 [.pv (.lst l), .pv (.lst class_)] =
  (class_[(0 : Int).toNat]?).bind fun x =>
    (bif (Sh.int .i64).fits x then
      (mset (.one .int) ([] : List (PV × PV)) (.int .i64 x.toInt) (.int .i64 0)).bind fun m =>
        (L31_1111014 l class_ [.int .i64 0] [] 0 m)
    else none) :=
  (V_eq pa rfl _).trans (by kernel_rfl)
theorem e31_1111014 (l : List PV) (class_ : List PV) (l3 : List PV) (l1 : List PV) (i : Int) (m : List (PV × PV)) : L31_1111014 l class_ l3 l1 i m =
  bif decide (i < (l3.length : Int)) then
    bif decide (0 ≤ i) then
      (l3[i.toNat]?).bind fun x =>
        (bif (Sh.int .i64).fits x then
          bif decide (0 ≤ (x.toInt)) then
            (l[(x.toInt).toNat]?).bind fun x1 =>
              (bif (Sh.agg [Sh.int .i64, Sh.lst]).fits x1 then
                bif decide (0 ≤ i) then
                  (l3[i.toNat]?).bind fun x2 =>
                    (bif (Sh.int .i64).fits x2 then
                      bif decide (0 ≤ (x2.toInt)) then
                        (l[(x2.toInt).toNat]?).bind fun x3 =>
                          (bif (Sh.agg [Sh.int .i64, Sh.lst]).fits x3 then
                            L31_111101451041014 l class_ l3 l1 i ((x3.c 1).toLst) 0 m ((x1.c 0).toInt) []
                          else none)
                      else none
                    else none)
                else none
              else none)
          else none
        else none)
    else none
  else some (.bld 2 l1, []) :=
  (LV_eq pa 31 _ _).trans (by kernel_rfl)
theorem e31_111101451041014 (l : List PV) (class_ : List PV) (l4 : List PV) (l2 : List PV) (i1 : Int) (v : List PV) (i2 : Int) (m : List (PV × PV)) (v1 : Int) (l5 : List PV) : L31_111101451041014 l class_ l4 l2 i1 v i2 m v1 l5 =
  bif decide (i2 < (v.length : Int)) then
    bif decide (0 ≤ i2) then
      (v[i2.toNat]?).bind fun x =>
        (bif (Sh.agg [Sh.int .i64, Sh.int .i64]).fits x then
          bif decide (0 ≤ ((x.c 1).toInt)) then
            (class_[((x.c 1).toInt).toNat]?).bind fun x1 =>
              (bif (Sh.int .i64).fits x1 then
                (mget (.one .int) m (.int .i64 x1.toInt)).bind fun o =>
                  (bif (Sh.int .i64).fits (o.getD (.int .i64 0)) then
                    bif (!o.isSome) then
                      (mset (.one .int) m (.int .i64 x1.toInt) (.int .i64 (l4.length : Int))).bind fun m1 =>
                        (bif small (l4.length) 1 8 then
                          L31_111101451041014511041116 l class_ (l4 ++ [.int .i64 ((x.c 1).toInt)]) l2 i1 x1.toInt v i2 m1 v1 l5 ((x.c 0).toInt) ((x.c 1).toInt)
                        else none)
                    else L31_111101451041014511041116 l class_ l4 l2 i1 x1.toInt v i2 m v1 l5 ((x.c 0).toInt) ((x.c 1).toInt)
                  else none)
              else none)
          else none
        else none)
    else none
  else bif small (l2.length) 1 32 then
    L31_1111014 l class_ l4 (l2 ++ [.agg [.int .i64 v1, .lst l5]]) (IntKind.i64.wrap (i1 + (1 : Int))) m
  else none :=
  (LV_eq pa 31 _ _).trans (by kernel_rfl)
theorem e31_111101451041014511041116 (l : List PV) (class_ : List PV) (l1 : List PV) (l3 : List PV) (i : Int) (v3 : Int) (v : List PV) (i3 : Int) (m1 : List (PV × PV)) (v1 : Int) (l6 : List PV) (v4 : Int) (v2 : Int) : L31_111101451041014511041116 l class_ l1 l3 i v3 v i3 m1 v1 l6 v4 v2 =
  (mget (.one .int) m1 (.int .i64 v3)).bind fun o =>
    (bif (Sh.int .i64).fits (o.getD (.int .i64 0)) then
      bif small (l6.length) 1 16 then
        L31_111101451041014 l class_ l1 l3 i v (IntKind.i64.wrap (i3 + (1 : Int))) m1 v1 (l6 ++ [.agg [.int .i64 v4, .int .i64 ((o.getD (.int .i64 0)).toInt)]])
      else none
    else none) :=
  (LV_eq pa 31 _ _).trans (by kernel_rfl)
/-! 33 slices.EqualFunc[[]roadstead/session.State,[]roadstead/session.State,roadstead/session.State,roadstead/session.State] -/
def st33_11014 (s2 : List PV) (eq_f : FuncId) (eq_c : List PV) (s1 : List PV) (i : Int) : AS :=
  ⟨[.any, .pv (.lst s2), .pv (.fn eq_f eq_c), .any, .any, .any, .any, .any, .any, .any, .any, .any, .any, .any, .any, .pv (.lst s1), .pv (.int .i64 (s1.length : Int)), .pv (.int .i64 i), .any, .any, .any, .any, .any, .any, .any, .any, .any, .any, .any, .any, .any, .any], ⟨[], [], [], 0, 0⟩⟩
noncomputable def L33_11014 (s2 : List PV) (eq_f : FuncId) (eq_c : List PV) (s1 : List PV) (i : Int) : Option Out := LV Pr T 33 [1, 1, 0, 1, 4] (st33_11014 s2 eq_f eq_c s1 i)
theorem e33 (s1 : List PV) (s2 : List PV) (eq_f : FuncId) (eq_c : List PV) : V 33 [.pv (.lst s1), .pv (.lst s2), .pv (.fn eq_f eq_c)] =
  bif ((s1.length : Int) != (s2.length : Int)) then
    some (.pv (.bool false), [])
  else L33_11014 s2 eq_f eq_c s1 0 :=
  (V_eq pa rfl _).trans (by kernel_rfl)
theorem e33_11014 (s2 : List PV) (eq_f : FuncId) (eq_c : List PV) (s1 : List PV) (i : Int) : L33_11014 s2 eq_f eq_c s1 i =
  bif decide (i < (s1.length : Int)) then
    bif decide (0 ≤ i) then
      (s1[i.toNat]?).bind fun x =>
        (bif (Sh.agg [Sh.int .i64, Sh.lst]).fits x then
          bif decide (0 ≤ i) then
            (s2[i.toNat]?).bind fun x1 =>
              (bif (Sh.agg [Sh.int .i64, Sh.lst]).fits x1 then
                ((V eq_f ((([.agg [.int .i64 ((x.c 0).toInt), .lst ((x.c 1).toLst)], .agg [.int .i64 ((x1.c 0).toInt), .lst ((x1.c 1).toLst)]] : List PV) ++ eq_c).map .pv)).bind retPV).bind fun r =>
                  (bif (Sh.bool).fits r then
                    bif (!r.toBool) then
                      some (.pv (.bool false), [])
                    else L33_11014 s2 eq_f eq_c s1 (IntKind.i64.wrap (i + (1 : Int)))
                  else none)
              else none)
          else none
        else none)
    else none
  else some (.pv (.bool true), []) :=
  (LV_eq pa 33 _ _).trans (by kernel_rfl)
/-! 34 roadstead/roadkeep2.sameSession$1 -/
theorem e34 (x_Kind : Int) (x_Branches : List PV) (y_Kind : Int) (y_Branches : List PV) : V 34 [.pv (.agg [.int .i64 x_Kind, .lst x_Branches]), .pv (.agg [.int .i64 y_Kind, .lst y_Branches])] =
  bif (x_Kind == y_Kind) then
    ((V 35 [.pv (.lst x_Branches), .pv (.lst y_Branches)]).bind retPV).bind fun r =>
      (bif (Sh.bool).fits r then
        some (.pv (.bool r.toBool), [])
      else none)
  else some (.pv (.bool false), []) :=
  (V_eq pa rfl _).trans (by kernel_rfl)
/-! 35 slices.Equal[[]roadstead/session.Branch,roadstead/session.Branch] -/
def st35_11014 (s1 : List PV) (s2 : List PV) (i : Int) : AS :=
  ⟨[.pv (.lst s1), .pv (.lst s2), .any, .any, .any, .any, .any, .any, .any, .any, .any, .any, .pv (.int .i64 (s1.length : Int)), .pv (.int .i64 i), .any, .any, .any, .any, .any, .any, .any, .any, .any, .any, .any, .any], ⟨[], [], [], 0, 0⟩⟩
noncomputable def L35_11014 (s1 : List PV) (s2 : List PV) (i : Int) : Option Out := LV Pr T 35 [1, 1, 0, 1, 4] (st35_11014 s1 s2 i)
theorem e35 (s1 : List PV) (s2 : List PV) : V 35 [.pv (.lst s1), .pv (.lst s2)] =
  bif ((s1.length : Int) != (s2.length : Int)) then
    some (.pv (.bool false), [])
  else L35_11014 s1 s2 0 :=
  (V_eq pa rfl _).trans (by kernel_rfl)
theorem e35_11014 (s1 : List PV) (s2 : List PV) (i : Int) : L35_11014 s1 s2 i =
  bif decide (i < (s1.length : Int)) then
    bif decide (0 ≤ i) then
      (s1[i.toNat]?).bind fun x =>
        (bif (Sh.agg [Sh.int .i64, Sh.int .i64]).fits x then
          bif decide (0 ≤ i) then
            (s2[i.toNat]?).bind fun x1 =>
              (bif (Sh.agg [Sh.int .i64, Sh.int .i64]).fits x1 then
                bif (!((((x.c 0).toInt) == ((x1.c 0).toInt)) && ((((x.c 1).toInt) == ((x1.c 1).toInt)) && true))) then
                  some (.pv (.bool false), [])
                else L35_11014 s1 s2 (IntKind.i64.wrap (i + (1 : Int)))
              else none)
          else none
        else none)
    else none
  else some (.pv (.bool true), []) :=
  (LV_eq pa 35 _ _).trans (by kernel_rfl)
/-! 71 slices.EqualFunc[[]roadstead/session.Branch,[]roadstead/session.Branch,roadstead/session.Branch,roadstead/session.Branch] -/
def st71_11014 (s2 : List PV) (eq_f : FuncId) (eq_c : List PV) (s1 : List PV) (i : Int) : AS :=
  ⟨[.any, .pv (.lst s2), .pv (.fn eq_f eq_c), .any, .any, .any, .any, .any, .any, .any, .any, .any, .any, .any, .any, .pv (.lst s1), .pv (.int .i64 (s1.length : Int)), .pv (.int .i64 i), .any, .any, .any, .any, .any, .any, .any, .any, .any, .any, .any, .any, .any, .any], ⟨[], [], [], 0, 0⟩⟩
noncomputable def L71_11014 (s2 : List PV) (eq_f : FuncId) (eq_c : List PV) (s1 : List PV) (i : Int) : Option Out := LV Pr T 71 [1, 1, 0, 1, 4] (st71_11014 s2 eq_f eq_c s1 i)
theorem e71 (s1 : List PV) (s2 : List PV) (eq_f : FuncId) (eq_c : List PV) : V 71 [.pv (.lst s1), .pv (.lst s2), .pv (.fn eq_f eq_c)] =
  bif ((s1.length : Int) != (s2.length : Int)) then
    some (.pv (.bool false), [])
  else L71_11014 s2 eq_f eq_c s1 0 :=
  (V_eq pa rfl _).trans (by kernel_rfl)
theorem e71_11014 (s2 : List PV) (eq_f : FuncId) (eq_c : List PV) (s1 : List PV) (i : Int) : L71_11014 s2 eq_f eq_c s1 i =
  bif decide (i < (s1.length : Int)) then
    bif decide (0 ≤ i) then
      (s1[i.toNat]?).bind fun x =>
        (bif (Sh.agg [Sh.int .i64, Sh.int .i64]).fits x then
          bif decide (0 ≤ i) then
            (s2[i.toNat]?).bind fun x1 =>
              (bif (Sh.agg [Sh.int .i64, Sh.int .i64]).fits x1 then
                ((V eq_f ((([.agg [.int .i64 ((x.c 0).toInt), .int .i64 ((x.c 1).toInt)], .agg [.int .i64 ((x1.c 0).toInt), .int .i64 ((x1.c 1).toInt)]] : List PV) ++ eq_c).map .pv)).bind retPV).bind fun r =>
                  (bif (Sh.bool).fits r then
                    bif (!r.toBool) then
                      some (.pv (.bool false), [])
                    else L71_11014 s2 eq_f eq_c s1 (IntKind.i64.wrap (i + (1 : Int)))
                  else none)
              else none)
          else none
        else none)
    else none
  else some (.pv (.bool true), []) :=
  (LV_eq pa 71 _ _).trans (by kernel_rfl)
/-! 72 roadstead/session.alike$1 -/
theorem e72 (a_Msg : Int) (a_Next : Int) (b_Msg : Int) (b_Next : Int) (c0 : List PV) : V 72 [.pv (.agg [.int .i64 a_Msg, .int .i64 a_Next]), .pv (.agg [.int .i64 b_Msg, .int .i64 b_Next]), .pv (.ptr [.lst c0])] =
  bif (a_Msg == b_Msg) then
    bif decide (0 ≤ a_Next) then
      (c0[a_Next.toNat]?).bind fun x =>
        (bif (Sh.int .i64).fits x then
          bif decide (0 ≤ b_Next) then
            (c0[b_Next.toNat]?).bind fun x1 =>
              (bif (Sh.int .i64).fits x1 then
                some (.pv (.bool ((x.toInt) == (x1.toInt))), [])
              else none)
          else none
        else none)
    else none
  else some (.pv (.bool false), []) :=
  (V_eq pa rfl _).trans (by kernel_rfl)
end Go.AL.S2
