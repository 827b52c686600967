/- Equations of functions in the abstract machine: printed by gen.py. -/
import Derived.Test.YtlmodlihiglnhaaDoorS8T
set_option linter.unusedVariables false
set_option maxRecDepth 100000
namespace Go.AL.S8
open Go Go.AL
/-! 6 roadstead/roadkeep2.TokenBack -/
def st6_11111014 (v : List PV) (l : List PV) (i : Int) : AS :=
  ⟨[.any, .any, .any, .pv (.lst v), .any, .any, .bld 0 0 l, .any, .any, .any, .any, .any, .any, .any, .any, .any, .any, .any, .any, .any, .any, .any, .any, .any, .any, .any, .any, .any, .any, .pv (.lst v), .pv (.int .i64 (v.length : Int)), .pv (.int .i64 i), .any, .any, .any, .any, .any, .any, .any, .any, .any, .any, .any, .any, .any, .any, .any, .any, .any, .any, .any, .any, .any, .any, .any, .any, .any, .any, .any, .any, .any, .any, .any, .any, .any, .any, .any, .any, .any, .any, .any, .any, .any, .any, .any, .any, .any, .any, .any, .any, .any, .any, .any, .any, .any, .any, .any, .any, .any, .any, .any, .any, .any, .any, .any, .any, .any, .any, .any], ⟨[], [], [(0, 1)], 0, 0⟩⟩
noncomputable def L6_11111014 (v : List PV) (l : List PV) (i : Int) : Option Out := LV Pr T 6 [1, 1, 1, 1, 1, 0, 1, 4] (st6_11111014 v l i)
def st6_1111111111014 (v : List PV) (v1 : List PV) (i : Int) : AS :=
  ⟨[.any, .any, .any, .pv (.lst v), .any, .any, .any, .any, .any, .any, .any, .any, .pv (.lst v1), .any, .any, .any, .any, .any, .any, .any, .any, .any, .any, .any, .any, .any, .any, .any, .any, .any, .any, .any, .any, .any, .any, .any, .any, .any, .any, .any, .any, .any, .any, .any, .any, .any, .any, .any, .any, .any, .any, .any, .any, .any, .any, .any, .any, .any, .any, .any, .any, .any, .any, .any, .any, .any, .any, .any, .any, .any, .pv (.int .i64 (v.length : Int)), .pv (.int .i64 i), .any, .any, .any, .any, .any, .any, .any, .any, .any, .any, .any, .any, .any, .any, .any, .any, .any, .any, .any, .any, .any, .any, .any, .any, .any, .any, .any], ⟨[], [], [], 0, 0⟩⟩
noncomputable def L6_1111111111014 (v : List PV) (v1 : List PV) (i : Int) : Option Out := LV Pr T 6 [1, 1, 1, 1, 1, 1, 1, 1, 1, 1, 0, 1, 4] (st6_1111111111014 v v1 i)
theorem f6 (s : List UInt8) (cl_ : FuncId → List Arg → Option Out) (lp_ : List Nat → AS → Option Out) : runW Pr T cl_ lp_ 6 [.pv (.str s)] =
  ((cl_ 18 []).bind retPV).bind fun r =>
    (bif (Sh.bool).fits r then
      bif (!r.toBool) then
        some (.pv (.bool false), [])
      else ((cl_ 20 [.pv (.str s)]).bind retPV).bind fun r1 =>
        (bif (Sh.tup [Sh.lst, Sh.int .i64, Sh.int .i64]).fits r1 then
          bif (((r1.r 2).toInt) != (0 : Int)) then
            some (.pv (.bool (((r1.r 0).toLst.length : Int) == (0 : Int))), [])
          else lp_ [1, 1, 1, 1, 1, 0, 1, 4] (st6_11111014 ((r1.r 0).toLst) [] 0)
        else none)
    else none) := by kernel_rfl
theorem e6 (s : List UInt8) : V 6 [.pv (.str s)] =
  ((V 18 []).bind retPV).bind fun r =>
    (bif (Sh.bool).fits r then
      bif (!r.toBool) then
        some (.pv (.bool false), [])
      else ((V 20 [.pv (.str s)]).bind retPV).bind fun r1 =>
        (bif (Sh.tup [Sh.lst, Sh.int .i64, Sh.int .i64]).fits r1 then
          bif (((r1.r 2).toInt) != (0 : Int)) then
            some (.pv (.bool (((r1.r 0).toLst.length : Int) == (0 : Int))), [])
          else L6_11111014 ((r1.r 0).toLst) [] 0
        else none)
    else none) :=
  (V_eq pa rfl _).trans (f6 s V (LV Pr T 6))
theorem f6_11111014 (v : List PV) (l : List PV) (i : Int) (cl_ : FuncId → List Arg → Option Out) (lp_ : List Nat → AS → Option Out) : stepW Pr T cl_ lp_ 6 [1, 1, 1, 1, 1, 0, 1, 4] (st6_11111014 v l i) =
  bif decide (i < (v.length : Int)) then
    bif decide (0 ≤ i) then
      (v[i.toNat]?).bind fun x =>
        (bif (Sh.agg [Sh.int .i64, Sh.str, Sh.int .i64]).fits x then
          ((cl_ 21 [.pv (.agg [.int .i64 ((x.c 0).toInt), .str ((x.c 1).toStr), .int .i64 ((x.c 2).toInt)])]).bind retPV).bind fun r =>
            (bif (Sh.tup [Sh.str, Sh.int .i64]).fits r then
              bif (((r.r 1).toInt) != (0 : Int)) then
                some (.pv (.bool false), [])
              else bif small (l.length) 1 16 then
                lp_ [1, 1, 1, 1, 1, 0, 1, 4] (st6_11111014 v (l ++ ([.str ((r.r 0).toStr)] : List PV)) (IntKind.i64.wrap (i + (1 : Int))))
              else none
            else none)
        else none)
    else none
  else ((cl_ 22 [.pv (.lst l), .pv (.str [32])]).bind retPV).bind fun r1 =>
    (bif (Sh.str).fits r1 then
      ((cl_ 20 [.pv (.str r1.toStr)]).bind retPV).bind fun r2 =>
        (bif (Sh.tup [Sh.lst, Sh.int .i64, Sh.int .i64]).fits r2 then
          bif decide ((r1.toStr.length : Int) > (4000 : Int)) then
            some (.pv (.bool (((r2.r 2).toInt) == (2 : Int))), [])
          else bif (((r2.r 2).toInt) != (0 : Int)) then
            some (.pv (.bool false), [])
          else bif (((r2.r 0).toLst.length : Int) != (v.length : Int)) then
            some (.pv (.bool false), [])
          else lp_ [1, 1, 1, 1, 1, 1, 1, 1, 1, 1, 0, 1, 4] (st6_1111111111014 v ((r2.r 0).toLst) 0)
        else none)
    else none) := by kernel_rfl
theorem e6_11111014 (v : List PV) (l : List PV) (i : Int) : L6_11111014 v l i =
  bif decide (i < (v.length : Int)) then
    bif decide (0 ≤ i) then
      (v[i.toNat]?).bind fun x =>
        (bif (Sh.agg [Sh.int .i64, Sh.str, Sh.int .i64]).fits x then
          ((V 21 [.pv (.agg [.int .i64 ((x.c 0).toInt), .str ((x.c 1).toStr), .int .i64 ((x.c 2).toInt)])]).bind retPV).bind fun r =>
            (bif (Sh.tup [Sh.str, Sh.int .i64]).fits r then
              bif (((r.r 1).toInt) != (0 : Int)) then
                some (.pv (.bool false), [])
              else bif small (l.length) 1 16 then
                L6_11111014 v (l ++ ([.str ((r.r 0).toStr)] : List PV)) (IntKind.i64.wrap (i + (1 : Int)))
              else none
            else none)
        else none)
    else none
  else ((V 22 [.pv (.lst l), .pv (.str [32])]).bind retPV).bind fun r1 =>
    (bif (Sh.str).fits r1 then
      ((V 20 [.pv (.str r1.toStr)]).bind retPV).bind fun r2 =>
        (bif (Sh.tup [Sh.lst, Sh.int .i64, Sh.int .i64]).fits r2 then
          bif decide ((r1.toStr.length : Int) > (4000 : Int)) then
            some (.pv (.bool (((r2.r 2).toInt) == (2 : Int))), [])
          else bif (((r2.r 2).toInt) != (0 : Int)) then
            some (.pv (.bool false), [])
          else bif (((r2.r 0).toLst.length : Int) != (v.length : Int)) then
            some (.pv (.bool false), [])
          else L6_1111111111014 v ((r2.r 0).toLst) 0
        else none)
    else none) :=
  (LV_eq pa 6 _ _).trans (f6_11111014 v l i V (LV Pr T 6))
theorem f6_1111111111014 (v : List PV) (v1 : List PV) (i : Int) (cl_ : FuncId → List Arg → Option Out) (lp_ : List Nat → AS → Option Out) : stepW Pr T cl_ lp_ 6 [1, 1, 1, 1, 1, 1, 1, 1, 1, 1, 0, 1, 4] (st6_1111111111014 v v1 i) =
  bif decide (i < (v.length : Int)) then
    bif decide (0 ≤ i) then
      (v[i.toNat]?).bind fun x =>
        (bif (Sh.agg [Sh.int .i64, Sh.str, Sh.int .i64]).fits x then
          bif decide (0 ≤ i) then
            (v1[i.toNat]?).bind fun x1 =>
              (bif (Sh.agg [Sh.int .i64, Sh.str, Sh.int .i64]).fits x1 then
                bif (((x.c 0).toInt) != ((x1.c 0).toInt)) then
                  some (.pv (.bool false), [])
                else bif decide (0 ≤ i) then
                  (v[i.toNat]?).bind fun x2 =>
                    (bif (Sh.agg [Sh.int .i64, Sh.str, Sh.int .i64]).fits x2 then
                      bif decide (0 ≤ i) then
                        (v1[i.toNat]?).bind fun x3 =>
                          (bif (Sh.agg [Sh.int .i64, Sh.str, Sh.int .i64]).fits x3 then
                            bif (!((x2.c 1).toStr == (x3.c 1).toStr)) then
                              some (.pv (.bool false), [])
                            else lp_ [1, 1, 1, 1, 1, 1, 1, 1, 1, 1, 0, 1, 4] (st6_1111111111014 v v1 (IntKind.i64.wrap (i + (1 : Int))))
                          else none)
                      else none
                    else none)
                else none
              else none)
          else none
        else none)
    else none
  else some (.pv (.bool true), []) := by kernel_rfl
theorem e6_1111111111014 (v : List PV) (v1 : List PV) (i : Int) : L6_1111111111014 v v1 i =
  bif decide (i < (v.length : Int)) then
    bif decide (0 ≤ i) then
      (v[i.toNat]?).bind fun x =>
        (bif (Sh.agg [Sh.int .i64, Sh.str, Sh.int .i64]).fits x then
          bif decide (0 ≤ i) then
            (v1[i.toNat]?).bind fun x1 =>
              (bif (Sh.agg [Sh.int .i64, Sh.str, Sh.int .i64]).fits x1 then
                bif (((x.c 0).toInt) != ((x1.c 0).toInt)) then
                  some (.pv (.bool false), [])
                else bif decide (0 ≤ i) then
                  (v[i.toNat]?).bind fun x2 =>
                    (bif (Sh.agg [Sh.int .i64, Sh.str, Sh.int .i64]).fits x2 then
                      bif decide (0 ≤ i) then
                        (v1[i.toNat]?).bind fun x3 =>
                          (bif (Sh.agg [Sh.int .i64, Sh.str, Sh.int .i64]).fits x3 then
                            bif (!((x2.c 1).toStr == (x3.c 1).toStr)) then
                              some (.pv (.bool false), [])
                            else L6_1111111111014 v v1 (IntKind.i64.wrap (i + (1 : Int)))
                          else none)
                      else none
                    else none)
                else none
              else none)
          else none
        else none)
    else none
  else some (.pv (.bool true), []) :=
  (LV_eq pa 6 _ _).trans (f6_1111111111014 v v1 i V (LV Pr T 6))
/-! 18 roadstead/roadkeep2.tokens -/
theorem f18  (cl_ : FuncId → List Arg → Option Out) (lp_ : List Nat → AS → Option Out) : runW Pr T cl_ lp_ 18 [] =
  ((cl_ 20 [.pv (.str [108, 101, 116, 32, 120, 32, 35, 32, 121])]).bind retPV).bind fun r =>
    (bif (Sh.tup [Sh.lst, Sh.int .i64, Sh.int .i64]).fits r then
      bif (((r.r 2).toInt) == (0 : Int)) then
        bif (((r.r 0).toLst.length : Int) == (2 : Int)) then
          ((r.r 0).toLst[(0 : Int).toNat]?).bind fun x =>
            (bif (Sh.agg [Sh.int .i64, Sh.str, Sh.int .i64]).fits x then
              bif ((x.c 1).toStr == ([108, 101, 116] : List UInt8)) then
                ((r.r 0).toLst[(1 : Int).toNat]?).bind fun x1 =>
                  (bif (Sh.agg [Sh.int .i64, Sh.str, Sh.int .i64]).fits x1 then
                    some (.pv (.bool ((x1.c 1).toStr == ([120] : List UInt8))), [])
                  else none)
              else some (.pv (.bool false), [])
            else none)
        else some (.pv (.bool false), [])
      else some (.pv (.bool false), [])
    else none) := by kernel_rfl
theorem e18  : V 18 [] =
  ((V 20 [.pv (.str [108, 101, 116, 32, 120, 32, 35, 32, 121])]).bind retPV).bind fun r =>
    (bif (Sh.tup [Sh.lst, Sh.int .i64, Sh.int .i64]).fits r then
      bif (((r.r 2).toInt) == (0 : Int)) then
        bif (((r.r 0).toLst.length : Int) == (2 : Int)) then
          ((r.r 0).toLst[(0 : Int).toNat]?).bind fun x =>
            (bif (Sh.agg [Sh.int .i64, Sh.str, Sh.int .i64]).fits x then
              bif ((x.c 1).toStr == ([108, 101, 116] : List UInt8)) then
                ((r.r 0).toLst[(1 : Int).toNat]?).bind fun x1 =>
                  (bif (Sh.agg [Sh.int .i64, Sh.str, Sh.int .i64]).fits x1 then
                    some (.pv (.bool ((x1.c 1).toStr == ([120] : List UInt8))), [])
                  else none)
              else some (.pv (.bool false), [])
            else none)
        else some (.pv (.bool false), [])
      else some (.pv (.bool false), [])
    else none) :=
  (V_eq pa rfl _).trans (f18  V (LV Pr T 18))
/-! 19 roadstead/token.Quote -/
def st19_111014 (l : List PV) (s : List UInt8) (i : Int) : AS :=
  ⟨[.any, .any, .any, .any, .bld 0 0 l, .any, .any, .any, .any, .any, .any, .any, .pv (.lst (s.map fun c => PV.int .u8 c.toNat)), .pv (.int .i64 ((s.map fun c => PV.int .u8 c.toNat).length : Int)), .pv (.int .i64 i), .any, .any, .any, .any, .any, .any, .any, .any, .any, .any, .any, .any, .any, .any, .any, .any, .any, .any, .any, .any, .any, .any, .any, .any, .any, .any, .any, .any, .any, .any, .any, .any, .any, .any, .any, .any, .any, .any, .any, .any, .any, .any, .any, .any, .any, .any, .any, .any], ⟨[], [], [(0, 1)], 0, 0⟩⟩
noncomputable def L19_111014 (l : List PV) (s : List UInt8) (i : Int) : Option Out := LV Pr T 19 [1, 1, 1, 0, 1, 4] (st19_111014 l s i)
def st19_111014511041416 (l1 : List PV) (v : Int) (s : List UInt8) (i1 : Int) (b : Bool) : AS :=
  ⟨[.any, .any, .any, .any, .bld 0 0 l1, .any, .pv (.int .u8 v), .any, .any, .any, .any, .any, .pv (.lst (s.map fun c => PV.int .u8 c.toNat)), .pv (.int .i64 ((s.map fun c => PV.int .u8 c.toNat).length : Int)), .pv (.int .i64 i1), .any, .any, .any, .any, .any, .any, .any, .pv (.bool b), .any, .any, .any, .any, .any, .any, .any, .any, .any, .any, .any, .any, .any, .any, .any, .any, .any, .any, .any, .any, .any, .any, .any, .any, .any, .any, .any, .any, .any, .any, .any, .any, .any, .any, .any, .any, .any, .any, .any, .any], ⟨[], [], [(0, 1)], 0, 0⟩⟩
noncomputable def L19_111014511041416 (l1 : List PV) (v : Int) (s : List UInt8) (i1 : Int) (b : Bool) : Option Out := LV Pr T 19 [1, 1, 1, 0, 1, 4, 5, 1, 1, 0, 4, 1, 4, 1, 6] (st19_111014511041416 l1 v s i1 b)
def st19_1110145110414131316 (l : List PV) (v : Int) (s : List UInt8) (i : Int) (b : Bool) : AS :=
  ⟨[.any, .any, .any, .any, .bld 0 0 l, .any, .pv (.int .u8 v), .any, .any, .any, .any, .any, .pv (.lst (s.map fun c => PV.int .u8 c.toNat)), .pv (.int .i64 ((s.map fun c => PV.int .u8 c.toNat).length : Int)), .pv (.int .i64 i), .any, .any, .any, .any, .any, .any, .any, .any, .any, .any, .any, .any, .any, .any, .any, .any, .any, .any, .any, .any, .any, .any, .any, .any, .pv (.bool b), .any, .any, .any, .any, .any, .any, .any, .any, .any, .any, .any, .any, .any, .any, .any, .any, .any, .any, .any, .any, .any, .any, .any], ⟨[], [], [(0, 1)], 0, 0⟩⟩
noncomputable def L19_1110145110414131316 (l : List PV) (v : Int) (s : List UInt8) (i : Int) (b : Bool) : Option Out := LV Pr T 19 [1, 1, 1, 0, 1, 4, 5, 1, 1, 0, 4, 1, 4, 1, 3, 1, 3, 1, 6] (st19_1110145110414131316 l v s i b)
theorem f19 (s : List UInt8) (cl_ : FuncId → List Arg → Option Out) (lp_ : List Nat → AS → Option Out) : runW Pr T cl_ lp_ 19 [.pv (.str s)] =
  bif decide ((s.length : Int) > (64 : Int)) then
    some (.pv (.tup [.str [], .int .i64 2]), [])
  else bif decide (s.length ≤ 2147483648) then
    lp_ [1, 1, 1, 0, 1, 4] (st19_111014 [.int .u8 34] s 0)
  else none := by kernel_rfl
theorem e19 (s : List UInt8) : V 19 [.pv (.str s)] =
  bif decide ((s.length : Int) > (64 : Int)) then
    some (.pv (.tup [.str [], .int .i64 2]), [])
  else bif decide (s.length ≤ 2147483648) then
    L19_111014 [.int .u8 34] s 0
  else none :=
  (V_eq pa rfl _).trans (f19 s V (LV Pr T 19))
theorem f19_111014 (l : List PV) (s : List UInt8) (i : Int) (cl_ : FuncId → List Arg → Option Out) (lp_ : List Nat → AS → Option Out) : stepW Pr T cl_ lp_ 19 [1, 1, 1, 0, 1, 4] (st19_111014 l s i) =
  bif decide (i < ((s.map fun c => PV.int .u8 c.toNat).length : Int)) then
    bif decide (0 ≤ i) then
      ((s.map fun c => PV.int .u8 c.toNat)[i.toNat]?).bind fun x =>
        (bif (Sh.int .u8).fits x then
          bif ((x.toInt) == (34 : Int)) then
            lp_ [1, 1, 1, 0, 1, 4, 5, 1, 1, 0, 4, 1, 4, 1, 6] (st19_111014511041416 l x.toInt s i true)
          else lp_ [1, 1, 1, 0, 1, 4, 5, 1, 1, 0, 4, 1, 4, 1, 6] (st19_111014511041416 l x.toInt s i ((x.toInt) == (92 : Int)))
        else none)
    else none
  else bif small (l.length) 1 1 then
    bif (l ++ ([.int .u8 34] : List PV)).all isByte then
      some (.pv (.tup [.str ((l ++ ([.int .u8 34] : List PV)).map toByte), .int .i64 0]), [])
    else none
  else none := by kernel_rfl
theorem e19_111014 (l : List PV) (s : List UInt8) (i : Int) : L19_111014 l s i =
  bif decide (i < ((s.map fun c => PV.int .u8 c.toNat).length : Int)) then
    bif decide (0 ≤ i) then
      ((s.map fun c => PV.int .u8 c.toNat)[i.toNat]?).bind fun x =>
        (bif (Sh.int .u8).fits x then
          bif ((x.toInt) == (34 : Int)) then
            L19_111014511041416 l x.toInt s i true
          else L19_111014511041416 l x.toInt s i ((x.toInt) == (92 : Int))
        else none)
    else none
  else bif small (l.length) 1 1 then
    bif (l ++ ([.int .u8 34] : List PV)).all isByte then
      some (.pv (.tup [.str ((l ++ ([.int .u8 34] : List PV)).map toByte), .int .i64 0]), [])
    else none
  else none :=
  (LV_eq pa 19 _ _).trans (f19_111014 l s i V (LV Pr T 19))
theorem f19_111014511041416 (l1 : List PV) (v : Int) (s : List UInt8) (i1 : Int) (b : Bool) (cl_ : FuncId → List Arg → Option Out) (lp_ : List Nat → AS → Option Out) : stepW Pr T cl_ lp_ 19 [1, 1, 1, 0, 1, 4, 5, 1, 1, 0, 4, 1, 4, 1, 6] (st19_111014511041416 l1 v s i1 b) =
  bif b then
    bif small (l1.length) 2 1 then
      lp_ [1, 1, 1, 0, 1, 4] (st19_111014 (l1 ++ ([.int .u8 92, .int .u8 v] : List PV)) s (IntKind.i64.wrap (i1 + (1 : Int))))
    else none
  else bif (v == (10 : Int)) then
    bif small (l1.length) 2 1 then
      lp_ [1, 1, 1, 0, 1, 4] (st19_111014 (l1 ++ ([.int .u8 92, .int .u8 110] : List PV)) s (IntKind.i64.wrap (i1 + (1 : Int))))
    else none
  else bif decide (v < (32 : Int)) then
    lp_ [1, 1, 1, 0, 1, 4, 5, 1, 1, 0, 4, 1, 4, 1, 3, 1, 3, 1, 6] (st19_1110145110414131316 l1 v s i1 true)
  else lp_ [1, 1, 1, 0, 1, 4, 5, 1, 1, 0, 4, 1, 4, 1, 3, 1, 3, 1, 6] (st19_1110145110414131316 l1 v s i1 (decide (v > (126 : Int)))) := by kernel_rfl
theorem e19_111014511041416 (l1 : List PV) (v : Int) (s : List UInt8) (i1 : Int) (b : Bool) : L19_111014511041416 l1 v s i1 b =
  bif b then
    bif small (l1.length) 2 1 then
      L19_111014 (l1 ++ ([.int .u8 92, .int .u8 v] : List PV)) s (IntKind.i64.wrap (i1 + (1 : Int)))
    else none
  else bif (v == (10 : Int)) then
    bif small (l1.length) 2 1 then
      L19_111014 (l1 ++ ([.int .u8 92, .int .u8 110] : List PV)) s (IntKind.i64.wrap (i1 + (1 : Int)))
    else none
  else bif decide (v < (32 : Int)) then
    L19_1110145110414131316 l1 v s i1 true
  else L19_1110145110414131316 l1 v s i1 (decide (v > (126 : Int))) :=
  (LV_eq pa 19 _ _).trans (f19_111014511041416 l1 v s i1 b V (LV Pr T 19))
theorem f19_1110145110414131316 (l : List PV) (v : Int) (s : List UInt8) (i : Int) (b : Bool) (cl_ : FuncId → List Arg → Option Out) (lp_ : List Nat → AS → Option Out) : stepW Pr T cl_ lp_ 19 [1, 1, 1, 0, 1, 4, 5, 1, 1, 0, 4, 1, 4, 1, 3, 1, 3, 1, 6] (st19_1110145110414131316 l v s i b) =
  bif b then
    bif small (l.length) 2 1 then
      bif decide (v < (16 : Int)) then
        bif small ((l ++ ([.int .u8 92, .int .u8 120] : List PV)).length) 1 1 then
          (cl_ 41 [.bld 1 ((l ++ ([.int .u8 92, .int .u8 120] : List PV)) ++ ([.int .u8 48] : List PV)), .pv (.int .i64 (IntKind.i64.wrap v)), .pv (.int .i64 16)]).bind fun r =>
            ((retB 1 r).bind fun l1 =>
              (lp_ [1, 1, 1, 0, 1, 4] (st19_111014 l1 s (IntKind.i64.wrap (i + (1 : Int))))))
        else none
      else (cl_ 41 [.bld 1 (l ++ ([.int .u8 92, .int .u8 120] : List PV)), .pv (.int .i64 (IntKind.i64.wrap v)), .pv (.int .i64 16)]).bind fun r1 =>
        ((retB 1 r1).bind fun l2 =>
          (lp_ [1, 1, 1, 0, 1, 4] (st19_111014 l2 s (IntKind.i64.wrap (i + (1 : Int))))))
    else none
  else bif small (l.length) 1 1 then
    lp_ [1, 1, 1, 0, 1, 4] (st19_111014 (l ++ ([.int .u8 v] : List PV)) s (IntKind.i64.wrap (i + (1 : Int))))
  else none := by kernel_rfl
theorem e19_1110145110414131316 (l : List PV) (v : Int) (s : List UInt8) (i : Int) (b : Bool) : L19_1110145110414131316 l v s i b =
  bif b then
    bif small (l.length) 2 1 then
      bif decide (v < (16 : Int)) then
        bif small ((l ++ ([.int .u8 92, .int .u8 120] : List PV)).length) 1 1 then
          (V 41 [.bld 1 ((l ++ ([.int .u8 92, .int .u8 120] : List PV)) ++ ([.int .u8 48] : List PV)), .pv (.int .i64 (IntKind.i64.wrap v)), .pv (.int .i64 16)]).bind fun r =>
            ((retB 1 r).bind fun l1 =>
              (L19_111014 l1 s (IntKind.i64.wrap (i + (1 : Int)))))
        else none
      else (V 41 [.bld 1 (l ++ ([.int .u8 92, .int .u8 120] : List PV)), .pv (.int .i64 (IntKind.i64.wrap v)), .pv (.int .i64 16)]).bind fun r1 =>
        ((retB 1 r1).bind fun l2 =>
          (L19_111014 l2 s (IntKind.i64.wrap (i + (1 : Int)))))
    else none
  else bif small (l.length) 1 1 then
    L19_111014 (l ++ ([.int .u8 v] : List PV)) s (IntKind.i64.wrap (i + (1 : Int)))
  else none :=
  (LV_eq pa 19 _ _).trans (f19_1110145110414131316 l v s i b V (LV Pr T 19))
/-! 20 roadstead/token.Read -/
def st20_111014 (s : List UInt8) (l : List PV) (v : Int) : AS :=
  ⟨[.pv (.str s), .any, .any, .any, .any, .bld 0 0 l, .pv (.int .i64 v), .any, .any, .any, .any, .any, .any, .any, .any, .any, .any, .any, .any, .any, .any, .any, .any, .any, .any, .any, .any, .any, .any, .any, .any, .any, .any, .any, .any, .any, .any, .any], ⟨[], [], [(0, 3)], 0, 0⟩⟩
noncomputable def L20_111014 (s : List UInt8) (l : List PV) (v : Int) : Option Out := LV Pr T 20 [1, 1, 1, 0, 1, 4] (st20_111014 s l v)
theorem f20 (s : List UInt8) (cl_ : FuncId → List Arg → Option Out) (lp_ : List Nat → AS → Option Out) : runW Pr T cl_ lp_ 20 [.pv (.str s)] =
  bif decide ((s.length : Int) > (4000 : Int)) then
    some (.pv (.tup [.lst [], .int .i64 0, .int .i64 2]), [])
  else ((cl_ 42 [.pv (.str s), .pv (.int .i64 0)]).bind retPV).bind fun r =>
    (bif (Sh.int .i64).fits r then
      lp_ [1, 1, 1, 0, 1, 4] (st20_111014 s [] r.toInt)
    else none) := by kernel_rfl
theorem e20 (s : List UInt8) : V 20 [.pv (.str s)] =
  bif decide ((s.length : Int) > (4000 : Int)) then
    some (.pv (.tup [.lst [], .int .i64 0, .int .i64 2]), [])
  else ((V 42 [.pv (.str s), .pv (.int .i64 0)]).bind retPV).bind fun r =>
    (bif (Sh.int .i64).fits r then
      L20_111014 s [] r.toInt
    else none) :=
  (V_eq pa rfl _).trans (f20 s V (LV Pr T 20))
theorem f20_111014 (s : List UInt8) (l : List PV) (v : Int) (cl_ : FuncId → List Arg → Option Out) (lp_ : List Nat → AS → Option Out) : stepW Pr T cl_ lp_ 20 [1, 1, 1, 0, 1, 4] (st20_111014 s l v) =
  bif decide (v < (s.length : Int)) then
    ((cl_ 43 [.pv (.str s), .pv (.int .i64 v)]).bind retPV).bind fun r =>
      (bif (Sh.tup [Sh.agg [Sh.int .i64, Sh.str, Sh.int .i64], Sh.int .i64, Sh.bool]).fits r then
        bif (!(r.r 2).toBool) then
          some (.pv (.tup [.lst [], .int .i64 v, .int .i64 10]), [])
        else bif small (l.length) 1 32 then
          ((cl_ 42 [.pv (.str s), .pv (.int .i64 ((r.r 1).toInt))]).bind retPV).bind fun r1 =>
            (bif (Sh.int .i64).fits r1 then
              lp_ [1, 1, 1, 0, 1, 4] (st20_111014 s (l ++ ([.agg [.int .i64 (((r.r 0).c 0).toInt), .str (((r.r 0).c 1).toStr), .int .i64 (((r.r 0).c 2).toInt)]] : List PV)) r1.toInt)
            else none)
        else none
      else none)
  else some (.pv (.tup [.lst l, .int .i64 0, .int .i64 0]), []) := by kernel_rfl
theorem e20_111014 (s : List UInt8) (l : List PV) (v : Int) : L20_111014 s l v =
  bif decide (v < (s.length : Int)) then
    ((V 43 [.pv (.str s), .pv (.int .i64 v)]).bind retPV).bind fun r =>
      (bif (Sh.tup [Sh.agg [Sh.int .i64, Sh.str, Sh.int .i64], Sh.int .i64, Sh.bool]).fits r then
        bif (!(r.r 2).toBool) then
          some (.pv (.tup [.lst [], .int .i64 v, .int .i64 10]), [])
        else bif small (l.length) 1 32 then
          ((V 42 [.pv (.str s), .pv (.int .i64 ((r.r 1).toInt))]).bind retPV).bind fun r1 =>
            (bif (Sh.int .i64).fits r1 then
              L20_111014 s (l ++ ([.agg [.int .i64 (((r.r 0).c 0).toInt), .str (((r.r 0).c 1).toStr), .int .i64 (((r.r 0).c 2).toInt)]] : List PV)) r1.toInt
            else none)
        else none
      else none)
  else some (.pv (.tup [.lst l, .int .i64 0, .int .i64 0]), []) :=
  (LV_eq pa 20 _ _).trans (f20_111014 s l v V (LV Pr T 20))
/-! 21 roadstead/token.Show -/
def st21_10141313131216 (b : Bool) (t_Kind : Int) (t_Text : List UInt8) (t_At : Int) : AS :=
  ⟨[.any, .box 0 0, .any, .any, .pv (.bool b), .any, .any, .any, .any, .any, .any, .any, .any, .any, .any, .any, .any, .any, .any, .any, .any, .any, .any, .any, .any, .any, .any, .any, .any, .any, .any, .any, .any, .any, .any, .any, .any, .any, .any, .any, .any, .any, .any, .any, .any, .any, .any, .any, .any, .any, .any, .any, .any, .any, .any, .any, .any, .any, .any, .any, .any, .any, .any, .any, .any, .any, .any, .any, .any, .any, .any, .any, .any, .any, .any, .any, .any, .any, .any, .any], ⟨[(false, [.pv (.int .i64 t_Kind), .pv (.str t_Text), .pv (.int .i64 t_At)])], [], [], 0, 0⟩⟩
noncomputable def L21_10141313131216 (b : Bool) (t_Kind : Int) (t_Text : List UInt8) (t_At : Int) : Option Out := LV Pr T 21 [1, 0, 1, 4, 1, 3, 1, 3, 1, 3, 1, 2, 1, 6] (st21_10141313131216 b t_Kind t_Text t_At)
def st21_1014131313121014 (b : Bool) (t_Text : List UInt8) (i : Int) (t_Kind : Int) (t_At : Int) : AS :=
  ⟨[.any, .box 0 0, .any, .any, .pv (.bool b), .any, .any, .any, .any, .any, .any, .any, .any, .any, .any, .any, .any, .any, .any, .any, .any, .any, .any, .any, .any, .any, .any, .any, .any, .any, .any, .any, .any, .any, .any, .any, .any, .any, .any, .any, .any, .any, .any, .pv (.lst (t_Text.map fun c => PV.int .u8 c.toNat)), .pv (.int .i64 ((t_Text.map fun c => PV.int .u8 c.toNat).length : Int)), .pv (.int .i64 i), .any, .any, .any, .any, .any, .any, .any, .any, .any, .any, .any, .any, .any, .any, .any, .any, .any, .any, .any, .any, .any, .any, .any, .any, .any, .any, .any, .any, .any, .any, .any, .any, .any, .any], ⟨[(false, [.pv (.int .i64 t_Kind), .pv (.str t_Text), .pv (.int .i64 t_At)])], [], [], 0, 0⟩⟩
noncomputable def L21_1014131313121014 (b : Bool) (t_Text : List UInt8) (i : Int) (t_Kind : Int) (t_At : Int) : Option Out := LV Pr T 21 [1, 0, 1, 4, 1, 3, 1, 3, 1, 3, 1, 2, 1, 0, 1, 4] (st21_1014131313121014 b t_Text i t_Kind t_At)
theorem f21 (t_Kind : Int) (t_Text : List UInt8) (t_At : Int) (cl_ : FuncId → List Arg → Option Out) (lp_ : List Nat → AS → Option Out) : runW Pr T cl_ lp_ 21 [.pv (.agg [.int .i64 t_Kind, .str t_Text, .int .i64 t_At])] =
  bif (t_Kind == (1 : Int)) then
    ((cl_ 44 [.pv (.str t_Text)]).bind retPV).bind fun r =>
      (bif (Sh.bool).fits r then
        bif r.toBool then
          some (.pv (.tup [.str t_Text, .int .i64 0]), [])
        else some (.pv (.tup [.str [], .int .i64 3]), [])
      else none)
  else bif (t_Kind == (2 : Int)) then
    ((cl_ 45 [.pv (.str t_Text)]).bind retPV).bind fun r1 =>
      (bif (Sh.bool).fits r1 then
        bif r1.toBool then
          some (.pv (.tup [.str t_Text, .int .i64 0]), [])
        else some (.pv (.tup [.str [], .int .i64 3]), [])
      else none)
  else bif (t_Kind == (3 : Int)) then
    ((cl_ 46 [.pv (.str t_Text)]).bind retPV).bind fun r2 =>
      (bif (Sh.bool).fits r2 then
        bif r2.toBool then
          some (.pv (.tup [.str t_Text, .int .i64 0]), [])
        else some (.pv (.tup [.str [], .int .i64 3]), [])
      else none)
  else bif (t_Kind == (4 : Int)) then
    bif (!(t_Text == ([] : List UInt8))) then
      lp_ [1, 0, 1, 4, 1, 3, 1, 3, 1, 3, 1, 2, 1, 6] (st21_10141313131216 (decide ((t_Text.length : Int) ≤ (4000 : Int))) t_Kind t_Text t_At)
    else lp_ [1, 0, 1, 4, 1, 3, 1, 3, 1, 3, 1, 2, 1, 6] (st21_10141313131216 false t_Kind t_Text t_At)
  else bif (t_Kind == (5 : Int)) then
    ((cl_ 19 [.pv (.str t_Text)]).bind retPV).bind fun r3 =>
      (bif (Sh.tup [Sh.str, Sh.int .i64]).fits r3 then
        some (.pv (.tup [.str ((r3.r 0).toStr), .int .i64 ((r3.r 1).toInt)]), [])
      else none)
  else bif (t_Kind == (6 : Int)) then
    bif (!(t_Text == ([] : List UInt8))) then
      ((cl_ 48 [.pv (.str t_Text), .pv (.int .i64 0)]).bind retPV).bind fun r4 =>
        (bif (Sh.str).fits r4 then
          bif (r4.toStr == t_Text) then
            some (.pv (.tup [.str t_Text, .int .i64 0]), [])
          else some (.pv (.tup [.str [], .int .i64 3]), [])
        else none)
    else some (.pv (.tup [.str [], .int .i64 3]), [])
  else some (.pv (.tup [.str [], .int .i64 3]), []) := by kernel_rfl
theorem e21 (t_Kind : Int) (t_Text : List UInt8) (t_At : Int) : V 21 [.pv (.agg [.int .i64 t_Kind, .str t_Text, .int .i64 t_At])] =
  bif (t_Kind == (1 : Int)) then
    ((V 44 [.pv (.str t_Text)]).bind retPV).bind fun r =>
      (bif (Sh.bool).fits r then
        bif r.toBool then
          some (.pv (.tup [.str t_Text, .int .i64 0]), [])
        else some (.pv (.tup [.str [], .int .i64 3]), [])
      else none)
  else bif (t_Kind == (2 : Int)) then
    ((V 45 [.pv (.str t_Text)]).bind retPV).bind fun r1 =>
      (bif (Sh.bool).fits r1 then
        bif r1.toBool then
          some (.pv (.tup [.str t_Text, .int .i64 0]), [])
        else some (.pv (.tup [.str [], .int .i64 3]), [])
      else none)
  else bif (t_Kind == (3 : Int)) then
    ((V 46 [.pv (.str t_Text)]).bind retPV).bind fun r2 =>
      (bif (Sh.bool).fits r2 then
        bif r2.toBool then
          some (.pv (.tup [.str t_Text, .int .i64 0]), [])
        else some (.pv (.tup [.str [], .int .i64 3]), [])
      else none)
  else bif (t_Kind == (4 : Int)) then
    bif (!(t_Text == ([] : List UInt8))) then
      L21_10141313131216 (decide ((t_Text.length : Int) ≤ (4000 : Int))) t_Kind t_Text t_At
    else L21_10141313131216 false t_Kind t_Text t_At
  else bif (t_Kind == (5 : Int)) then
    ((V 19 [.pv (.str t_Text)]).bind retPV).bind fun r3 =>
      (bif (Sh.tup [Sh.str, Sh.int .i64]).fits r3 then
        some (.pv (.tup [.str ((r3.r 0).toStr), .int .i64 ((r3.r 1).toInt)]), [])
      else none)
  else bif (t_Kind == (6 : Int)) then
    bif (!(t_Text == ([] : List UInt8))) then
      ((V 48 [.pv (.str t_Text), .pv (.int .i64 0)]).bind retPV).bind fun r4 =>
        (bif (Sh.str).fits r4 then
          bif (r4.toStr == t_Text) then
            some (.pv (.tup [.str t_Text, .int .i64 0]), [])
          else some (.pv (.tup [.str [], .int .i64 3]), [])
        else none)
    else some (.pv (.tup [.str [], .int .i64 3]), [])
  else some (.pv (.tup [.str [], .int .i64 3]), []) :=
  (V_eq pa rfl _).trans (f21 t_Kind t_Text t_At V (LV Pr T 21))
theorem f21_10141313131216 (b : Bool) (t_Kind : Int) (t_Text : List UInt8) (t_At : Int) (cl_ : FuncId → List Arg → Option Out) (lp_ : List Nat → AS → Option Out) : stepW Pr T cl_ lp_ 21 [1, 0, 1, 4, 1, 3, 1, 3, 1, 3, 1, 2, 1, 6] (st21_10141313131216 b t_Kind t_Text t_At) =
  bif decide (t_Text.length ≤ 2147483648) then
    lp_ [1, 0, 1, 4, 1, 3, 1, 3, 1, 3, 1, 2, 1, 0, 1, 4] (st21_1014131313121014 b t_Text 0 t_Kind t_At)
  else none := by kernel_rfl
theorem e21_10141313131216 (b : Bool) (t_Kind : Int) (t_Text : List UInt8) (t_At : Int) : L21_10141313131216 b t_Kind t_Text t_At =
  bif decide (t_Text.length ≤ 2147483648) then
    L21_1014131313121014 b t_Text 0 t_Kind t_At
  else none :=
  (LV_eq pa 21 _ _).trans (f21_10141313131216 b t_Kind t_Text t_At V (LV Pr T 21))
theorem f21_1014131313121014 (b : Bool) (t_Text : List UInt8) (i : Int) (t_Kind : Int) (t_At : Int) (cl_ : FuncId → List Arg → Option Out) (lp_ : List Nat → AS → Option Out) : stepW Pr T cl_ lp_ 21 [1, 0, 1, 4, 1, 3, 1, 3, 1, 3, 1, 2, 1, 0, 1, 4] (st21_1014131313121014 b t_Text i t_Kind t_At) =
  bif decide (i < ((t_Text.map fun c => PV.int .u8 c.toNat).length : Int)) then
    bif decide (0 ≤ i) then
      ((t_Text.map fun c => PV.int .u8 c.toNat)[i.toNat]?).bind fun x =>
        (bif (Sh.int .u8).fits x then
          bif b then
            ((cl_ 47 [.pv (.int .u8 x.toInt)]).bind retPV).bind fun r =>
              (bif (Sh.bool).fits r then
                lp_ [1, 0, 1, 4, 1, 3, 1, 3, 1, 3, 1, 2, 1, 0, 1, 4] (st21_1014131313121014 r.toBool t_Text (IntKind.i64.wrap (i + (1 : Int))) t_Kind t_At)
              else none)
          else lp_ [1, 0, 1, 4, 1, 3, 1, 3, 1, 3, 1, 2, 1, 0, 1, 4] (st21_1014131313121014 false t_Text (IntKind.i64.wrap (i + (1 : Int))) t_Kind t_At)
        else none)
    else none
  else bif b then
    some (.pv (.tup [.str t_Text, .int .i64 0]), [])
  else some (.pv (.tup [.str [], .int .i64 3]), []) := by kernel_rfl
theorem e21_1014131313121014 (b : Bool) (t_Text : List UInt8) (i : Int) (t_Kind : Int) (t_At : Int) : L21_1014131313121014 b t_Text i t_Kind t_At =
  bif decide (i < ((t_Text.map fun c => PV.int .u8 c.toNat).length : Int)) then
    bif decide (0 ≤ i) then
      ((t_Text.map fun c => PV.int .u8 c.toNat)[i.toNat]?).bind fun x =>
        (bif (Sh.int .u8).fits x then
          bif b then
            ((V 47 [.pv (.int .u8 x.toInt)]).bind retPV).bind fun r =>
              (bif (Sh.bool).fits r then
                L21_1014131313121014 r.toBool t_Text (IntKind.i64.wrap (i + (1 : Int))) t_Kind t_At
              else none)
          else L21_1014131313121014 false t_Text (IntKind.i64.wrap (i + (1 : Int))) t_Kind t_At
        else none)
    else none
  else bif b then
    some (.pv (.tup [.str t_Text, .int .i64 0]), [])
  else some (.pv (.tup [.str [], .int .i64 3]), []) :=
  (LV_eq pa 21 _ _).trans (f21_1014131313121014 b t_Text i t_Kind t_At V (LV Pr T 21))
/-! 42 roadstead/token.skip -/
def st42_104 (s : List UInt8) (i : Int) : AS :=
  ⟨[.pv (.str s), .pv (.int .i64 i), .any, .any, .any, .any, .any, .any, .any, .any, .any, .any, .any, .any, .any, .any, .any, .any, .any, .any, .any, .any, .any, .any, .any, .any, .any, .any, .any, .any, .any, .any, .any, .any], ⟨[], [], [], 0, 0⟩⟩
noncomputable def L42_104 (s : List UInt8) (i : Int) : Option Out := LV Pr T 42 [1, 0, 4] (st42_104 s i)
def st42_1045141416 (s : List UInt8) (i : Int) (c : UInt8) (b : Bool) : AS :=
  ⟨[.pv (.str s), .pv (.int .i64 i), .any, .any, .any, .any, .any, .any, .any, .any, .any, .pv (.int .u8 (c.toNat : Int)), .any, .pv (.bool b), .any, .any, .any, .any, .any, .any, .any, .any, .any, .any, .any, .any, .any, .any, .any, .any, .any, .any, .any, .any], ⟨[], [], [], 0, 0⟩⟩
noncomputable def L42_1045141416 (s : List UInt8) (i : Int) (c : UInt8) (b : Bool) : Option Out := LV Pr T 42 [1, 0, 4, 5, 1, 4, 1, 4, 1, 6] (st42_1045141416 s i c b)
def st42_1045141413124 (s : List UInt8) (i : Int) : AS :=
  ⟨[.pv (.str s), .pv (.int .i64 i), .any, .any, .any, .any, .any, .any, .any, .any, .any, .any, .any, .any, .any, .any, .any, .any, .any, .any, .any, .any, .any, .any, .any, .any, .any, .any, .any, .any, .any, .any, .any, .any], ⟨[], [], [], 0, 0⟩⟩
noncomputable def L42_1045141413124 (s : List UInt8) (i : Int) : Option Out := LV Pr T 42 [1, 0, 4, 5, 1, 4, 1, 4, 1, 3, 1, 2, 4] (st42_1045141413124 s i)
theorem f42 (s : List UInt8) (i : Int) (cl_ : FuncId → List Arg → Option Out) (lp_ : List Nat → AS → Option Out) : runW Pr T cl_ lp_ 42 [.pv (.str s), .pv (.int .i64 i)] =
  lp_ [1, 0, 4] (st42_104 s i) := by kernel_rfl
theorem e42 (s : List UInt8) (i : Int) : V 42 [.pv (.str s), .pv (.int .i64 i)] =
  L42_104 s i :=
  (V_eq pa rfl _).trans (f42 s i V (LV Pr T 42))
theorem f42_104 (s : List UInt8) (i : Int) (cl_ : FuncId → List Arg → Option Out) (lp_ : List Nat → AS → Option Out) : stepW Pr T cl_ lp_ 42 [1, 0, 4] (st42_104 s i) =
  bif decide (i < (s.length : Int)) then
    bif decide (0 ≤ i) then
      (s[i.toNat]?).bind fun c =>
        (bif ((c.toNat : Int) == (32 : Int)) then
          lp_ [1, 0, 4, 5, 1, 4, 1, 4, 1, 6] (st42_1045141416 s i c ((c.toNat : Int) == (32 : Int)))
        else bif ((c.toNat : Int) == (9 : Int)) then
          lp_ [1, 0, 4, 5, 1, 4, 1, 4, 1, 6] (st42_1045141416 s i c ((c.toNat : Int) == (9 : Int)))
        else lp_ [1, 0, 4, 5, 1, 4, 1, 4, 1, 6] (st42_1045141416 s i c ((c.toNat : Int) == (10 : Int))))
    else none
  else some (.pv (.int .i64 i), []) := by kernel_rfl
theorem e42_104 (s : List UInt8) (i : Int) : L42_104 s i =
  bif decide (i < (s.length : Int)) then
    bif decide (0 ≤ i) then
      (s[i.toNat]?).bind fun c =>
        (bif ((c.toNat : Int) == (32 : Int)) then
          L42_1045141416 s i c ((c.toNat : Int) == (32 : Int))
        else bif ((c.toNat : Int) == (9 : Int)) then
          L42_1045141416 s i c ((c.toNat : Int) == (9 : Int))
        else L42_1045141416 s i c ((c.toNat : Int) == (10 : Int)))
    else none
  else some (.pv (.int .i64 i), []) :=
  (LV_eq pa 42 _ _).trans (f42_104 s i V (LV Pr T 42))
theorem f42_1045141416 (s : List UInt8) (i : Int) (c : UInt8) (b : Bool) (cl_ : FuncId → List Arg → Option Out) (lp_ : List Nat → AS → Option Out) : stepW Pr T cl_ lp_ 42 [1, 0, 4, 5, 1, 4, 1, 4, 1, 6] (st42_1045141416 s i c b) =
  bif b then
    lp_ [1, 0, 4] (st42_104 s (IntKind.i64.wrap (i + (1 : Int))))
  else bif ((c.toNat : Int) == (35 : Int)) then
    lp_ [1, 0, 4, 5, 1, 4, 1, 4, 1, 3, 1, 2, 4] (st42_1045141413124 s i)
  else some (.pv (.int .i64 i), []) := by kernel_rfl
theorem e42_1045141416 (s : List UInt8) (i : Int) (c : UInt8) (b : Bool) : L42_1045141416 s i c b =
  bif b then
    L42_104 s (IntKind.i64.wrap (i + (1 : Int)))
  else bif ((c.toNat : Int) == (35 : Int)) then
    L42_1045141413124 s i
  else some (.pv (.int .i64 i), []) :=
  (LV_eq pa 42 _ _).trans (f42_1045141416 s i c b V (LV Pr T 42))
theorem f42_1045141413124 (s : List UInt8) (i : Int) (cl_ : FuncId → List Arg → Option Out) (lp_ : List Nat → AS → Option Out) : stepW Pr T cl_ lp_ 42 [1, 0, 4, 5, 1, 4, 1, 4, 1, 3, 1, 2, 4] (st42_1045141413124 s i) =
  bif decide (i < (s.length : Int)) then
    bif decide (0 ≤ i) then
      (s[i.toNat]?).bind fun c =>
        (bif ((c.toNat : Int) != (10 : Int)) then
          lp_ [1, 0, 4, 5, 1, 4, 1, 4, 1, 3, 1, 2, 4] (st42_1045141413124 s (IntKind.i64.wrap (i + (1 : Int))))
        else lp_ [1, 0, 4] (st42_104 s i))
    else none
  else lp_ [1, 0, 4] (st42_104 s i) := by kernel_rfl
theorem e42_1045141413124 (s : List UInt8) (i : Int) : L42_1045141413124 s i =
  bif decide (i < (s.length : Int)) then
    bif decide (0 ≤ i) then
      (s[i.toNat]?).bind fun c =>
        (bif ((c.toNat : Int) != (10 : Int)) then
          L42_1045141413124 s (IntKind.i64.wrap (i + (1 : Int)))
        else L42_104 s i)
    else none
  else L42_104 s i :=
  (LV_eq pa 42 _ _).trans (f42_1045141413124 s i V (LV Pr T 42))
/-! 43 roadstead/token.next -/
def st43_1110416 (s : List UInt8) (i : Int) (c : UInt8) (b : Bool) : AS :=
  ⟨[.pv (.str s), .pv (.int .i64 i), .any, .any, .box 0 0, .any, .any, .pv (.int .u8 (c.toNat : Int)), .pv (.int .i64 i), .any, .any, .any, .any, .any, .any, .any, .any, .any, .pv (.bool b), .any, .any, .any, .any, .any, .any, .any, .any, .any, .any, .any, .any, .any, .any, .any, .any, .any, .any, .any, .any, .any, .any, .any, .any, .any, .any, .any, .any, .any, .any, .any, .any, .any, .any, .any, .any, .any, .any, .any, .any, .any, .any, .any, .any, .any, .any, .any, .any, .any, .any, .any, .any, .any, .any, .any, .any, .any, .any, .any, .any, .any, .any, .any, .any, .any, .any, .any, .any, .any, .any, .any, .any, .any, .any, .any, .any, .any, .any, .any, .any, .any, .any, .any, .any, .any, .any, .any, .any, .any, .any, .any, .any, .any, .any, .any, .any, .any], ⟨[(false, [.pv (.int .i64 0), .pv (.str []), .pv (.int .i64 0)])], [], [], 0, 0⟩⟩
noncomputable def L43_1110416 (s : List UInt8) (i : Int) (c : UInt8) (b : Bool) : Option Out := LV Pr T 43 [1, 1, 1, 0, 4, 1, 6] (st43_1110416 s i c b)
def st43_111041204 (s : List UInt8) (i : Int) (c : UInt8) (i1 : Int) : AS :=
  ⟨[.pv (.str s), .pv (.int .i64 i), .any, .any, .box 0 0, .any, .any, .pv (.int .u8 (c.toNat : Int)), .pv (.int .i64 i1), .any, .any, .any, .any, .any, .any, .any, .any, .any, .any, .any, .any, .any, .any, .any, .any, .any, .any, .any, .any, .any, .any, .any, .any, .any, .any, .any, .any, .any, .any, .any, .any, .any, .any, .any, .any, .any, .any, .any, .any, .any, .any, .any, .any, .any, .any, .any, .any, .any, .any, .any, .any, .any, .any, .any, .any, .any, .any, .any, .any, .any, .any, .any, .any, .any, .any, .any, .any, .any, .any, .any, .any, .any, .any, .any, .any, .any, .any, .any, .any, .any, .any, .any, .any, .any, .any, .any, .any, .any, .any, .any, .any, .any, .any, .any, .any, .any, .any, .any, .any, .any, .any, .any, .any, .any, .any, .any], ⟨[(false, [.pv (.int .i64 0), .pv (.str []), .pv (.int .i64 0)])], [], [], 0, 0⟩⟩
noncomputable def L43_111041204 (s : List UInt8) (i : Int) (c : UInt8) (i1 : Int) : Option Out := LV Pr T 43 [1, 1, 1, 0, 4, 1, 2, 0, 4] (st43_111041204 s i c i1)
def st43_11104131204 (s : List UInt8) (i : Int) (i1 : Int) : AS :=
  ⟨[.pv (.str s), .pv (.int .i64 i), .any, .any, .box 0 0, .any, .any, .any, .pv (.int .i64 i1), .any, .any, .any, .any, .any, .any, .any, .any, .any, .any, .any, .any, .any, .any, .any, .any, .any, .any, .any, .any, .any, .any, .any, .any, .any, .any, .any, .any, .any, .any, .any, .any, .any, .any, .any, .any, .any, .any, .any, .any, .any, .any, .any, .any, .any, .any, .any, .any, .any, .any, .any, .any, .any, .any, .any, .any, .any, .any, .any, .any, .any, .any, .any, .any, .any, .any, .any, .any, .any, .any, .any, .any, .any, .any, .any, .any, .any, .any, .any, .any, .any, .any, .any, .any, .any, .any, .any, .any, .any, .any, .any, .any, .any, .any, .any, .any, .any, .any, .any, .any, .any, .any, .any, .any, .any, .any, .any], ⟨[(false, [.pv (.int .i64 0), .pv (.str []), .pv (.int .i64 0)])], [], [], 0, 0⟩⟩
noncomputable def L43_11104131204 (s : List UInt8) (i : Int) (i1 : Int) : Option Out := LV Pr T 43 [1, 1, 1, 0, 4, 1, 3, 1, 2, 0, 4] (st43_11104131204 s i i1)
def st43_111041216 (s : List UInt8) (i : Int) (c : UInt8) (i2 : Int) : AS :=
  ⟨[.pv (.str s), .pv (.int .i64 i), .any, .any, .box 0 0, .any, .any, .pv (.int .u8 (c.toNat : Int)), .pv (.int .i64 i2), .any, .any, .any, .any, .any, .any, .any, .any, .any, .any, .any, .any, .any, .any, .any, .any, .any, .any, .any, .any, .any, .any, .any, .any, .any, .any, .any, .any, .any, .any, .any, .any, .any, .any, .any, .any, .any, .any, .any, .any, .any, .any, .any, .any, .any, .any, .any, .any, .any, .any, .any, .any, .any, .any, .any, .any, .any, .any, .any, .any, .any, .any, .any, .any, .any, .any, .any, .any, .any, .any, .any, .any, .any, .any, .any, .any, .any, .any, .any, .any, .any, .any, .any, .any, .any, .any, .any, .any, .any, .any, .any, .any, .any, .any, .any, .any, .any, .any, .any, .any, .any, .any, .any, .any, .any, .any, .any], ⟨[(false, [.pv (.int .i64 0), .pv (.str []), .pv (.int .i64 0)])], [], [], 0, 0⟩⟩
noncomputable def L43_111041216 (s : List UInt8) (i : Int) (c : UInt8) (i2 : Int) : Option Out := LV Pr T 43 [1, 1, 1, 0, 4, 1, 2, 1, 6] (st43_111041216 s i c i2)
def st43_11104131216 (s : List UInt8) (i : Int) (i2 : Int) : AS :=
  ⟨[.pv (.str s), .pv (.int .i64 i), .any, .any, .box 0 0, .any, .any, .any, .pv (.int .i64 i2), .any, .any, .any, .any, .any, .any, .any, .any, .any, .any, .any, .any, .any, .any, .any, .any, .any, .any, .any, .any, .any, .any, .any, .any, .any, .any, .any, .any, .any, .any, .any, .any, .any, .any, .any, .any, .any, .any, .any, .any, .any, .any, .any, .any, .any, .any, .any, .any, .any, .any, .any, .any, .any, .any, .any, .any, .any, .any, .any, .any, .any, .any, .any, .any, .any, .any, .any, .any, .any, .any, .any, .any, .any, .any, .any, .any, .any, .any, .any, .any, .any, .any, .any, .any, .any, .any, .any, .any, .any, .any, .any, .any, .any, .any, .any, .any, .any, .any, .any, .any, .any, .any, .any, .any, .any, .any, .any], ⟨[(false, [.pv (.int .i64 0), .pv (.str []), .pv (.int .i64 0)])], [], [], 0, 0⟩⟩
noncomputable def L43_11104131216 (s : List UInt8) (i : Int) (i2 : Int) : Option Out := LV Pr T 43 [1, 1, 1, 0, 4, 1, 3, 1, 2, 1, 6] (st43_11104131216 s i i2)
def st43_11104121116 (i : Int) (i2 : Int) (i1 : Int) (s : List UInt8) : AS :=
  ⟨[.any, .pv (.int .i64 i), .any, .any, .box 0 0, .any, .any, .any, .pv (.int .i64 i2), .box 1 0, .any, .any, .any, .any, .any, .any, .any, .any, .any, .any, .any, .any, .any, .any, .any, .any, .any, .any, .any, .any, .any, .any, .any, .any, .any, .any, .any, .any, .any, .any, .any, .any, .any, .any, .any, .any, .any, .any, .any, .any, .any, .any, .any, .any, .any, .any, .any, .any, .any, .any, .any, .any, .any, .any, .any, .any, .any, .any, .any, .any, .any, .any, .any, .any, .any, .any, .any, .any, .any, .any, .any, .any, .any, .any, .any, .any, .any, .any, .any, .any, .any, .any, .any, .any, .any, .any, .any, .any, .any, .any, .any, .any, .any, .any, .any, .any, .any, .any, .any, .any, .any, .any, .any, .any, .any, .any], ⟨[(false, [.pv (.int .i64 0), .pv (.str []), .pv (.int .i64 0)]), (false, [.pv (.int .i64 i1), .pv (.str ((s.take i2.toNat).drop i.toNat)), .pv (.int .i64 i)])], [], [], 0, 0⟩⟩
noncomputable def L43_11104121116 (i : Int) (i2 : Int) (i1 : Int) (s : List UInt8) : Option Out := LV Pr T 43 [1, 1, 1, 0, 4, 1, 2, 1, 1, 1, 6] (st43_11104121116 i i2 i1 s)
theorem f43 (s : List UInt8) (i : Int) (cl_ : FuncId → List Arg → Option Out) (lp_ : List Nat → AS → Option Out) : runW Pr T cl_ lp_ 43 [.pv (.str s), .pv (.int .i64 i)] =
  bif decide (0 ≤ i) then
    (s[i.toNat]?).bind fun c =>
      (((cl_ 81 [.pv (.int .u8 (c.toNat : Int))]).bind retPV).bind fun r =>
        (bif (Sh.bool).fits r then
          bif r.toBool then
            lp_ [1, 1, 1, 0, 4, 1, 6] (st43_1110416 s i c true)
          else ((cl_ 82 [.pv (.int .u8 (c.toNat : Int))]).bind retPV).bind fun r1 =>
            (bif (Sh.bool).fits r1 then
              lp_ [1, 1, 1, 0, 4, 1, 6] (st43_1110416 s i c r1.toBool)
            else none)
        else none))
  else none := by kernel_rfl
theorem e43 (s : List UInt8) (i : Int) : V 43 [.pv (.str s), .pv (.int .i64 i)] =
  bif decide (0 ≤ i) then
    (s[i.toNat]?).bind fun c =>
      (((V 81 [.pv (.int .u8 (c.toNat : Int))]).bind retPV).bind fun r =>
        (bif (Sh.bool).fits r then
          bif r.toBool then
            L43_1110416 s i c true
          else ((V 82 [.pv (.int .u8 (c.toNat : Int))]).bind retPV).bind fun r1 =>
            (bif (Sh.bool).fits r1 then
              L43_1110416 s i c r1.toBool
            else none)
        else none))
  else none :=
  (V_eq pa rfl _).trans (f43 s i V (LV Pr T 43))
theorem f43_1110416 (s : List UInt8) (i : Int) (c : UInt8) (b : Bool) (cl_ : FuncId → List Arg → Option Out) (lp_ : List Nat → AS → Option Out) : stepW Pr T cl_ lp_ 43 [1, 1, 1, 0, 4, 1, 6] (st43_1110416 s i c b) =
  bif b then
    lp_ [1, 1, 1, 0, 4, 1, 2, 0, 4] (st43_111041204 s i c i)
  else ((cl_ 47 [.pv (.int .u8 (c.toNat : Int))]).bind retPV).bind fun r =>
    (bif (Sh.bool).fits r then
      bif r.toBool then
        lp_ [1, 1, 1, 0, 4, 1, 3, 1, 2, 0, 4] (st43_11104131204 s i i)
      else bif ((c.toNat : Int) == (34 : Int)) then
        ((cl_ 84 [.pv (.str s), .pv (.int .i64 i)]).bind retPV).bind fun r1 =>
          (bif (Sh.tup [Sh.str, Sh.int .i64, Sh.bool]).fits r1 then
            some (.pv (.tup [.agg [.int .i64 5, .str ((r1.r 0).toStr), .int .i64 i], .int .i64 ((r1.r 1).toInt), .bool ((r1.r 2).toBool)]), [])
          else none)
      else ((cl_ 48 [.pv (.str s), .pv (.int .i64 i)]).bind retPV).bind fun r2 =>
        (bif (Sh.str).fits r2 then
          some (.pv (.tup [.agg [.int .i64 6, .str r2.toStr, .int .i64 i], .int .i64 (IntKind.i64.wrap (i + (r2.toStr.length : Int))), .bool (!(r2.toStr == ([] : List UInt8)))]), [])
        else none)
    else none) := by kernel_rfl
theorem e43_1110416 (s : List UInt8) (i : Int) (c : UInt8) (b : Bool) : L43_1110416 s i c b =
  bif b then
    L43_111041204 s i c i
  else ((V 47 [.pv (.int .u8 (c.toNat : Int))]).bind retPV).bind fun r =>
    (bif (Sh.bool).fits r then
      bif r.toBool then
        L43_11104131204 s i i
      else bif ((c.toNat : Int) == (34 : Int)) then
        ((V 84 [.pv (.str s), .pv (.int .i64 i)]).bind retPV).bind fun r1 =>
          (bif (Sh.tup [Sh.str, Sh.int .i64, Sh.bool]).fits r1 then
            some (.pv (.tup [.agg [.int .i64 5, .str ((r1.r 0).toStr), .int .i64 i], .int .i64 ((r1.r 1).toInt), .bool ((r1.r 2).toBool)]), [])
          else none)
      else ((V 48 [.pv (.str s), .pv (.int .i64 i)]).bind retPV).bind fun r2 =>
        (bif (Sh.str).fits r2 then
          some (.pv (.tup [.agg [.int .i64 6, .str r2.toStr, .int .i64 i], .int .i64 (IntKind.i64.wrap (i + (r2.toStr.length : Int))), .bool (!(r2.toStr == ([] : List UInt8)))]), [])
        else none)
    else none) :=
  (LV_eq pa 43 _ _).trans (f43_1110416 s i c b V (LV Pr T 43))
theorem f43_111041204 (s : List UInt8) (i : Int) (c : UInt8) (i1 : Int) (cl_ : FuncId → List Arg → Option Out) (lp_ : List Nat → AS → Option Out) : stepW Pr T cl_ lp_ 43 [1, 1, 1, 0, 4, 1, 2, 0, 4] (st43_111041204 s i c i1) =
  bif decide (i1 < (s.length : Int)) then
    bif decide (0 ≤ i1) then
      (s[i1.toNat]?).bind fun c1 =>
        (((cl_ 83 [.pv (.int .u8 (c1.toNat : Int))]).bind retPV).bind fun r =>
          (bif (Sh.bool).fits r then
            bif r.toBool then
              lp_ [1, 1, 1, 0, 4, 1, 2, 0, 4] (st43_111041204 s i c (IntKind.i64.wrap (i1 + (1 : Int))))
            else lp_ [1, 1, 1, 0, 4, 1, 2, 1, 6] (st43_111041216 s i c i1)
          else none))
    else none
  else lp_ [1, 1, 1, 0, 4, 1, 2, 1, 6] (st43_111041216 s i c i1) := by kernel_rfl
theorem e43_111041204 (s : List UInt8) (i : Int) (c : UInt8) (i1 : Int) : L43_111041204 s i c i1 =
  bif decide (i1 < (s.length : Int)) then
    bif decide (0 ≤ i1) then
      (s[i1.toNat]?).bind fun c1 =>
        (((V 83 [.pv (.int .u8 (c1.toNat : Int))]).bind retPV).bind fun r =>
          (bif (Sh.bool).fits r then
            bif r.toBool then
              L43_111041204 s i c (IntKind.i64.wrap (i1 + (1 : Int)))
            else L43_111041216 s i c i1
          else none))
    else none
  else L43_111041216 s i c i1 :=
  (LV_eq pa 43 _ _).trans (f43_111041204 s i c i1 V (LV Pr T 43))
theorem f43_11104131204 (s : List UInt8) (i : Int) (i1 : Int) (cl_ : FuncId → List Arg → Option Out) (lp_ : List Nat → AS → Option Out) : stepW Pr T cl_ lp_ 43 [1, 1, 1, 0, 4, 1, 3, 1, 2, 0, 4] (st43_11104131204 s i i1) =
  bif decide (i1 < (s.length : Int)) then
    bif decide (0 ≤ i1) then
      (s[i1.toNat]?).bind fun c =>
        (((cl_ 47 [.pv (.int .u8 (c.toNat : Int))]).bind retPV).bind fun r =>
          (bif (Sh.bool).fits r then
            bif r.toBool then
              lp_ [1, 1, 1, 0, 4, 1, 3, 1, 2, 0, 4] (st43_11104131204 s i (IntKind.i64.wrap (i1 + (1 : Int))))
            else lp_ [1, 1, 1, 0, 4, 1, 3, 1, 2, 1, 6] (st43_11104131216 s i i1)
          else none))
    else none
  else lp_ [1, 1, 1, 0, 4, 1, 3, 1, 2, 1, 6] (st43_11104131216 s i i1) := by kernel_rfl
theorem e43_11104131204 (s : List UInt8) (i : Int) (i1 : Int) : L43_11104131204 s i i1 =
  bif decide (i1 < (s.length : Int)) then
    bif decide (0 ≤ i1) then
      (s[i1.toNat]?).bind fun c =>
        (((V 47 [.pv (.int .u8 (c.toNat : Int))]).bind retPV).bind fun r =>
          (bif (Sh.bool).fits r then
            bif r.toBool then
              L43_11104131204 s i (IntKind.i64.wrap (i1 + (1 : Int)))
            else L43_11104131216 s i i1
          else none))
    else none
  else L43_11104131216 s i i1 :=
  (LV_eq pa 43 _ _).trans (f43_11104131204 s i i1 V (LV Pr T 43))
theorem f43_111041216 (s : List UInt8) (i : Int) (c : UInt8) (i2 : Int) (cl_ : FuncId → List Arg → Option Out) (lp_ : List Nat → AS → Option Out) : stepW Pr T cl_ lp_ 43 [1, 1, 1, 0, 4, 1, 2, 1, 6] (st43_111041216 s i c i2) =
  bif (decide (0 ≤ i) && decide (i ≤ i2) && decide (i2 ≤ (s.length : Int))) then
    ((cl_ 81 [.pv (.int .u8 (c.toNat : Int))]).bind retPV).bind fun r =>
      (bif (Sh.bool).fits r then
        bif r.toBool then
          ((cl_ 46 [.pv (.str ((s.take i2.toNat).drop i.toNat))]).bind retPV).bind fun r1 =>
            (bif (Sh.bool).fits r1 then
              bif r1.toBool then
                lp_ [1, 1, 1, 0, 4, 1, 2, 1, 1, 1, 6] (st43_11104121116 i i2 3 s)
              else lp_ [1, 1, 1, 0, 4, 1, 2, 1, 1, 1, 6] (st43_11104121116 i i2 1 s)
            else none)
        else lp_ [1, 1, 1, 0, 4, 1, 2, 1, 1, 1, 6] (st43_11104121116 i i2 2 s)
      else none)
  else none := by kernel_rfl
theorem e43_111041216 (s : List UInt8) (i : Int) (c : UInt8) (i2 : Int) : L43_111041216 s i c i2 =
  bif (decide (0 ≤ i) && decide (i ≤ i2) && decide (i2 ≤ (s.length : Int))) then
    ((V 81 [.pv (.int .u8 (c.toNat : Int))]).bind retPV).bind fun r =>
      (bif (Sh.bool).fits r then
        bif r.toBool then
          ((V 46 [.pv (.str ((s.take i2.toNat).drop i.toNat))]).bind retPV).bind fun r1 =>
            (bif (Sh.bool).fits r1 then
              bif r1.toBool then
                L43_11104121116 i i2 3 s
              else L43_11104121116 i i2 1 s
            else none)
        else L43_11104121116 i i2 2 s
      else none)
  else none :=
  (LV_eq pa 43 _ _).trans (f43_111041216 s i c i2 V (LV Pr T 43))
theorem f43_11104131216 (s : List UInt8) (i : Int) (i2 : Int) (cl_ : FuncId → List Arg → Option Out) (lp_ : List Nat → AS → Option Out) : stepW Pr T cl_ lp_ 43 [1, 1, 1, 0, 4, 1, 3, 1, 2, 1, 6] (st43_11104131216 s i i2) =
  bif (decide (0 ≤ i) && decide (i ≤ i2) && decide (i2 ≤ (s.length : Int))) then
    bif decide (i2 ≥ (s.length : Int)) then
      some (.pv (.tup [.agg [.int .i64 4, .str ((s.take i2.toNat).drop i.toNat), .int .i64 i], .int .i64 i2, .bool true]), [])
    else bif decide (0 ≤ i2) then
      (s[i2.toNat]?).bind fun c =>
        (((cl_ 83 [.pv (.int .u8 (c.toNat : Int))]).bind retPV).bind fun r =>
          (bif (Sh.bool).fits r then
            some (.pv (.tup [.agg [.int .i64 4, .str ((s.take i2.toNat).drop i.toNat), .int .i64 i], .int .i64 i2, .bool (!r.toBool)]), [])
          else none))
    else none
  else none := by kernel_rfl
theorem e43_11104131216 (s : List UInt8) (i : Int) (i2 : Int) : L43_11104131216 s i i2 =
  bif (decide (0 ≤ i) && decide (i ≤ i2) && decide (i2 ≤ (s.length : Int))) then
    bif decide (i2 ≥ (s.length : Int)) then
      some (.pv (.tup [.agg [.int .i64 4, .str ((s.take i2.toNat).drop i.toNat), .int .i64 i], .int .i64 i2, .bool true]), [])
    else bif decide (0 ≤ i2) then
      (s[i2.toNat]?).bind fun c =>
        (((V 83 [.pv (.int .u8 (c.toNat : Int))]).bind retPV).bind fun r =>
          (bif (Sh.bool).fits r then
            some (.pv (.tup [.agg [.int .i64 4, .str ((s.take i2.toNat).drop i.toNat), .int .i64 i], .int .i64 i2, .bool (!r.toBool)]), [])
          else none))
    else none
  else none :=
  (LV_eq pa 43 _ _).trans (f43_11104131216 s i i2 V (LV Pr T 43))
theorem f43_11104121116 (i : Int) (i2 : Int) (i1 : Int) (s : List UInt8) (cl_ : FuncId → List Arg → Option Out) (lp_ : List Nat → AS → Option Out) : stepW Pr T cl_ lp_ 43 [1, 1, 1, 0, 4, 1, 2, 1, 1, 1, 6] (st43_11104121116 i i2 i1 s) =
  some (.pv (.tup [.agg [.int .i64 i1, .str ((s.take i2.toNat).drop i.toNat), .int .i64 i], .int .i64 i2, .bool (decide ((IntKind.i64.wrap (i2 - i)) ≤ (16 : Int)))]), []) := by kernel_rfl
theorem e43_11104121116 (i : Int) (i2 : Int) (i1 : Int) (s : List UInt8) : L43_11104121116 i i2 i1 s =
  some (.pv (.tup [.agg [.int .i64 i1, .str ((s.take i2.toNat).drop i.toNat), .int .i64 i], .int .i64 i2, .bool (decide ((IntKind.i64.wrap (i2 - i)) ≤ (16 : Int)))]), []) :=
  (LV_eq pa 43 _ _).trans (f43_11104121116 i i2 i1 s V (LV Pr T 43))
/-! 44 roadstead/token.IsLow -/
theorem f44 (s : List UInt8) (cl_ : FuncId → List Arg → Option Out) (lp_ : List Nat → AS → Option Out) : runW Pr T cl_ lp_ 44 [.pv (.str s)] =
  ((cl_ 85 [.pv (.str s), .pv (.fn 81 [])]).bind retPV).bind fun r =>
    (bif (Sh.bool).fits r then
      bif r.toBool then
        ((cl_ 46 [.pv (.str s)]).bind retPV).bind fun r1 =>
          (bif (Sh.bool).fits r1 then
            some (.pv (.bool (!r1.toBool)), [])
          else none)
      else some (.pv (.bool false), [])
    else none) := by kernel_rfl
theorem e44 (s : List UInt8) : V 44 [.pv (.str s)] =
  ((V 85 [.pv (.str s), .pv (.fn 81 [])]).bind retPV).bind fun r =>
    (bif (Sh.bool).fits r then
      bif r.toBool then
        ((V 46 [.pv (.str s)]).bind retPV).bind fun r1 =>
          (bif (Sh.bool).fits r1 then
            some (.pv (.bool (!r1.toBool)), [])
          else none)
      else some (.pv (.bool false), [])
    else none) :=
  (V_eq pa rfl _).trans (f44 s V (LV Pr T 44))
/-! 45 roadstead/token.IsUp -/
theorem f45 (s : List UInt8) (cl_ : FuncId → List Arg → Option Out) (lp_ : List Nat → AS → Option Out) : runW Pr T cl_ lp_ 45 [.pv (.str s)] =
  ((cl_ 85 [.pv (.str s), .pv (.fn 82 [])]).bind retPV).bind fun r =>
    (bif (Sh.bool).fits r then
      some (.pv (.bool r.toBool), [])
    else none) := by kernel_rfl
theorem e45 (s : List UInt8) : V 45 [.pv (.str s)] =
  ((V 85 [.pv (.str s), .pv (.fn 82 [])]).bind retPV).bind fun r =>
    (bif (Sh.bool).fits r then
      some (.pv (.bool r.toBool), [])
    else none) :=
  (V_eq pa rfl _).trans (f45 s V (LV Pr T 45))
/-! 46 roadstead/token.IsWord -/
def st46_1014 (s : List UInt8) (v : List PV) (i : Int) : AS :=
  ⟨[.pv (.str s), .any, .any, .any, .any, .pv (.lst v), .pv (.int .i64 (v.length : Int)), .pv (.int .i64 i), .any, .any, .any, .any, .any, .any, .any], ⟨[], [], [], 0, 0⟩⟩
noncomputable def L46_1014 (s : List UInt8) (v : List PV) (i : Int) : Option Out := LV Pr T 46 [1, 0, 1, 4] (st46_1014 s v i)
theorem f46 (s : List UInt8) (cl_ : FuncId → List Arg → Option Out) (lp_ : List Nat → AS → Option Out) : runW Pr T cl_ lp_ 46 [.pv (.str s)] =
  ((cl_ 86 []).bind retPV).bind fun r =>
    (bif (Sh.lst).fits r then
      lp_ [1, 0, 1, 4] (st46_1014 s r.toLst 0)
    else none) := by kernel_rfl
theorem e46 (s : List UInt8) : V 46 [.pv (.str s)] =
  ((V 86 []).bind retPV).bind fun r =>
    (bif (Sh.lst).fits r then
      L46_1014 s r.toLst 0
    else none) :=
  (V_eq pa rfl _).trans (f46 s V (LV Pr T 46))
theorem f46_1014 (s : List UInt8) (v : List PV) (i : Int) (cl_ : FuncId → List Arg → Option Out) (lp_ : List Nat → AS → Option Out) : stepW Pr T cl_ lp_ 46 [1, 0, 1, 4] (st46_1014 s v i) =
  bif decide (i < (v.length : Int)) then
    bif decide (0 ≤ i) then
      (v[i.toNat]?).bind fun x =>
        (bif (Sh.str).fits x then
          bif (x.toStr == s) then
            some (.pv (.bool true), [])
          else lp_ [1, 0, 1, 4] (st46_1014 s v (IntKind.i64.wrap (i + (1 : Int))))
        else none)
    else none
  else some (.pv (.bool false), []) := by kernel_rfl
theorem e46_1014 (s : List UInt8) (v : List PV) (i : Int) : L46_1014 s v i =
  bif decide (i < (v.length : Int)) then
    bif decide (0 ≤ i) then
      (v[i.toNat]?).bind fun x =>
        (bif (Sh.str).fits x then
          bif (x.toStr == s) then
            some (.pv (.bool true), [])
          else L46_1014 s v (IntKind.i64.wrap (i + (1 : Int)))
        else none)
    else none
  else some (.pv (.bool false), []) :=
  (LV_eq pa 46 _ _).trans (f46_1014 s v i V (LV Pr T 46))
/-! 47 roadstead/token.digit -/
theorem f47 (c : Int) (cl_ : FuncId → List Arg → Option Out) (lp_ : List Nat → AS → Option Out) : runW Pr T cl_ lp_ 47 [.pv (.int .u8 c)] =
  bif decide (c ≥ (48 : Int)) then
    some (.pv (.bool (decide (c ≤ (57 : Int)))), [])
  else some (.pv (.bool false), []) := by kernel_rfl
theorem e47 (c : Int) : V 47 [.pv (.int .u8 c)] =
  bif decide (c ≥ (48 : Int)) then
    some (.pv (.bool (decide (c ≤ (57 : Int)))), [])
  else some (.pv (.bool false), []) :=
  (V_eq pa rfl _).trans (f47 c V (LV Pr T 47))
/-! 48 roadstead/token.sign -/
def st48_1016 (s : List UInt8) (i : Int) (b : Bool) : AS :=
  ⟨[.pv (.str s), .pv (.int .i64 i), .any, .any, .any, .any, .any, .any, .any, .any, .any, .any, .any, .any, .any, .any, .any, .any, .any, .any, .any, .any, .any, .any, .any, .pv (.bool b), .any, .any, .any, .any, .any, .any, .any, .any, .any, .any, .any, .any, .any, .any, .any, .any, .any, .any, .any, .any, .any, .any, .any, .any, .any, .any, .any, .any, .any, .any, .any, .any, .any], ⟨[], [], [], 0, 0⟩⟩
noncomputable def L48_1016 (s : List UInt8) (i : Int) (b : Bool) : Option Out := LV Pr T 48 [1, 0, 1, 6] (st48_1016 s i b)
def st48_1101416 (s : List UInt8) (i : Int) (b : Bool) : AS :=
  ⟨[.pv (.str s), .pv (.int .i64 i), .any, .any, .any, .any, .any, .any, .any, .any, .any, .any, .any, .any, .any, .any, .any, .any, .any, .any, .any, .any, .any, .any, .any, .any, .any, .any, .any, .any, .any, .any, .any, .any, .pv (.bool b), .any, .any, .any, .any, .any, .any, .any, .any, .any, .any, .any, .any, .any, .any, .any, .any, .any, .any, .any, .any, .any, .any, .any, .any], ⟨[], [], [], 0, 0⟩⟩
noncomputable def L48_1101416 (s : List UInt8) (i : Int) (b : Bool) : Option Out := LV Pr T 48 [1, 1, 0, 1, 4, 1, 6] (st48_1101416 s i b)
theorem f48 (s : List UInt8) (i : Int) (cl_ : FuncId → List Arg → Option Out) (lp_ : List Nat → AS → Option Out) : runW Pr T cl_ lp_ 48 [.pv (.str s), .pv (.int .i64 i)] =
  bif decide ((IntKind.i64.wrap (i + (1 : Int))) < (s.length : Int)) then
    bif (decide (0 ≤ i) && decide (i ≤ (IntKind.i64.wrap (i + (2 : Int)))) && decide ((IntKind.i64.wrap (i + (2 : Int))) ≤ (s.length : Int))) then
      bif (((s.take (IntKind.i64.wrap (i + (2 : Int))).toNat).drop i.toNat) == ([61, 62] : List UInt8)) then
        lp_ [1, 0, 1, 6] (st48_1016 s i true)
      else bif (decide (0 ≤ i) && decide (i ≤ (IntKind.i64.wrap (i + (2 : Int)))) && decide ((IntKind.i64.wrap (i + (2 : Int))) ≤ (s.length : Int))) then
        lp_ [1, 0, 1, 6] (st48_1016 s i (((s.take (IntKind.i64.wrap (i + (2 : Int))).toNat).drop i.toNat) == ([45, 62] : List UInt8)))
      else none
    else none
  else lp_ [1, 0, 1, 6] (st48_1016 s i false) := by kernel_rfl
theorem e48 (s : List UInt8) (i : Int) : V 48 [.pv (.str s), .pv (.int .i64 i)] =
  bif decide ((IntKind.i64.wrap (i + (1 : Int))) < (s.length : Int)) then
    bif (decide (0 ≤ i) && decide (i ≤ (IntKind.i64.wrap (i + (2 : Int)))) && decide ((IntKind.i64.wrap (i + (2 : Int))) ≤ (s.length : Int))) then
      bif (((s.take (IntKind.i64.wrap (i + (2 : Int))).toNat).drop i.toNat) == ([61, 62] : List UInt8)) then
        L48_1016 s i true
      else bif (decide (0 ≤ i) && decide (i ≤ (IntKind.i64.wrap (i + (2 : Int)))) && decide ((IntKind.i64.wrap (i + (2 : Int))) ≤ (s.length : Int))) then
        L48_1016 s i (((s.take (IntKind.i64.wrap (i + (2 : Int))).toNat).drop i.toNat) == ([45, 62] : List UInt8))
      else none
    else none
  else L48_1016 s i false :=
  (V_eq pa rfl _).trans (f48 s i V (LV Pr T 48))
theorem f48_1016 (s : List UInt8) (i : Int) (b : Bool) (cl_ : FuncId → List Arg → Option Out) (lp_ : List Nat → AS → Option Out) : stepW Pr T cl_ lp_ 48 [1, 0, 1, 6] (st48_1016 s i b) =
  bif b then
    bif (decide (0 ≤ i) && decide (i ≤ (IntKind.i64.wrap (i + (2 : Int)))) && decide ((IntKind.i64.wrap (i + (2 : Int))) ≤ (s.length : Int))) then
      some (.pv (.str ((s.take (IntKind.i64.wrap (i + (2 : Int))).toNat).drop i.toNat)), [])
    else none
  else bif decide (0 ≤ i) then
    (s[i.toNat]?).bind fun c =>
      (bif ((c.toNat : Int) == (40 : Int)) then
        lp_ [1, 1, 0, 1, 4, 1, 6] (st48_1101416 s i ((c.toNat : Int) == (40 : Int)))
      else bif ((c.toNat : Int) == (41 : Int)) then
        lp_ [1, 1, 0, 1, 4, 1, 6] (st48_1101416 s i ((c.toNat : Int) == (41 : Int)))
      else bif ((c.toNat : Int) == (91 : Int)) then
        lp_ [1, 1, 0, 1, 4, 1, 6] (st48_1101416 s i ((c.toNat : Int) == (91 : Int)))
      else bif ((c.toNat : Int) == (93 : Int)) then
        lp_ [1, 1, 0, 1, 4, 1, 6] (st48_1101416 s i ((c.toNat : Int) == (93 : Int)))
      else bif ((c.toNat : Int) == (123 : Int)) then
        lp_ [1, 1, 0, 1, 4, 1, 6] (st48_1101416 s i ((c.toNat : Int) == (123 : Int)))
      else bif ((c.toNat : Int) == (125 : Int)) then
        lp_ [1, 1, 0, 1, 4, 1, 6] (st48_1101416 s i ((c.toNat : Int) == (125 : Int)))
      else bif ((c.toNat : Int) == (44 : Int)) then
        lp_ [1, 1, 0, 1, 4, 1, 6] (st48_1101416 s i ((c.toNat : Int) == (44 : Int)))
      else bif ((c.toNat : Int) == (59 : Int)) then
        lp_ [1, 1, 0, 1, 4, 1, 6] (st48_1101416 s i ((c.toNat : Int) == (59 : Int)))
      else bif ((c.toNat : Int) == (58 : Int)) then
        lp_ [1, 1, 0, 1, 4, 1, 6] (st48_1101416 s i ((c.toNat : Int) == (58 : Int)))
      else bif ((c.toNat : Int) == (61 : Int)) then
        lp_ [1, 1, 0, 1, 4, 1, 6] (st48_1101416 s i ((c.toNat : Int) == (61 : Int)))
      else bif ((c.toNat : Int) == (43 : Int)) then
        lp_ [1, 1, 0, 1, 4, 1, 6] (st48_1101416 s i ((c.toNat : Int) == (43 : Int)))
      else bif ((c.toNat : Int) == (45 : Int)) then
        lp_ [1, 1, 0, 1, 4, 1, 6] (st48_1101416 s i ((c.toNat : Int) == (45 : Int)))
      else bif ((c.toNat : Int) == (42 : Int)) then
        lp_ [1, 1, 0, 1, 4, 1, 6] (st48_1101416 s i ((c.toNat : Int) == (42 : Int)))
      else bif ((c.toNat : Int) == (47 : Int)) then
        lp_ [1, 1, 0, 1, 4, 1, 6] (st48_1101416 s i ((c.toNat : Int) == (47 : Int)))
      else bif ((c.toNat : Int) == (37 : Int)) then
        lp_ [1, 1, 0, 1, 4, 1, 6] (st48_1101416 s i ((c.toNat : Int) == (37 : Int)))
      else bif ((c.toNat : Int) == (60 : Int)) then
        lp_ [1, 1, 0, 1, 4, 1, 6] (st48_1101416 s i ((c.toNat : Int) == (60 : Int)))
      else bif ((c.toNat : Int) == (94 : Int)) then
        lp_ [1, 1, 0, 1, 4, 1, 6] (st48_1101416 s i ((c.toNat : Int) == (94 : Int)))
      else bif ((c.toNat : Int) == (124 : Int)) then
        lp_ [1, 1, 0, 1, 4, 1, 6] (st48_1101416 s i ((c.toNat : Int) == (124 : Int)))
      else lp_ [1, 1, 0, 1, 4, 1, 6] (st48_1101416 s i ((c.toNat : Int) == (95 : Int))))
  else none := by kernel_rfl
theorem e48_1016 (s : List UInt8) (i : Int) (b : Bool) : L48_1016 s i b =
  bif b then
    bif (decide (0 ≤ i) && decide (i ≤ (IntKind.i64.wrap (i + (2 : Int)))) && decide ((IntKind.i64.wrap (i + (2 : Int))) ≤ (s.length : Int))) then
      some (.pv (.str ((s.take (IntKind.i64.wrap (i + (2 : Int))).toNat).drop i.toNat)), [])
    else none
  else bif decide (0 ≤ i) then
    (s[i.toNat]?).bind fun c =>
      (bif ((c.toNat : Int) == (40 : Int)) then
        L48_1101416 s i ((c.toNat : Int) == (40 : Int))
      else bif ((c.toNat : Int) == (41 : Int)) then
        L48_1101416 s i ((c.toNat : Int) == (41 : Int))
      else bif ((c.toNat : Int) == (91 : Int)) then
        L48_1101416 s i ((c.toNat : Int) == (91 : Int))
      else bif ((c.toNat : Int) == (93 : Int)) then
        L48_1101416 s i ((c.toNat : Int) == (93 : Int))
      else bif ((c.toNat : Int) == (123 : Int)) then
        L48_1101416 s i ((c.toNat : Int) == (123 : Int))
      else bif ((c.toNat : Int) == (125 : Int)) then
        L48_1101416 s i ((c.toNat : Int) == (125 : Int))
      else bif ((c.toNat : Int) == (44 : Int)) then
        L48_1101416 s i ((c.toNat : Int) == (44 : Int))
      else bif ((c.toNat : Int) == (59 : Int)) then
        L48_1101416 s i ((c.toNat : Int) == (59 : Int))
      else bif ((c.toNat : Int) == (58 : Int)) then
        L48_1101416 s i ((c.toNat : Int) == (58 : Int))
      else bif ((c.toNat : Int) == (61 : Int)) then
        L48_1101416 s i ((c.toNat : Int) == (61 : Int))
      else bif ((c.toNat : Int) == (43 : Int)) then
        L48_1101416 s i ((c.toNat : Int) == (43 : Int))
      else bif ((c.toNat : Int) == (45 : Int)) then
        L48_1101416 s i ((c.toNat : Int) == (45 : Int))
      else bif ((c.toNat : Int) == (42 : Int)) then
        L48_1101416 s i ((c.toNat : Int) == (42 : Int))
      else bif ((c.toNat : Int) == (47 : Int)) then
        L48_1101416 s i ((c.toNat : Int) == (47 : Int))
      else bif ((c.toNat : Int) == (37 : Int)) then
        L48_1101416 s i ((c.toNat : Int) == (37 : Int))
      else bif ((c.toNat : Int) == (60 : Int)) then
        L48_1101416 s i ((c.toNat : Int) == (60 : Int))
      else bif ((c.toNat : Int) == (94 : Int)) then
        L48_1101416 s i ((c.toNat : Int) == (94 : Int))
      else bif ((c.toNat : Int) == (124 : Int)) then
        L48_1101416 s i ((c.toNat : Int) == (124 : Int))
      else L48_1101416 s i ((c.toNat : Int) == (95 : Int)))
  else none :=
  (LV_eq pa 48 _ _).trans (f48_1016 s i b V (LV Pr T 48))
theorem f48_1101416 (s : List UInt8) (i : Int) (b : Bool) (cl_ : FuncId → List Arg → Option Out) (lp_ : List Nat → AS → Option Out) : stepW Pr T cl_ lp_ 48 [1, 1, 0, 1, 4, 1, 6] (st48_1101416 s i b) =
  bif b then
    bif (decide (0 ≤ i) && decide (i ≤ (IntKind.i64.wrap (i + (1 : Int)))) && decide ((IntKind.i64.wrap (i + (1 : Int))) ≤ (s.length : Int))) then
      some (.pv (.str ((s.take (IntKind.i64.wrap (i + (1 : Int))).toNat).drop i.toNat)), [])
    else none
  else some (.pv (.str []), []) := by kernel_rfl
theorem e48_1101416 (s : List UInt8) (i : Int) (b : Bool) : L48_1101416 s i b =
  bif b then
    bif (decide (0 ≤ i) && decide (i ≤ (IntKind.i64.wrap (i + (1 : Int)))) && decide ((IntKind.i64.wrap (i + (1 : Int))) ≤ (s.length : Int))) then
      some (.pv (.str ((s.take (IntKind.i64.wrap (i + (1 : Int))).toNat).drop i.toNat)), [])
    else none
  else some (.pv (.str []), []) :=
  (LV_eq pa 48 _ _).trans (f48_1101416 s i b V (LV Pr T 48))
/-! 81 roadstead/token.low -/
theorem f81 (c : Int) (cl_ : FuncId → List Arg → Option Out) (lp_ : List Nat → AS → Option Out) : runW Pr T cl_ lp_ 81 [.pv (.int .u8 c)] =
  bif decide (c ≥ (97 : Int)) then
    some (.pv (.bool (decide (c ≤ (122 : Int)))), [])
  else some (.pv (.bool false), []) := by kernel_rfl
theorem e81 (c : Int) : V 81 [.pv (.int .u8 c)] =
  bif decide (c ≥ (97 : Int)) then
    some (.pv (.bool (decide (c ≤ (122 : Int)))), [])
  else some (.pv (.bool false), []) :=
  (V_eq pa rfl _).trans (f81 c V (LV Pr T 81))
/-! 82 roadstead/token.great -/
theorem f82 (c : Int) (cl_ : FuncId → List Arg → Option Out) (lp_ : List Nat → AS → Option Out) : runW Pr T cl_ lp_ 82 [.pv (.int .u8 c)] =
  bif decide (c ≥ (65 : Int)) then
    some (.pv (.bool (decide (c ≤ (90 : Int)))), [])
  else some (.pv (.bool false), []) := by kernel_rfl
theorem e82 (c : Int) : V 82 [.pv (.int .u8 c)] =
  bif decide (c ≥ (65 : Int)) then
    some (.pv (.bool (decide (c ≤ (90 : Int)))), [])
  else some (.pv (.bool false), []) :=
  (V_eq pa rfl _).trans (f82 c V (LV Pr T 82))
/-! 83 roadstead/token.inner -/
theorem f83 (c : Int) (cl_ : FuncId → List Arg → Option Out) (lp_ : List Nat → AS → Option Out) : runW Pr T cl_ lp_ 83 [.pv (.int .u8 c)] =
  ((cl_ 81 [.pv (.int .u8 c)]).bind retPV).bind fun r =>
    (bif (Sh.bool).fits r then
      bif r.toBool then
        some (.pv (.bool true), [])
      else ((cl_ 82 [.pv (.int .u8 c)]).bind retPV).bind fun r1 =>
        (bif (Sh.bool).fits r1 then
          bif r1.toBool then
            some (.pv (.bool true), [])
          else ((cl_ 47 [.pv (.int .u8 c)]).bind retPV).bind fun r2 =>
            (bif (Sh.bool).fits r2 then
              bif r2.toBool then
                some (.pv (.bool true), [])
              else some (.pv (.bool (c == (95 : Int))), [])
            else none)
        else none)
    else none) := by kernel_rfl
theorem e83 (c : Int) : V 83 [.pv (.int .u8 c)] =
  ((V 81 [.pv (.int .u8 c)]).bind retPV).bind fun r =>
    (bif (Sh.bool).fits r then
      bif r.toBool then
        some (.pv (.bool true), [])
      else ((V 82 [.pv (.int .u8 c)]).bind retPV).bind fun r1 =>
        (bif (Sh.bool).fits r1 then
          bif r1.toBool then
            some (.pv (.bool true), [])
          else ((V 47 [.pv (.int .u8 c)]).bind retPV).bind fun r2 =>
            (bif (Sh.bool).fits r2 then
              bif r2.toBool then
                some (.pv (.bool true), [])
              else some (.pv (.bool (c == (95 : Int))), [])
            else none)
        else none)
    else none) :=
  (V_eq pa rfl _).trans (f83 c V (LV Pr T 83))
/-! 84 roadstead/token.text -/
def st84_11014 (s : List UInt8) (i1 : Int) (l : List PV) : AS :=
  ⟨[.pv (.str s), .pv (.int .i64 i1), .any, .any, .any, .any, .any, .bld 0 0 l, .any, .any, .any, .any, .any, .any, .any, .any, .any, .any, .any, .any, .any, .any, .any, .any, .any, .any, .any, .any, .any, .any, .any, .any, .any, .any, .any, .any, .any, .any, .any, .any, .any, .any, .any, .any, .any, .any, .any, .any, .any, .any, .any, .any, .any, .any, .any, .any, .any, .any, .any, .any, .any, .any, .any, .any, .any, .any, .any, .any, .any, .any, .any, .any, .any, .any, .any, .any, .any, .any, .any, .any, .any, .any, .any, .any, .any, .any, .any, .any, .any, .any, .any, .any, .any, .any, .any, .any, .any, .any, .any, .any, .any, .any, .any, .any, .any, .any, .any, .any, .any, .any, .any, .any, .any, .any, .any, .any, .any], ⟨[], [], [(0, 1)], 0, 0⟩⟩
noncomputable def L84_11014 (s : List UInt8) (i1 : Int) (l : List PV) : Option Out := LV Pr T 84 [1, 1, 0, 1, 4] (st84_11014 s i1 l)
def st84_110145141110141316 (s : List UInt8) (i2 : Int) (l1 : List PV) (c1 : UInt8) (b : Bool) : AS :=
  ⟨[.pv (.str s), .pv (.int .i64 i2), .any, .any, .any, .any, .any, .bld 0 0 l1, .any, .any, .any, .any, .any, .any, .any, .any, .any, .any, .any, .any, .any, .any, .any, .any, .any, .any, .any, .any, .any, .any, .any, .any, .any, .any, .any, .any, .any, .any, .any, .any, .any, .any, .any, .any, .any, .any, .any, .any, .any, .any, .any, .any, .any, .any, .any, .pv (.int .u8 (c1.toNat : Int)), .any, .any, .any, .any, .any, .any, .pv (.bool b), .any, .any, .any, .any, .any, .any, .any, .any, .any, .any, .any, .any, .any, .any, .any, .any, .any, .any, .any, .any, .any, .any, .any, .any, .any, .any, .any, .any, .any, .any, .any, .any, .any, .any, .any, .any, .any, .any, .any, .any, .any, .any, .any, .any, .any, .any, .any, .any, .any, .any, .any, .any, .any, .any], ⟨[], [], [(0, 1)], 0, 0⟩⟩
noncomputable def L84_110145141110141316 (s : List UInt8) (i2 : Int) (l1 : List PV) (c1 : UInt8) (b : Bool) : Option Out := LV Pr T 84 [1, 1, 0, 1, 4, 5, 1, 4, 1, 1, 1, 0, 1, 4, 1, 3, 1, 6] (st84_110145141110141316 s i2 l1 c1 b)
theorem f84 (s : List UInt8) (i : Int) (cl_ : FuncId → List Arg → Option Out) (lp_ : List Nat → AS → Option Out) : runW Pr T cl_ lp_ 84 [.pv (.str s), .pv (.int .i64 i)] =
  lp_ [1, 1, 0, 1, 4] (st84_11014 s (IntKind.i64.wrap (i + (1 : Int))) []) := by kernel_rfl
theorem e84 (s : List UInt8) (i : Int) : V 84 [.pv (.str s), .pv (.int .i64 i)] =
  L84_11014 s (IntKind.i64.wrap (i + (1 : Int))) [] :=
  (V_eq pa rfl _).trans (f84 s i V (LV Pr T 84))
theorem f84_11014 (s : List UInt8) (i1 : Int) (l : List PV) (cl_ : FuncId → List Arg → Option Out) (lp_ : List Nat → AS → Option Out) : stepW Pr T cl_ lp_ 84 [1, 1, 0, 1, 4] (st84_11014 s i1 l) =
  bif decide (i1 < (s.length : Int)) then
    bif decide (0 ≤ i1) then
      (s[i1.toNat]?).bind fun c =>
        (bif ((c.toNat : Int) == (34 : Int)) then
          bif l.all isByte then
            some (.pv (.tup [.str (l.map toByte), .int .i64 (IntKind.i64.wrap (i1 + (1 : Int))), .bool (decide ((l.length : Int) ≤ (64 : Int)))]), [])
          else none
        else bif decide ((c.toNat : Int) < (32 : Int)) then
          some (.pv (.tup [.str [], .int .i64 i1, .bool false]), [])
        else bif ((c.toNat : Int) != (92 : Int)) then
          bif small (l.length) 1 1 then
            lp_ [1, 1, 0, 1, 4] (st84_11014 s (IntKind.i64.wrap (i1 + (1 : Int))) (l ++ ([.int .u8 (c.toNat : Int)] : List PV)))
          else none
        else bif decide ((IntKind.i64.wrap (i1 + (1 : Int))) ≥ (s.length : Int)) then
          some (.pv (.tup [.str [], .int .i64 (s.length : Int), .bool false]), [])
        else bif decide (0 ≤ (IntKind.i64.wrap (i1 + (1 : Int)))) then
          (s[(IntKind.i64.wrap (i1 + (1 : Int))).toNat]?).bind fun c1 =>
            (bif ((c1.toNat : Int) == (110 : Int)) then
              bif small (l.length) 1 1 then
                lp_ [1, 1, 0, 1, 4] (st84_11014 s (IntKind.i64.wrap (i1 + (2 : Int))) (l ++ ([.int .u8 10] : List PV)))
              else none
            else bif ((c1.toNat : Int) == (34 : Int)) then
              lp_ [1, 1, 0, 1, 4, 5, 1, 4, 1, 1, 1, 0, 1, 4, 1, 3, 1, 6] (st84_110145141110141316 s i1 l c1 ((c1.toNat : Int) == (34 : Int)))
            else lp_ [1, 1, 0, 1, 4, 5, 1, 4, 1, 1, 1, 0, 1, 4, 1, 3, 1, 6] (st84_110145141110141316 s i1 l c1 ((c1.toNat : Int) == (92 : Int))))
        else none)
    else none
  else some (.pv (.tup [.str [], .int .i64 (s.length : Int), .bool false]), []) := by kernel_rfl
theorem e84_11014 (s : List UInt8) (i1 : Int) (l : List PV) : L84_11014 s i1 l =
  bif decide (i1 < (s.length : Int)) then
    bif decide (0 ≤ i1) then
      (s[i1.toNat]?).bind fun c =>
        (bif ((c.toNat : Int) == (34 : Int)) then
          bif l.all isByte then
            some (.pv (.tup [.str (l.map toByte), .int .i64 (IntKind.i64.wrap (i1 + (1 : Int))), .bool (decide ((l.length : Int) ≤ (64 : Int)))]), [])
          else none
        else bif decide ((c.toNat : Int) < (32 : Int)) then
          some (.pv (.tup [.str [], .int .i64 i1, .bool false]), [])
        else bif ((c.toNat : Int) != (92 : Int)) then
          bif small (l.length) 1 1 then
            L84_11014 s (IntKind.i64.wrap (i1 + (1 : Int))) (l ++ ([.int .u8 (c.toNat : Int)] : List PV))
          else none
        else bif decide ((IntKind.i64.wrap (i1 + (1 : Int))) ≥ (s.length : Int)) then
          some (.pv (.tup [.str [], .int .i64 (s.length : Int), .bool false]), [])
        else bif decide (0 ≤ (IntKind.i64.wrap (i1 + (1 : Int)))) then
          (s[(IntKind.i64.wrap (i1 + (1 : Int))).toNat]?).bind fun c1 =>
            (bif ((c1.toNat : Int) == (110 : Int)) then
              bif small (l.length) 1 1 then
                L84_11014 s (IntKind.i64.wrap (i1 + (2 : Int))) (l ++ ([.int .u8 10] : List PV))
              else none
            else bif ((c1.toNat : Int) == (34 : Int)) then
              L84_110145141110141316 s i1 l c1 ((c1.toNat : Int) == (34 : Int))
            else L84_110145141110141316 s i1 l c1 ((c1.toNat : Int) == (92 : Int)))
        else none)
    else none
  else some (.pv (.tup [.str [], .int .i64 (s.length : Int), .bool false]), []) :=
  (LV_eq pa 84 _ _).trans (f84_11014 s i1 l V (LV Pr T 84))
theorem f84_110145141110141316 (s : List UInt8) (i2 : Int) (l1 : List PV) (c1 : UInt8) (b : Bool) (cl_ : FuncId → List Arg → Option Out) (lp_ : List Nat → AS → Option Out) : stepW Pr T cl_ lp_ 84 [1, 1, 0, 1, 4, 5, 1, 4, 1, 1, 1, 0, 1, 4, 1, 3, 1, 6] (st84_110145141110141316 s i2 l1 c1 b) =
  bif b then
    bif decide (0 ≤ (IntKind.i64.wrap (i2 + (1 : Int)))) then
      (s[(IntKind.i64.wrap (i2 + (1 : Int))).toNat]?).bind fun c =>
        (bif small (l1.length) 1 1 then
          lp_ [1, 1, 0, 1, 4] (st84_11014 s (IntKind.i64.wrap (i2 + (2 : Int))) (l1 ++ ([.int .u8 (c.toNat : Int)] : List PV)))
        else none)
    else none
  else bif ((c1.toNat : Int) == (120 : Int)) then
    bif decide ((IntKind.i64.wrap (i2 + (3 : Int))) ≥ (s.length : Int)) then
      some (.pv (.tup [.str [], .int .i64 (s.length : Int), .bool false]), [])
    else bif decide (0 ≤ (IntKind.i64.wrap (i2 + (2 : Int)))) then
      (s[(IntKind.i64.wrap (i2 + (2 : Int))).toNat]?).bind fun c2 =>
        (((cl_ 108 [.pv (.int .u8 (c2.toNat : Int))]).bind retPV).bind fun r =>
          (bif (Sh.tup [Sh.int .u8, Sh.bool]).fits r then
            bif decide (0 ≤ (IntKind.i64.wrap (i2 + (3 : Int)))) then
              (s[(IntKind.i64.wrap (i2 + (3 : Int))).toNat]?).bind fun c3 =>
                (((cl_ 108 [.pv (.int .u8 (c3.toNat : Int))]).bind retPV).bind fun r1 =>
                  (bif (Sh.tup [Sh.int .u8, Sh.bool]).fits r1 then
                    bif (!(r.r 1).toBool) then
                      some (.pv (.tup [.str [], .int .i64 i2, .bool false]), [])
                    else bif (!(r1.r 1).toBool) then
                      some (.pv (.tup [.str [], .int .i64 i2, .bool false]), [])
                    else bif small (l1.length) 1 1 then
                      lp_ [1, 1, 0, 1, 4] (st84_11014 s (IntKind.i64.wrap ((IntKind.i64.wrap (i2 + (2 : Int))) + (2 : Int))) (l1 ++ ([.int .u8 (IntKind.u8.wrap (BitVec.ofInt (IntKind.bits .u8) (IntKind.u8.wrap (((r.r 0).toInt) * 2 ^ (min (4 : Int).toNat (IntKind.bits .u8)))) ||| BitVec.ofInt (IntKind.bits .u8) ((r1.r 0).toInt)).toNat)] : List PV)))
                    else none
                  else none))
            else none
          else none))
    else none
  else some (.pv (.tup [.str [], .int .i64 i2, .bool false]), []) := by kernel_rfl
theorem e84_110145141110141316 (s : List UInt8) (i2 : Int) (l1 : List PV) (c1 : UInt8) (b : Bool) : L84_110145141110141316 s i2 l1 c1 b =
  bif b then
    bif decide (0 ≤ (IntKind.i64.wrap (i2 + (1 : Int)))) then
      (s[(IntKind.i64.wrap (i2 + (1 : Int))).toNat]?).bind fun c =>
        (bif small (l1.length) 1 1 then
          L84_11014 s (IntKind.i64.wrap (i2 + (2 : Int))) (l1 ++ ([.int .u8 (c.toNat : Int)] : List PV))
        else none)
    else none
  else bif ((c1.toNat : Int) == (120 : Int)) then
    bif decide ((IntKind.i64.wrap (i2 + (3 : Int))) ≥ (s.length : Int)) then
      some (.pv (.tup [.str [], .int .i64 (s.length : Int), .bool false]), [])
    else bif decide (0 ≤ (IntKind.i64.wrap (i2 + (2 : Int)))) then
      (s[(IntKind.i64.wrap (i2 + (2 : Int))).toNat]?).bind fun c2 =>
        (((V 108 [.pv (.int .u8 (c2.toNat : Int))]).bind retPV).bind fun r =>
          (bif (Sh.tup [Sh.int .u8, Sh.bool]).fits r then
            bif decide (0 ≤ (IntKind.i64.wrap (i2 + (3 : Int)))) then
              (s[(IntKind.i64.wrap (i2 + (3 : Int))).toNat]?).bind fun c3 =>
                (((V 108 [.pv (.int .u8 (c3.toNat : Int))]).bind retPV).bind fun r1 =>
                  (bif (Sh.tup [Sh.int .u8, Sh.bool]).fits r1 then
                    bif (!(r.r 1).toBool) then
                      some (.pv (.tup [.str [], .int .i64 i2, .bool false]), [])
                    else bif (!(r1.r 1).toBool) then
                      some (.pv (.tup [.str [], .int .i64 i2, .bool false]), [])
                    else bif small (l1.length) 1 1 then
                      L84_11014 s (IntKind.i64.wrap ((IntKind.i64.wrap (i2 + (2 : Int))) + (2 : Int))) (l1 ++ ([.int .u8 (IntKind.u8.wrap (BitVec.ofInt (IntKind.bits .u8) (IntKind.u8.wrap (((r.r 0).toInt) * 2 ^ (min (4 : Int).toNat (IntKind.bits .u8)))) ||| BitVec.ofInt (IntKind.bits .u8) ((r1.r 0).toInt)).toNat)] : List PV))
                    else none
                  else none))
            else none
          else none))
    else none
  else some (.pv (.tup [.str [], .int .i64 i2, .bool false]), []) :=
  (LV_eq pa 84 _ _).trans (f84_110145141110141316 s i2 l1 c1 b V (LV Pr T 84))
/-! 85 roadstead/token.name -/
def st85_11014 (s : List UInt8) (i : Int) : AS :=
  ⟨[.any, .any, .any, .any, .any, .any, .any, .any, .any, .any, .any, .any, .any, .any, .any, .any, .any, .any, .any, .any, .any, .any, .any, .pv (.lst (s.map fun c => PV.int .u8 c.toNat)), .pv (.int .i64 ((s.map fun c => PV.int .u8 c.toNat).length : Int)), .pv (.int .i64 i), .any, .any, .any, .any, .any, .any, .any], ⟨[], [], [], 0, 0⟩⟩
noncomputable def L85_11014 (s : List UInt8) (i : Int) : Option Out := LV Pr T 85 [1, 1, 0, 1, 4] (st85_11014 s i)
theorem f85 (s : List UInt8) (first_f : FuncId) (first_c : List PV) (cl_ : FuncId → List Arg → Option Out) (lp_ : List Nat → AS → Option Out) : runW Pr T cl_ lp_ 85 [.pv (.str s), .pv (.fn first_f first_c)] =
  bif decide ((s.length : Int) < (1 : Int)) then
    some (.pv (.bool false), [])
  else bif decide ((s.length : Int) > (16 : Int)) then
    some (.pv (.bool false), [])
  else (s[(0 : Int).toNat]?).bind fun c =>
    (((cl_ first_f ((([.int .u8 (c.toNat : Int)] : List PV) ++ first_c).map .pv)).bind retPV).bind fun r =>
      (bif (Sh.bool).fits r then
        bif (!r.toBool) then
          some (.pv (.bool false), [])
        else bif decide (s.length ≤ 2147483648) then
          lp_ [1, 1, 0, 1, 4] (st85_11014 s 0)
        else none
      else none)) := by kernel_rfl
theorem e85 (s : List UInt8) (first_f : FuncId) (first_c : List PV) : V 85 [.pv (.str s), .pv (.fn first_f first_c)] =
  bif decide ((s.length : Int) < (1 : Int)) then
    some (.pv (.bool false), [])
  else bif decide ((s.length : Int) > (16 : Int)) then
    some (.pv (.bool false), [])
  else (s[(0 : Int).toNat]?).bind fun c =>
    (((V first_f ((([.int .u8 (c.toNat : Int)] : List PV) ++ first_c).map .pv)).bind retPV).bind fun r =>
      (bif (Sh.bool).fits r then
        bif (!r.toBool) then
          some (.pv (.bool false), [])
        else bif decide (s.length ≤ 2147483648) then
          L85_11014 s 0
        else none
      else none)) :=
  (V_eq pa rfl _).trans (f85 s first_f first_c V (LV Pr T 85))
theorem f85_11014 (s : List UInt8) (i : Int) (cl_ : FuncId → List Arg → Option Out) (lp_ : List Nat → AS → Option Out) : stepW Pr T cl_ lp_ 85 [1, 1, 0, 1, 4] (st85_11014 s i) =
  bif decide (i < ((s.map fun c => PV.int .u8 c.toNat).length : Int)) then
    bif decide (0 ≤ i) then
      ((s.map fun c => PV.int .u8 c.toNat)[i.toNat]?).bind fun x =>
        (bif (Sh.int .u8).fits x then
          ((cl_ 83 [.pv (.int .u8 x.toInt)]).bind retPV).bind fun r =>
            (bif (Sh.bool).fits r then
              bif (!r.toBool) then
                some (.pv (.bool false), [])
              else lp_ [1, 1, 0, 1, 4] (st85_11014 s (IntKind.i64.wrap (i + (1 : Int))))
            else none)
        else none)
    else none
  else some (.pv (.bool true), []) := by kernel_rfl
theorem e85_11014 (s : List UInt8) (i : Int) : L85_11014 s i =
  bif decide (i < ((s.map fun c => PV.int .u8 c.toNat).length : Int)) then
    bif decide (0 ≤ i) then
      ((s.map fun c => PV.int .u8 c.toNat)[i.toNat]?).bind fun x =>
        (bif (Sh.int .u8).fits x then
          ((V 83 [.pv (.int .u8 x.toInt)]).bind retPV).bind fun r =>
            (bif (Sh.bool).fits r then
              bif (!r.toBool) then
                some (.pv (.bool false), [])
              else L85_11014 s (IntKind.i64.wrap (i + (1 : Int)))
            else none)
        else none)
    else none
  else some (.pv (.bool true), []) :=
  (LV_eq pa 85 _ _).trans (f85_11014 s i V (LV Pr T 85))
/-! 86 roadstead/token.Words -/
theorem f86  (cl_ : FuncId → List Arg → Option Out) (lp_ : List Nat → AS → Option Out) : runW Pr T cl_ lp_ 86 [] =
  some (.pv (.lst [.str [97, 99, 116, 111, 114], .str [97, 102, 116, 101, 114], .str [97, 110, 100], .str [97, 112, 112, 108, 121], .str [98, 101, 99, 111, 109, 101], .str [98, 111, 111, 108], .str [99, 101, 108, 108], .str [100, 97, 116, 97], .str [101, 108, 115, 101], .str [102, 97, 105, 108], .str [102, 97, 108, 115, 101], .str [102, 110], .str [102, 111, 114], .str [102, 117, 110], .str [103, 101, 116], .str [105, 102], .str [105, 109, 112, 108], .str [105, 110], .str [105, 110, 116], .str [108, 101, 116], .str [108, 105, 110, 107], .str [109, 97, 116, 99, 104], .str [109, 111, 100, 117, 108, 101], .str [110, 111, 116], .str [111, 114], .str [112, 117, 116], .str [114, 101, 99, 101, 105, 118, 101], .str [115, 97, 121], .str [115, 101, 108, 102], .str [115, 101, 110, 100], .str [115, 112, 97, 119, 110], .str [116, 101, 120, 116], .str [116, 104, 101, 110], .str [116, 114, 97, 105, 116], .str [116, 114, 117, 101], .str [117, 110, 105, 116], .str [117, 115, 101], .str [119, 97, 116, 99, 104]]), []) := by kernel_rfl
theorem e86  : V 86 [] =
  some (.pv (.lst [.str [97, 99, 116, 111, 114], .str [97, 102, 116, 101, 114], .str [97, 110, 100], .str [97, 112, 112, 108, 121], .str [98, 101, 99, 111, 109, 101], .str [98, 111, 111, 108], .str [99, 101, 108, 108], .str [100, 97, 116, 97], .str [101, 108, 115, 101], .str [102, 97, 105, 108], .str [102, 97, 108, 115, 101], .str [102, 110], .str [102, 111, 114], .str [102, 117, 110], .str [103, 101, 116], .str [105, 102], .str [105, 109, 112, 108], .str [105, 110], .str [105, 110, 116], .str [108, 101, 116], .str [108, 105, 110, 107], .str [109, 97, 116, 99, 104], .str [109, 111, 100, 117, 108, 101], .str [110, 111, 116], .str [111, 114], .str [112, 117, 116], .str [114, 101, 99, 101, 105, 118, 101], .str [115, 97, 121], .str [115, 101, 108, 102], .str [115, 101, 110, 100], .str [115, 112, 97, 119, 110], .str [116, 101, 120, 116], .str [116, 104, 101, 110], .str [116, 114, 97, 105, 116], .str [116, 114, 117, 101], .str [117, 110, 105, 116], .str [117, 115, 101], .str [119, 97, 116, 99, 104]]), []) :=
  (V_eq pa rfl _).trans (f86  V (LV Pr T 86))
/-! 108 roadstead/token.hex -/
def st108_1041316 (c : Int) (b : Bool) : AS :=
  ⟨[.pv (.int .u8 c), .any, .any, .any, .any, .any, .any, .any, .any, .pv (.bool b), .any, .any, .any, .any, .any, .any, .any, .any, .any], ⟨[], [], [], 0, 0⟩⟩
noncomputable def L108_1041316 (c : Int) (b : Bool) : Option Out := LV Pr T 108 [1, 0, 4, 1, 3, 1, 6] (st108_1041316 c b)
theorem f108 (c : Int) (cl_ : FuncId → List Arg → Option Out) (lp_ : List Nat → AS → Option Out) : runW Pr T cl_ lp_ 108 [.pv (.int .u8 c)] =
  ((cl_ 47 [.pv (.int .u8 c)]).bind retPV).bind fun r =>
    (bif (Sh.bool).fits r then
      bif r.toBool then
        some (.pv (.tup [.int .u8 (IntKind.u8.wrap (c - (48 : Int))), .bool true]), [])
      else bif decide (c ≥ (97 : Int)) then
        lp_ [1, 0, 4, 1, 3, 1, 6] (st108_1041316 c (decide (c ≤ (102 : Int))))
      else lp_ [1, 0, 4, 1, 3, 1, 6] (st108_1041316 c false)
    else none) := by kernel_rfl
theorem e108 (c : Int) : V 108 [.pv (.int .u8 c)] =
  ((V 47 [.pv (.int .u8 c)]).bind retPV).bind fun r =>
    (bif (Sh.bool).fits r then
      bif r.toBool then
        some (.pv (.tup [.int .u8 (IntKind.u8.wrap (c - (48 : Int))), .bool true]), [])
      else bif decide (c ≥ (97 : Int)) then
        L108_1041316 c (decide (c ≤ (102 : Int)))
      else L108_1041316 c false
    else none) :=
  (V_eq pa rfl _).trans (f108 c V (LV Pr T 108))
theorem f108_1041316 (c : Int) (b : Bool) (cl_ : FuncId → List Arg → Option Out) (lp_ : List Nat → AS → Option Out) : stepW Pr T cl_ lp_ 108 [1, 0, 4, 1, 3, 1, 6] (st108_1041316 c b) =
  bif b then
    some (.pv (.tup [.int .u8 (IntKind.u8.wrap ((IntKind.u8.wrap (c - (97 : Int))) + (10 : Int))), .bool true]), [])
  else some (.pv (.tup [.int .u8 0, .bool false]), []) := by kernel_rfl
theorem e108_1041316 (c : Int) (b : Bool) : L108_1041316 c b =
  bif b then
    some (.pv (.tup [.int .u8 (IntKind.u8.wrap ((IntKind.u8.wrap (c - (97 : Int))) + (10 : Int))), .bool true]), [])
  else some (.pv (.tup [.int .u8 0, .bool false]), []) :=
  (LV_eq pa 108 _ _).trans (f108_1041316 c b V (LV Pr T 108))
end Go.AL.S8
