/- Equations of functions in the abstract machine: printed by gen.py. -/
import Derived.Test.YtlmodlihiglnhaaS4T
set_option linter.unusedVariables false
set_option maxRecDepth 100000
namespace Go.AL.S4
open Go Go.AL
/-! 19 roadstead/unify.Solve -/
def st19_11014 (pairs : List PV) : AS :=
  ⟨[.any, .any, .any, .any, .pv .nils, .any, .any, .any, .pv (.lst pairs), .pv (.int .i64 (pairs.length : Int)), .pv (.int .i64 0), .any, .any, .any, .any, .any, .any, .any, .any, .any, .any, .any, .any, .any, .any, .any, .any, .any, .any, .any], ⟨[], [], [], 0, 0⟩⟩
noncomputable def L19_11014 (pairs : List PV) : Option Out := LV Pr T 19 [1, 1, 0, 1, 4] (st19_11014 pairs)
def st19_11014v1 (pairs : List PV) (i : Int) (q : Nat × List PV × List PV) : AS :=
  ⟨[.any, .any, .any, .any, .vec 0 0, .any, .any, .any, .pv (.lst pairs), .pv (.int .i64 (pairs.length : Int)), .pv (.int .i64 i), .any, .any, .any, .any, .any, .any, .any, .any, .any, .any, .any, .any, .any, .any, .any, .any, .any, .any, .any], ⟨[], [some (0, 4, q.2.1)], [], 0, 0⟩⟩
noncomputable def L19_11014v1 (pairs : List PV) (i : Int) (q : Nat × List PV × List PV) : Option Out := LV Pr T 19 [1, 1, 0, 1, 4] (st19_11014v1 pairs i q)
theorem f19 (pairs : List PV) (cl_ : FuncId → List Arg → Option Out) (lp_ : List Nat → AS → Option Out) : runW Pr T cl_ lp_ 19 [.pv (.lst pairs)] =
  lp_ [1, 1, 0, 1, 4] (st19_11014 pairs) := by kernel_rfl
theorem e19 (pairs : List PV) : V 19 [.pv (.lst pairs)] =
  L19_11014 pairs :=
  (V_eq pa rfl _).trans (f19 pairs V (LV Pr T 19))
theorem f19_11014 (pairs : List PV) (cl_ : FuncId → List Arg → Option Out) (lp_ : List Nat → AS → Option Out) : stepW Pr T cl_ lp_ 19 [1, 1, 0, 1, 4] (st19_11014 pairs) =
  bif decide ((0 : Int) < (pairs.length : Int)) then
    (pairs[(0 : Int).toNat]?).bind fun x =>
      (bif (Sh.agg [Sh.int .i64, Sh.str, Sh.lst, Sh.int .i64, Sh.str, Sh.lst]).fits x then
        (cl_ 51 [.own 4 [], .pv (.agg [.int .i64 ((x.c 0).toInt), .str ((x.c 1).toStr), .lst ((x.c 2).toLst)]), .pv (.agg [.int .i64 ((x.c 3).toInt), .str ((x.c 4).toStr), .lst ((x.c 5).toLst)])]).bind fun r =>
          ((retT r).bind fun q =>
            (bif (Nat.beq q.1 4 && Sh.fitsL [Sh.int .i64] q.2.2 false) then
              bif ((((PV.tup q.2.2).r 0).toInt) != (0 : Int)) then
                some (.pv (.tup [.lst [], .int .i64 (((PV.tup q.2.2).r 0).toInt)]), [])
              else lp_ [1, 1, 0, 1, 4] (st19_11014v1 pairs 1 q)
            else none))
      else none)
  else (cl_ 52 [.pv (.lst []), .pv (.fn 53 [])]).bind fun r1 =>
    ((retPV r1).bind fun r2 =>
      (bif (Sh.tup []).fits r2 then
        some (.pv (.tup [.lst [], .int .i64 0]), [])
      else none)) := by kernel_rfl
theorem e19_11014 (pairs : List PV) : L19_11014 pairs =
  bif decide ((0 : Int) < (pairs.length : Int)) then
    (pairs[(0 : Int).toNat]?).bind fun x =>
      (bif (Sh.agg [Sh.int .i64, Sh.str, Sh.lst, Sh.int .i64, Sh.str, Sh.lst]).fits x then
        (V 51 [.own 4 [], .pv (.agg [.int .i64 ((x.c 0).toInt), .str ((x.c 1).toStr), .lst ((x.c 2).toLst)]), .pv (.agg [.int .i64 ((x.c 3).toInt), .str ((x.c 4).toStr), .lst ((x.c 5).toLst)])]).bind fun r =>
          ((retT r).bind fun q =>
            (bif (Nat.beq q.1 4 && Sh.fitsL [Sh.int .i64] q.2.2 false) then
              bif ((((PV.tup q.2.2).r 0).toInt) != (0 : Int)) then
                some (.pv (.tup [.lst [], .int .i64 (((PV.tup q.2.2).r 0).toInt)]), [])
              else L19_11014v1 pairs 1 q
            else none))
      else none)
  else (V 52 [.pv (.lst []), .pv (.fn 53 [])]).bind fun r1 =>
    ((retPV r1).bind fun r2 =>
      (bif (Sh.tup []).fits r2 then
        some (.pv (.tup [.lst [], .int .i64 0]), [])
      else none)) :=
  (LV_eq pa 19 _ _).trans (f19_11014 pairs V (LV Pr T 19))
theorem f19_11014v1 (pairs : List PV) (i : Int) (q : Nat × List PV × List PV) (cl_ : FuncId → List Arg → Option Out) (lp_ : List Nat → AS → Option Out) : stepW Pr T cl_ lp_ 19 [1, 1, 0, 1, 4] (st19_11014v1 pairs i q) =
  bif decide (i < (pairs.length : Int)) then
    bif decide (0 ≤ i) then
      (pairs[i.toNat]?).bind fun x =>
        (bif (Sh.agg [Sh.int .i64, Sh.str, Sh.lst, Sh.int .i64, Sh.str, Sh.lst]).fits x then
          (cl_ 51 [.own 4 q.2.1, .pv (.agg [.int .i64 ((x.c 0).toInt), .str ((x.c 1).toStr), .lst ((x.c 2).toLst)]), .pv (.agg [.int .i64 ((x.c 3).toInt), .str ((x.c 4).toStr), .lst ((x.c 5).toLst)])]).bind fun r =>
            ((retT r).bind fun q1 =>
              (bif (Nat.beq q1.1 4 && Sh.fitsL [Sh.int .i64] q1.2.2 false) then
                bif ((((PV.tup q1.2.2).r 0).toInt) != (0 : Int)) then
                  some (.pv (.tup [.lst [], .int .i64 (((PV.tup q1.2.2).r 0).toInt)]), [])
                else lp_ [1, 1, 0, 1, 4] (st19_11014v1 pairs (IntKind.i64.wrap (i + (1 : Int))) q1)
              else none))
        else none)
    else none
  else (cl_ 52 [.vec 4 q.2.1, .pv (.fn 53 [])]).bind fun r1 =>
    (bif refFits [] [0] r1.2 then
      (retPV (r1.1, [])).bind fun r2 =>
        (bif (Sh.tup []).fits r2 then
          some (.pv (.tup [.lst (Out.v r1 0), .int .i64 0]), [])
        else none)
    else none) := by kernel_rfl
theorem e19_11014v1 (pairs : List PV) (i : Int) (q : Nat × List PV × List PV) : L19_11014v1 pairs i q =
  bif decide (i < (pairs.length : Int)) then
    bif decide (0 ≤ i) then
      (pairs[i.toNat]?).bind fun x =>
        (bif (Sh.agg [Sh.int .i64, Sh.str, Sh.lst, Sh.int .i64, Sh.str, Sh.lst]).fits x then
          (V 51 [.own 4 q.2.1, .pv (.agg [.int .i64 ((x.c 0).toInt), .str ((x.c 1).toStr), .lst ((x.c 2).toLst)]), .pv (.agg [.int .i64 ((x.c 3).toInt), .str ((x.c 4).toStr), .lst ((x.c 5).toLst)])]).bind fun r =>
            ((retT r).bind fun q1 =>
              (bif (Nat.beq q1.1 4 && Sh.fitsL [Sh.int .i64] q1.2.2 false) then
                bif ((((PV.tup q1.2.2).r 0).toInt) != (0 : Int)) then
                  some (.pv (.tup [.lst [], .int .i64 (((PV.tup q1.2.2).r 0).toInt)]), [])
                else L19_11014v1 pairs (IntKind.i64.wrap (i + (1 : Int))) q1
              else none))
        else none)
    else none
  else (V 52 [.vec 4 q.2.1, .pv (.fn 53 [])]).bind fun r1 =>
    (bif refFits [] [0] r1.2 then
      (retPV (r1.1, [])).bind fun r2 =>
        (bif (Sh.tup []).fits r2 then
          some (.pv (.tup [.lst (Out.v r1 0), .int .i64 0]), [])
        else none)
    else none) :=
  (LV_eq pa 19 _ _).trans (f19_11014v1 pairs i q V (LV Pr T 19))
/-! 20 roadstead/unify.Apply -/
def st20_111014 (l1 : List PV) (l2 : List PV) (l : List PV) (i : Int) (t_Kind : Int) (t_Name : List UInt8) (t_Args : List PV) : AS :=
  ⟨[.any, .any, .any, .box 0 0, .box 1 0, .bld 0 0 l1, .bld 1 0 l2, .any, .any, .vec 0 0, .pv (.int .i64 (l.length : Int)), .pv (.int .i64 i), .any, .any, .any, .any, .any, .any, .any, .any, .any, .any, .any, .any, .any, .any, .any, .any, .any, .any], ⟨[(false, [.pv (.int .i64 t_Kind), .pv (.str t_Name), .pv (.lst t_Args)]), (false, [.pv (.int .i64 0), .pv (.str []), .pv .nils])], [some (0, 4, l)], [(0, 1), (0, 3)], 0, 1⟩⟩
noncomputable def L20_111014 (l1 : List PV) (l2 : List PV) (l : List PV) (i : Int) (t_Kind : Int) (t_Name : List UInt8) (t_Args : List PV) : Option Out := LV Pr T 20 [1, 1, 1, 0, 1, 4] (st20_111014 l1 l2 l i t_Kind t_Name t_Args)
theorem f20 (l : List PV) (t_Kind : Int) (t_Name : List UInt8) (t_Args : List PV) (cl_ : FuncId → List Arg → Option Out) (lp_ : List Nat → AS → Option Out) : runW Pr T cl_ lp_ 20 [.vec 4 l, .pv (.agg [.int .i64 t_Kind, .str t_Name, .lst t_Args])] =
  bif ((l.all fun x => Nat.beq x.cells.length 4) && true) then
    lp_ [1, 1, 1, 0, 1, 4] (st20_111014 [] [] l 0 t_Kind t_Name t_Args)
  else none := by kernel_rfl
theorem e20 (l : List PV) (t_Kind : Int) (t_Name : List UInt8) (t_Args : List PV) : V 20 [.vec 4 l, .pv (.agg [.int .i64 t_Kind, .str t_Name, .lst t_Args])] =
  bif ((l.all fun x => Nat.beq x.cells.length 4) && true) then
    L20_111014 [] [] l 0 t_Kind t_Name t_Args
  else none :=
  (V_eq pa rfl _).trans (f20 l t_Kind t_Name t_Args V (LV Pr T 20))
theorem f20_111014 (l1 : List PV) (l2 : List PV) (l : List PV) (i : Int) (t_Kind : Int) (t_Name : List UInt8) (t_Args : List PV) (cl_ : FuncId → List Arg → Option Out) (lp_ : List Nat → AS → Option Out) : stepW Pr T cl_ lp_ 20 [1, 1, 1, 0, 1, 4] (st20_111014 l1 l2 l i t_Kind t_Name t_Args) =
  bif decide (i < (l.length : Int)) then
    bif (decide (0 ≤ i) && decide (i < (l.length : Int))) then
      (l[i.toNat]?).bind fun y =>
        (bif (Sh.agg [Sh.str, Sh.int .i64, Sh.str, Sh.lst]).fits y then
          bif small (l1.length) 1 16 then
            bif small (l2.length) 1 48 then
              lp_ [1, 1, 1, 0, 1, 4] (st20_111014 (l1 ++ ([.str ((y.c 0).toStr)] : List PV)) (l2 ++ ([.agg [.int .i64 ((y.c 1).toInt), .str ((y.c 2).toStr), .lst ((y.c 3).toLst)]] : List PV)) l (IntKind.i64.wrap (i + (1 : Int))) t_Kind t_Name t_Args)
            else none
          else none
        else none)
    else none
  else ((cl_ 55 [.pv (.agg [.int .i64 t_Kind, .str t_Name, .lst t_Args]), .pv (.lst l1), .pv (.lst l2)]).bind retPV).bind fun r =>
    (bif (Sh.agg [Sh.int .i64, Sh.str, Sh.lst]).fits r then
      some (.pv (.agg [.int .i64 ((r.c 0).toInt), .str ((r.c 1).toStr), .lst ((r.c 2).toLst)]), [.vec l])
    else none) := by kernel_rfl
theorem e20_111014 (l1 : List PV) (l2 : List PV) (l : List PV) (i : Int) (t_Kind : Int) (t_Name : List UInt8) (t_Args : List PV) : L20_111014 l1 l2 l i t_Kind t_Name t_Args =
  bif decide (i < (l.length : Int)) then
    bif (decide (0 ≤ i) && decide (i < (l.length : Int))) then
      (l[i.toNat]?).bind fun y =>
        (bif (Sh.agg [Sh.str, Sh.int .i64, Sh.str, Sh.lst]).fits y then
          bif small (l1.length) 1 16 then
            bif small (l2.length) 1 48 then
              L20_111014 (l1 ++ ([.str ((y.c 0).toStr)] : List PV)) (l2 ++ ([.agg [.int .i64 ((y.c 1).toInt), .str ((y.c 2).toStr), .lst ((y.c 3).toLst)]] : List PV)) l (IntKind.i64.wrap (i + (1 : Int))) t_Kind t_Name t_Args
            else none
          else none
        else none)
    else none
  else ((V 55 [.pv (.agg [.int .i64 t_Kind, .str t_Name, .lst t_Args]), .pv (.lst l1), .pv (.lst l2)]).bind retPV).bind fun r =>
    (bif (Sh.agg [Sh.int .i64, Sh.str, Sh.lst]).fits r then
      some (.pv (.agg [.int .i64 ((r.c 0).toInt), .str ((r.c 1).toStr), .lst ((r.c 2).toLst)]), [.vec l])
    else none) :=
  (LV_eq pa 20 _ _).trans (f20_111014 l1 l2 l i t_Kind t_Name t_Args V (LV Pr T 20))
/-! 20 roadstead/unify.Apply -/
def st20p_111014 (l1 : List PV) (l2 : List PV) (l : List PV) (i : Int) (t_Kind : Int) (t_Name : List UInt8) (t_Args : List PV) : AS :=
  ⟨[.any, .any, .any, .box 0 0, .box 1 0, .bld 0 0 l1, .bld 1 0 l2, .any, .any, .pv (.lst l), .pv (.int .i64 (l.length : Int)), .pv (.int .i64 i), .any, .any, .any, .any, .any, .any, .any, .any, .any, .any, .any, .any, .any, .any, .any, .any, .any, .any], ⟨[(false, [.pv (.int .i64 t_Kind), .pv (.str t_Name), .pv (.lst t_Args)]), (false, [.pv (.int .i64 0), .pv (.str []), .pv .nils])], [], [(0, 1), (0, 3)], 0, 0⟩⟩
noncomputable def L20p_111014 (l1 : List PV) (l2 : List PV) (l : List PV) (i : Int) (t_Kind : Int) (t_Name : List UInt8) (t_Args : List PV) : Option Out := LV Pr T 20 [1, 1, 1, 0, 1, 4] (st20p_111014 l1 l2 l i t_Kind t_Name t_Args)
theorem f20p (l : List PV) (t_Kind : Int) (t_Name : List UInt8) (t_Args : List PV) (cl_ : FuncId → List Arg → Option Out) (lp_ : List Nat → AS → Option Out) : runW Pr T cl_ lp_ 20 [.pv (.lst l), .pv (.agg [.int .i64 t_Kind, .str t_Name, .lst t_Args])] =
  lp_ [1, 1, 1, 0, 1, 4] (st20p_111014 [] [] l 0 t_Kind t_Name t_Args) := by kernel_rfl
theorem e20p (l : List PV) (t_Kind : Int) (t_Name : List UInt8) (t_Args : List PV) : V 20 [.pv (.lst l), .pv (.agg [.int .i64 t_Kind, .str t_Name, .lst t_Args])] =
  L20p_111014 [] [] l 0 t_Kind t_Name t_Args :=
  (V_eq pa rfl _).trans (f20p l t_Kind t_Name t_Args V (LV Pr T 20))
theorem f20p_111014 (l1 : List PV) (l2 : List PV) (l : List PV) (i : Int) (t_Kind : Int) (t_Name : List UInt8) (t_Args : List PV) (cl_ : FuncId → List Arg → Option Out) (lp_ : List Nat → AS → Option Out) : stepW Pr T cl_ lp_ 20 [1, 1, 1, 0, 1, 4] (st20p_111014 l1 l2 l i t_Kind t_Name t_Args) =
  bif decide (i < (l.length : Int)) then
    bif decide (0 ≤ i) then
      (l[i.toNat]?).bind fun x =>
        (bif (Sh.agg [Sh.str, Sh.int .i64, Sh.str, Sh.lst]).fits x then
          bif small (l1.length) 1 16 then
            bif small (l2.length) 1 48 then
              lp_ [1, 1, 1, 0, 1, 4] (st20p_111014 (l1 ++ ([.str ((x.c 0).toStr)] : List PV)) (l2 ++ ([.agg [.int .i64 ((x.c 1).toInt), .str ((x.c 2).toStr), .lst ((x.c 3).toLst)]] : List PV)) l (IntKind.i64.wrap (i + (1 : Int))) t_Kind t_Name t_Args)
            else none
          else none
        else none)
    else none
  else ((cl_ 55 [.pv (.agg [.int .i64 t_Kind, .str t_Name, .lst t_Args]), .pv (.lst l1), .pv (.lst l2)]).bind retPV).bind fun r =>
    (bif (Sh.agg [Sh.int .i64, Sh.str, Sh.lst]).fits r then
      some (.pv (.agg [.int .i64 ((r.c 0).toInt), .str ((r.c 1).toStr), .lst ((r.c 2).toLst)]), [])
    else none) := by kernel_rfl
theorem e20p_111014 (l1 : List PV) (l2 : List PV) (l : List PV) (i : Int) (t_Kind : Int) (t_Name : List UInt8) (t_Args : List PV) : L20p_111014 l1 l2 l i t_Kind t_Name t_Args =
  bif decide (i < (l.length : Int)) then
    bif decide (0 ≤ i) then
      (l[i.toNat]?).bind fun x =>
        (bif (Sh.agg [Sh.str, Sh.int .i64, Sh.str, Sh.lst]).fits x then
          bif small (l1.length) 1 16 then
            bif small (l2.length) 1 48 then
              L20p_111014 (l1 ++ ([.str ((x.c 0).toStr)] : List PV)) (l2 ++ ([.agg [.int .i64 ((x.c 1).toInt), .str ((x.c 2).toStr), .lst ((x.c 3).toLst)]] : List PV)) l (IntKind.i64.wrap (i + (1 : Int))) t_Kind t_Name t_Args
            else none
          else none
        else none)
    else none
  else ((V 55 [.pv (.agg [.int .i64 t_Kind, .str t_Name, .lst t_Args]), .pv (.lst l1), .pv (.lst l2)]).bind retPV).bind fun r =>
    (bif (Sh.agg [Sh.int .i64, Sh.str, Sh.lst]).fits r then
      some (.pv (.agg [.int .i64 ((r.c 0).toInt), .str ((r.c 1).toStr), .lst ((r.c 2).toLst)]), [])
    else none) :=
  (LV_eq pa 20 _ _).trans (f20p_111014 l1 l2 l i t_Kind t_Name t_Args V (LV Pr T 20))
/-! 51 roadstead/unify.pair -/
def st51_110416 (b : Bool) (v2 : Int) (v : List UInt8) (v3 : List PV) (v4 : Int) (v1 : List UInt8) (v5 : List PV) (r2 : Out) : AS :=
  ⟨[.vec 0 0, .any, .any, .any, .box 0 0, .box 1 0, .any, .any, .any, .any, .any, .any, .any, .any, .any, .any, .pv (.bool b), .any, .any, .any, .any, .any, .any, .any, .any, .any, .any, .any, .any, .any, .any, .any, .any, .any, .any, .any, .any, .any, .any, .any, .any, .any, .any, .any, .any, .any, .any, .any, .any, .any, .any, .any, .any, .any, .any, .any, .any, .any, .any, .any, .any, .any, .any, .any, .any, .any, .any, .any, .any, .any, .any, .any, .any, .any, .any, .any, .any, .any, .any, .any, .any, .any, .any, .any, .any, .any, .any, .any, .any, .any, .any, .any, .any, .any, .any, .any, .any, .any, .any, .any, .any, .any, .any, .any, .any, .any, .any, .any, .any, .any], ⟨[(false, [.pv (.int .i64 v2), .pv (.str v), .pv (.lst v3)]), (false, [.pv (.int .i64 v4), .pv (.str v1), .pv (.lst v5)])], [some (0, 4, (Out.v r2 0))], [], 0, 0⟩⟩
noncomputable def L51_110416 (b : Bool) (v2 : Int) (v : List UInt8) (v3 : List PV) (v4 : Int) (v1 : List UInt8) (v5 : List PV) (r2 : Out) : Option Out := LV Pr T 51 [1, 1, 0, 4, 1, 6] (st51_110416 b v2 v v3 v4 v1 v5 r2)
def st51_11041316 (b : Bool) (v2 : Int) (v : List UInt8) (v3 : List PV) (v4 : Int) (v1 : List UInt8) (v5 : List PV) (r2 : Out) : AS :=
  ⟨[.vec 0 0, .any, .any, .any, .box 0 0, .box 1 0, .any, .any, .any, .any, .any, .any, .any, .any, .any, .any, .any, .any, .any, .any, .any, .any, .any, .any, .any, .any, .any, .any, .any, .any, .any, .pv (.bool b), .any, .any, .any, .any, .any, .any, .any, .any, .any, .any, .any, .any, .any, .any, .any, .any, .any, .any, .any, .any, .any, .any, .any, .any, .any, .any, .any, .any, .any, .any, .any, .any, .any, .any, .any, .any, .any, .any, .any, .any, .any, .any, .any, .any, .any, .any, .any, .any, .any, .any, .any, .any, .any, .any, .any, .any, .any, .any, .any, .any, .any, .any, .any, .any, .any, .any, .any, .any, .any, .any, .any, .any, .any, .any, .any, .any, .any, .any], ⟨[(false, [.pv (.int .i64 v2), .pv (.str v), .pv (.lst v3)]), (false, [.pv (.int .i64 v4), .pv (.str v1), .pv (.lst v5)])], [some (0, 4, (Out.v r2 0))], [], 0, 0⟩⟩
noncomputable def L51_11041316 (b : Bool) (v2 : Int) (v : List UInt8) (v3 : List PV) (v4 : Int) (v1 : List UInt8) (v5 : List PV) (r2 : Out) : Option Out := LV Pr T 51 [1, 1, 0, 4, 1, 3, 1, 6] (st51_11041316 b v2 v v3 v4 v1 v5 r2)
def st51_1111014 (v3 : List PV) (i : Int) (v2 : Int) (v : List UInt8) (v4 : Int) (v1 : List UInt8) (v5 : List PV) (l : List PV) : AS :=
  ⟨[.vec 0 0, .any, .any, .any, .box 0 0, .box 1 0, .any, .any, .any, .any, .any, .any, .any, .any, .any, .any, .any, .any, .any, .any, .any, .any, .any, .any, .any, .any, .any, .any, .any, .any, .any, .any, .any, .any, .any, .any, .any, .any, .any, .any, .any, .any, .any, .any, .any, .any, .any, .any, .any, .any, .any, .any, .any, .any, .any, .any, .any, .any, .any, .any, .any, .any, .any, .any, .any, .any, .any, .any, .any, .any, .any, .any, .any, .any, .any, .any, .any, .any, .any, .any, .any, .any, .any, .any, .any, .any, .pv (.int .i64 (v3.length : Int)), .pv (.int .i64 i), .any, .any, .any, .any, .any, .any, .any, .any, .any, .any, .any, .any, .any, .any, .any, .any, .any, .any, .any, .any, .any, .any], ⟨[(false, [.pv (.int .i64 v2), .pv (.str v), .pv (.lst v3)]), (false, [.pv (.int .i64 v4), .pv (.str v1), .pv (.lst v5)])], [some (0, 4, l)], [], 0, 0⟩⟩
noncomputable def L51_1111014 (v3 : List PV) (i : Int) (v2 : Int) (v : List UInt8) (v4 : Int) (v1 : List UInt8) (v5 : List PV) (l : List PV) : Option Out := LV Pr T 51 [1, 1, 1, 1, 0, 1, 4] (st51_1111014 v3 i v2 v v4 v1 v5 l)
theorem f51 (l : List PV) (a_Kind : Int) (a_Name : List UInt8) (a_Args : List PV) (b_Kind : Int) (b_Name : List UInt8) (b_Args : List PV) (cl_ : FuncId → List Arg → Option Out) (lp_ : List Nat → AS → Option Out) : runW Pr T cl_ lp_ 51 [.own 4 l, .pv (.agg [.int .i64 a_Kind, .str a_Name, .lst a_Args]), .pv (.agg [.int .i64 b_Kind, .str b_Name, .lst b_Args])] =
  bif ((l.all fun x => Nat.beq x.cells.length 4) && true) then
    (cl_ 20 [.vec 4 l, .pv (.agg [.int .i64 a_Kind, .str a_Name, .lst a_Args])]).bind fun r =>
      (bif refFits [] [0] r.2 then
        (retPV (r.1, [])).bind fun r1 =>
          (bif (Sh.agg [Sh.int .i64, Sh.str, Sh.lst]).fits r1 then
            (cl_ 20 [.vec 4 (Out.v r 0), .pv (.agg [.int .i64 b_Kind, .str b_Name, .lst b_Args])]).bind fun r2 =>
              (bif refFits [] [0] r2.2 then
                (retPV (r2.1, [])).bind fun r3 =>
                  (bif (Sh.agg [Sh.int .i64, Sh.str, Sh.lst]).fits r3 then
                    ((cl_ 81 [.pv (.agg [.int .i64 ((r1.c 0).toInt), .str ((r1.c 1).toStr), .lst ((r1.c 2).toLst)])]).bind retPV).bind fun r4 =>
                      (bif (Sh.bool).fits r4 then
                        bif r4.toBool then
                          ((cl_ 81 [.pv (.agg [.int .i64 ((r3.c 0).toInt), .str ((r3.c 1).toStr), .lst ((r3.c 2).toLst)])]).bind retPV).bind fun r5 =>
                            (bif (Sh.bool).fits r5 then
                              bif r5.toBool then
                                lp_ [1, 1, 0, 4, 1, 6] (st51_110416 ((r1.c 1).toStr == (r3.c 1).toStr) ((r1.c 0).toInt) ((r1.c 1).toStr) ((r1.c 2).toLst) ((r3.c 0).toInt) ((r3.c 1).toStr) ((r3.c 2).toLst) r2)
                              else lp_ [1, 1, 0, 4, 1, 6] (st51_110416 false ((r1.c 0).toInt) ((r1.c 1).toStr) ((r1.c 2).toLst) ((r3.c 0).toInt) ((r3.c 1).toStr) ((r3.c 2).toLst) r2)
                            else none)
                        else lp_ [1, 1, 0, 4, 1, 6] (st51_110416 false ((r1.c 0).toInt) ((r1.c 1).toStr) ((r1.c 2).toLst) ((r3.c 0).toInt) ((r3.c 1).toStr) ((r3.c 2).toLst) r2)
                      else none)
                  else none)
              else none)
          else none)
      else none)
  else none := by kernel_rfl
theorem e51 (l : List PV) (a_Kind : Int) (a_Name : List UInt8) (a_Args : List PV) (b_Kind : Int) (b_Name : List UInt8) (b_Args : List PV) : V 51 [.own 4 l, .pv (.agg [.int .i64 a_Kind, .str a_Name, .lst a_Args]), .pv (.agg [.int .i64 b_Kind, .str b_Name, .lst b_Args])] =
  bif ((l.all fun x => Nat.beq x.cells.length 4) && true) then
    (V 20 [.vec 4 l, .pv (.agg [.int .i64 a_Kind, .str a_Name, .lst a_Args])]).bind fun r =>
      (bif refFits [] [0] r.2 then
        (retPV (r.1, [])).bind fun r1 =>
          (bif (Sh.agg [Sh.int .i64, Sh.str, Sh.lst]).fits r1 then
            (V 20 [.vec 4 (Out.v r 0), .pv (.agg [.int .i64 b_Kind, .str b_Name, .lst b_Args])]).bind fun r2 =>
              (bif refFits [] [0] r2.2 then
                (retPV (r2.1, [])).bind fun r3 =>
                  (bif (Sh.agg [Sh.int .i64, Sh.str, Sh.lst]).fits r3 then
                    ((V 81 [.pv (.agg [.int .i64 ((r1.c 0).toInt), .str ((r1.c 1).toStr), .lst ((r1.c 2).toLst)])]).bind retPV).bind fun r4 =>
                      (bif (Sh.bool).fits r4 then
                        bif r4.toBool then
                          ((V 81 [.pv (.agg [.int .i64 ((r3.c 0).toInt), .str ((r3.c 1).toStr), .lst ((r3.c 2).toLst)])]).bind retPV).bind fun r5 =>
                            (bif (Sh.bool).fits r5 then
                              bif r5.toBool then
                                L51_110416 ((r1.c 1).toStr == (r3.c 1).toStr) ((r1.c 0).toInt) ((r1.c 1).toStr) ((r1.c 2).toLst) ((r3.c 0).toInt) ((r3.c 1).toStr) ((r3.c 2).toLst) r2
                              else L51_110416 false ((r1.c 0).toInt) ((r1.c 1).toStr) ((r1.c 2).toLst) ((r3.c 0).toInt) ((r3.c 1).toStr) ((r3.c 2).toLst) r2
                            else none)
                        else L51_110416 false ((r1.c 0).toInt) ((r1.c 1).toStr) ((r1.c 2).toLst) ((r3.c 0).toInt) ((r3.c 1).toStr) ((r3.c 2).toLst) r2
                      else none)
                  else none)
              else none)
          else none)
      else none)
  else none :=
  (V_eq pa rfl _).trans (f51 l a_Kind a_Name a_Args b_Kind b_Name b_Args V (LV Pr T 51))
theorem f51_110416 (b : Bool) (v2 : Int) (v : List UInt8) (v3 : List PV) (v4 : Int) (v1 : List UInt8) (v5 : List PV) (r2 : Out) (cl_ : FuncId → List Arg → Option Out) (lp_ : List Nat → AS → Option Out) : stepW Pr T cl_ lp_ 51 [1, 1, 0, 4, 1, 6] (st51_110416 b v2 v v3 v4 v1 v5 r2) =
  bif b then
    some (.tup 4 (Out.v r2 0) [.int .i64 0], [])
  else ((cl_ 81 [.pv (.agg [.int .i64 v2, .str v, .lst v3])]).bind retPV).bind fun r =>
    (bif (Sh.bool).fits r then
      bif r.toBool then
        ((cl_ 81 [.pv (.agg [.int .i64 v4, .str v1, .lst v5])]).bind retPV).bind fun r1 =>
          (bif (Sh.bool).fits r1 then
            bif (!r1.toBool) then
              lp_ [1, 1, 0, 4, 1, 3, 1, 6] (st51_11041316 true v2 v v3 v4 v1 v5 r2)
            else lp_ [1, 1, 0, 4, 1, 3, 1, 6] (st51_11041316 (!(Op.bytesLess v v1 || v == v1)) v2 v v3 v4 v1 v5 r2)
          else none)
      else lp_ [1, 1, 0, 4, 1, 3, 1, 6] (st51_11041316 false v2 v v3 v4 v1 v5 r2)
    else none) := by kernel_rfl
theorem e51_110416 (b : Bool) (v2 : Int) (v : List UInt8) (v3 : List PV) (v4 : Int) (v1 : List UInt8) (v5 : List PV) (r2 : Out) : L51_110416 b v2 v v3 v4 v1 v5 r2 =
  bif b then
    some (.tup 4 (Out.v r2 0) [.int .i64 0], [])
  else ((V 81 [.pv (.agg [.int .i64 v2, .str v, .lst v3])]).bind retPV).bind fun r =>
    (bif (Sh.bool).fits r then
      bif r.toBool then
        ((V 81 [.pv (.agg [.int .i64 v4, .str v1, .lst v5])]).bind retPV).bind fun r1 =>
          (bif (Sh.bool).fits r1 then
            bif (!r1.toBool) then
              L51_11041316 true v2 v v3 v4 v1 v5 r2
            else L51_11041316 (!(Op.bytesLess v v1 || v == v1)) v2 v v3 v4 v1 v5 r2
          else none)
      else L51_11041316 false v2 v v3 v4 v1 v5 r2
    else none) :=
  (LV_eq pa 51 _ _).trans (f51_110416 b v2 v v3 v4 v1 v5 r2 V (LV Pr T 51))
theorem f51_11041316 (b : Bool) (v2 : Int) (v : List UInt8) (v3 : List PV) (v4 : Int) (v1 : List UInt8) (v5 : List PV) (r2 : Out) (cl_ : FuncId → List Arg → Option Out) (lp_ : List Nat → AS → Option Out) : stepW Pr T cl_ lp_ 51 [1, 1, 0, 4, 1, 3, 1, 6] (st51_11041316 b v2 v v3 v4 v1 v5 r2) =
  bif b then
    (cl_ 82 [.pv (.lst (Out.v r2 0)), .pv (.str v), .pv (.agg [.int .i64 v4, .str v1, .lst v5])]).bind fun r =>
      ((retT r).bind fun q =>
        (bif (Nat.beq q.1 4 && Sh.fitsL [Sh.int .i64] q.2.2 false) then
          some (.tup 4 q.2.1 [.int .i64 (((PV.tup q.2.2).r 0).toInt)], [])
        else none))
  else ((cl_ 81 [.pv (.agg [.int .i64 v4, .str v1, .lst v5])]).bind retPV).bind fun r1 =>
    (bif (Sh.bool).fits r1 then
      bif r1.toBool then
        (cl_ 82 [.pv (.lst (Out.v r2 0)), .pv (.str v1), .pv (.agg [.int .i64 v2, .str v, .lst v3])]).bind fun r3 =>
          ((retT r3).bind fun q1 =>
            (bif (Nat.beq q1.1 4 && Sh.fitsL [Sh.int .i64] q1.2.2 false) then
              some (.tup 4 q1.2.1 [.int .i64 (((PV.tup q1.2.2).r 0).toInt)], [])
            else none))
      else bif (v2 != v4) then
        some (.tup 4 [] [.int .i64 12], [])
      else bif (!(v == v1)) then
        some (.tup 4 [] [.int .i64 12], [])
      else bif ((v3.length : Int) != (v5.length : Int)) then
        some (.tup 4 [] [.int .i64 12], [])
      else lp_ [1, 1, 1, 1, 0, 1, 4] (st51_1111014 v3 0 v2 v v4 v1 v5 (Out.v r2 0))
    else none) := by kernel_rfl
theorem e51_11041316 (b : Bool) (v2 : Int) (v : List UInt8) (v3 : List PV) (v4 : Int) (v1 : List UInt8) (v5 : List PV) (r2 : Out) : L51_11041316 b v2 v v3 v4 v1 v5 r2 =
  bif b then
    (V 82 [.pv (.lst (Out.v r2 0)), .pv (.str v), .pv (.agg [.int .i64 v4, .str v1, .lst v5])]).bind fun r =>
      ((retT r).bind fun q =>
        (bif (Nat.beq q.1 4 && Sh.fitsL [Sh.int .i64] q.2.2 false) then
          some (.tup 4 q.2.1 [.int .i64 (((PV.tup q.2.2).r 0).toInt)], [])
        else none))
  else ((V 81 [.pv (.agg [.int .i64 v4, .str v1, .lst v5])]).bind retPV).bind fun r1 =>
    (bif (Sh.bool).fits r1 then
      bif r1.toBool then
        (V 82 [.pv (.lst (Out.v r2 0)), .pv (.str v1), .pv (.agg [.int .i64 v2, .str v, .lst v3])]).bind fun r3 =>
          ((retT r3).bind fun q1 =>
            (bif (Nat.beq q1.1 4 && Sh.fitsL [Sh.int .i64] q1.2.2 false) then
              some (.tup 4 q1.2.1 [.int .i64 (((PV.tup q1.2.2).r 0).toInt)], [])
            else none))
      else bif (v2 != v4) then
        some (.tup 4 [] [.int .i64 12], [])
      else bif (!(v == v1)) then
        some (.tup 4 [] [.int .i64 12], [])
      else bif ((v3.length : Int) != (v5.length : Int)) then
        some (.tup 4 [] [.int .i64 12], [])
      else L51_1111014 v3 0 v2 v v4 v1 v5 (Out.v r2 0)
    else none) :=
  (LV_eq pa 51 _ _).trans (f51_11041316 b v2 v v3 v4 v1 v5 r2 V (LV Pr T 51))
theorem f51_1111014 (v3 : List PV) (i : Int) (v2 : Int) (v : List UInt8) (v4 : Int) (v1 : List UInt8) (v5 : List PV) (l : List PV) (cl_ : FuncId → List Arg → Option Out) (lp_ : List Nat → AS → Option Out) : stepW Pr T cl_ lp_ 51 [1, 1, 1, 1, 0, 1, 4] (st51_1111014 v3 i v2 v v4 v1 v5 l) =
  bif decide (i < (v3.length : Int)) then
    bif decide (0 ≤ i) then
      (v3[i.toNat]?).bind fun x =>
        (bif (Sh.agg [Sh.int .i64, Sh.str, Sh.lst]).fits x then
          bif decide (0 ≤ i) then
            (v5[i.toNat]?).bind fun x1 =>
              (bif (Sh.agg [Sh.int .i64, Sh.str, Sh.lst]).fits x1 then
                (cl_ 51 [.own 4 l, .pv (.agg [.int .i64 ((x.c 0).toInt), .str ((x.c 1).toStr), .lst ((x.c 2).toLst)]), .pv (.agg [.int .i64 ((x1.c 0).toInt), .str ((x1.c 1).toStr), .lst ((x1.c 2).toLst)])]).bind fun r =>
                  ((retT r).bind fun q =>
                    (bif (Nat.beq q.1 4 && Sh.fitsL [Sh.int .i64] q.2.2 false) then
                      bif ((((PV.tup q.2.2).r 0).toInt) != (0 : Int)) then
                        some (.tup 4 [] [.int .i64 (((PV.tup q.2.2).r 0).toInt)], [])
                      else lp_ [1, 1, 1, 1, 0, 1, 4] (st51_1111014 v3 (IntKind.i64.wrap (i + (1 : Int))) v2 v v4 v1 v5 q.2.1)
                    else none))
              else none)
          else none
        else none)
    else none
  else some (.tup 4 l [.int .i64 0], []) := by kernel_rfl
theorem e51_1111014 (v3 : List PV) (i : Int) (v2 : Int) (v : List UInt8) (v4 : Int) (v1 : List UInt8) (v5 : List PV) (l : List PV) : L51_1111014 v3 i v2 v v4 v1 v5 l =
  bif decide (i < (v3.length : Int)) then
    bif decide (0 ≤ i) then
      (v3[i.toNat]?).bind fun x =>
        (bif (Sh.agg [Sh.int .i64, Sh.str, Sh.lst]).fits x then
          bif decide (0 ≤ i) then
            (v5[i.toNat]?).bind fun x1 =>
              (bif (Sh.agg [Sh.int .i64, Sh.str, Sh.lst]).fits x1 then
                (V 51 [.own 4 l, .pv (.agg [.int .i64 ((x.c 0).toInt), .str ((x.c 1).toStr), .lst ((x.c 2).toLst)]), .pv (.agg [.int .i64 ((x1.c 0).toInt), .str ((x1.c 1).toStr), .lst ((x1.c 2).toLst)])]).bind fun r =>
                  ((retT r).bind fun q =>
                    (bif (Nat.beq q.1 4 && Sh.fitsL [Sh.int .i64] q.2.2 false) then
                      bif ((((PV.tup q.2.2).r 0).toInt) != (0 : Int)) then
                        some (.tup 4 [] [.int .i64 (((PV.tup q.2.2).r 0).toInt)], [])
                      else L51_1111014 v3 (IntKind.i64.wrap (i + (1 : Int))) v2 v v4 v1 v5 q.2.1
                    else none))
              else none)
          else none
        else none)
    else none
  else some (.tup 4 l [.int .i64 0], []) :=
  (LV_eq pa 51 _ _).trans (f51_1111014 v3 i v2 v v4 v1 v5 l V (LV Pr T 51))
/-! 82 roadstead/unify.bind -/
def st82_1111014 (name : List UInt8) (t_Kind : Int) (t_Name : List UInt8) (t_Args : List PV) (l1 : List PV) : AS :=
  ⟨[.any, .any, .any, .any, .any, .any, .any, .any, .pv (.lst [.agg [.str name, .int .i64 t_Kind, .str t_Name, .lst t_Args]]), .pv .nils, .any, .any, .any, .any, .any, .any, .any, .any, .any, .any, .any, .any, .any, .any, .any, .any, .any, .any, .any, .pv (.lst (l1 ++ ([.agg [.str name, .int .i64 t_Kind, .str t_Name, .lst t_Args]] : List PV))), .pv (.int .i64 ((l1 ++ ([.agg [.str name, .int .i64 t_Kind, .str t_Name, .lst t_Args]] : List PV)).length : Int)), .pv (.int .i64 0), .any, .any, .any, .any, .any, .any, .any, .any, .any, .any, .any, .any, .any, .any, .any, .any, .any, .any, .any, .any, .any, .any, .any, .any, .any, .any, .any, .any], ⟨[], [], [], 0, 0⟩⟩
noncomputable def L82_1111014 (name : List UInt8) (t_Kind : Int) (t_Name : List UInt8) (t_Args : List PV) (l1 : List PV) : Option Out := LV Pr T 82 [1, 1, 1, 1, 0, 1, 4] (st82_1111014 name t_Kind t_Name t_Args l1)
def st82_1111014v1 (name : List UInt8) (t_Kind : Int) (t_Name : List UInt8) (t_Args : List PV) (l1 : List PV) (i : Int) (l : List PV) : AS :=
  ⟨[.any, .any, .any, .any, .any, .any, .any, .any, .pv (.lst [.agg [.str name, .int .i64 t_Kind, .str t_Name, .lst t_Args]]), .vec 0 0, .any, .any, .any, .any, .any, .any, .any, .any, .any, .any, .any, .any, .any, .any, .any, .any, .any, .any, .any, .pv (.lst (l1 ++ ([.agg [.str name, .int .i64 t_Kind, .str t_Name, .lst t_Args]] : List PV))), .pv (.int .i64 ((l1 ++ ([.agg [.str name, .int .i64 t_Kind, .str t_Name, .lst t_Args]] : List PV)).length : Int)), .pv (.int .i64 i), .any, .any, .any, .any, .any, .any, .any, .any, .any, .any, .any, .any, .any, .any, .any, .any, .any, .any, .any, .any, .any, .any, .any, .any, .any, .any, .any, .any], ⟨[], [some (0, 4, l)], [], 0, 0⟩⟩
noncomputable def L82_1111014v1 (name : List UInt8) (t_Kind : Int) (t_Name : List UInt8) (t_Args : List PV) (l1 : List PV) (i : Int) (l : List PV) : Option Out := LV Pr T 82 [1, 1, 1, 1, 0, 1, 4] (st82_1111014v1 name t_Kind t_Name t_Args l1 i l)
theorem f82 (l : List PV) (name : List UInt8) (t_Kind : Int) (t_Name : List UInt8) (t_Args : List PV) (cl_ : FuncId → List Arg → Option Out) (lp_ : List Nat → AS → Option Out) : runW Pr T cl_ lp_ 82 [.pv (.lst l), .pv (.str name), .pv (.agg [.int .i64 t_Kind, .str t_Name, .lst t_Args])] =
  ((cl_ 24 [.pv (.agg [.int .i64 t_Kind, .str t_Name, .lst t_Args])]).bind retPV).bind fun r =>
    (bif (Sh.lst).fits r then
      ((cl_ 89 [.pv (.lst r.toLst), .pv (.str name)]).bind retPV).bind fun r1 =>
        (bif (Sh.bool).fits r1 then
          bif r1.toBool then
            some (.tup 4 [] [.int .i64 18], [])
          else (cl_ 116 [.pv (.lst l)]).bind fun r2 =>
            ((retB 4 r2).bind fun l1 =>
              (bif small (l1.length) 1 64 then
                lp_ [1, 1, 1, 1, 0, 1, 4] (st82_1111014 name t_Kind t_Name t_Args l1)
              else none))
        else none)
    else none) := by kernel_rfl
theorem e82 (l : List PV) (name : List UInt8) (t_Kind : Int) (t_Name : List UInt8) (t_Args : List PV) : V 82 [.pv (.lst l), .pv (.str name), .pv (.agg [.int .i64 t_Kind, .str t_Name, .lst t_Args])] =
  ((V 24 [.pv (.agg [.int .i64 t_Kind, .str t_Name, .lst t_Args])]).bind retPV).bind fun r =>
    (bif (Sh.lst).fits r then
      ((V 89 [.pv (.lst r.toLst), .pv (.str name)]).bind retPV).bind fun r1 =>
        (bif (Sh.bool).fits r1 then
          bif r1.toBool then
            some (.tup 4 [] [.int .i64 18], [])
          else (V 116 [.pv (.lst l)]).bind fun r2 =>
            ((retB 4 r2).bind fun l1 =>
              (bif small (l1.length) 1 64 then
                L82_1111014 name t_Kind t_Name t_Args l1
              else none))
        else none)
    else none) :=
  (V_eq pa rfl _).trans (f82 l name t_Kind t_Name t_Args V (LV Pr T 82))
theorem f82_1111014 (name : List UInt8) (t_Kind : Int) (t_Name : List UInt8) (t_Args : List PV) (l1 : List PV) (cl_ : FuncId → List Arg → Option Out) (lp_ : List Nat → AS → Option Out) : stepW Pr T cl_ lp_ 82 [1, 1, 1, 1, 0, 1, 4] (st82_1111014 name t_Kind t_Name t_Args l1) =
  bif decide ((0 : Int) < ((l1 ++ ([.agg [.str name, .int .i64 t_Kind, .str t_Name, .lst t_Args]] : List PV)).length : Int)) then
    ((l1 ++ ([.agg [.str name, .int .i64 t_Kind, .str t_Name, .lst t_Args]] : List PV))[(0 : Int).toNat]?).bind fun x =>
      (bif (Sh.agg [Sh.str, Sh.int .i64, Sh.str, Sh.lst]).fits x then
        ((cl_ 20 [.pv (.lst [.agg [.str name, .int .i64 t_Kind, .str t_Name, .lst t_Args]]), .pv (.agg [.int .i64 ((x.c 1).toInt), .str ((x.c 2).toStr), .lst ((x.c 3).toLst)])]).bind retPV).bind fun r =>
          (bif (Sh.agg [Sh.int .i64, Sh.str, Sh.lst]).fits r then
            ((cl_ 117 [.pv (.agg [.int .i64 ((r.c 0).toInt), .str ((r.c 1).toStr), .lst ((r.c 2).toLst)])]).bind retPV).bind fun r1 =>
              (bif (Sh.tup [Sh.int .i64, Sh.int .i64]).fits r1 then
                bif decide (((r1.r 0).toInt) > (400 : Int)) then
                  some (.tup 4 [] [.int .i64 2], [])
                else bif decide (((r1.r 1).toInt) > (40 : Int)) then
                  some (.tup 4 [] [.int .i64 2], [])
                else lp_ [1, 1, 1, 1, 0, 1, 4] (st82_1111014v1 name t_Kind t_Name t_Args l1 1 [.agg [.str ((x.c 0).toStr), .int .i64 ((r.c 0).toInt), .str ((r.c 1).toStr), .lst ((r.c 2).toLst)]])
              else none)
          else none)
      else none)
  else some (.tup 4 [] [.int .i64 0], []) := by kernel_rfl
theorem e82_1111014 (name : List UInt8) (t_Kind : Int) (t_Name : List UInt8) (t_Args : List PV) (l1 : List PV) : L82_1111014 name t_Kind t_Name t_Args l1 =
  bif decide ((0 : Int) < ((l1 ++ ([.agg [.str name, .int .i64 t_Kind, .str t_Name, .lst t_Args]] : List PV)).length : Int)) then
    ((l1 ++ ([.agg [.str name, .int .i64 t_Kind, .str t_Name, .lst t_Args]] : List PV))[(0 : Int).toNat]?).bind fun x =>
      (bif (Sh.agg [Sh.str, Sh.int .i64, Sh.str, Sh.lst]).fits x then
        ((V 20 [.pv (.lst [.agg [.str name, .int .i64 t_Kind, .str t_Name, .lst t_Args]]), .pv (.agg [.int .i64 ((x.c 1).toInt), .str ((x.c 2).toStr), .lst ((x.c 3).toLst)])]).bind retPV).bind fun r =>
          (bif (Sh.agg [Sh.int .i64, Sh.str, Sh.lst]).fits r then
            ((V 117 [.pv (.agg [.int .i64 ((r.c 0).toInt), .str ((r.c 1).toStr), .lst ((r.c 2).toLst)])]).bind retPV).bind fun r1 =>
              (bif (Sh.tup [Sh.int .i64, Sh.int .i64]).fits r1 then
                bif decide (((r1.r 0).toInt) > (400 : Int)) then
                  some (.tup 4 [] [.int .i64 2], [])
                else bif decide (((r1.r 1).toInt) > (40 : Int)) then
                  some (.tup 4 [] [.int .i64 2], [])
                else L82_1111014v1 name t_Kind t_Name t_Args l1 1 [.agg [.str ((x.c 0).toStr), .int .i64 ((r.c 0).toInt), .str ((r.c 1).toStr), .lst ((r.c 2).toLst)]]
              else none)
          else none)
      else none)
  else some (.tup 4 [] [.int .i64 0], []) :=
  (LV_eq pa 82 _ _).trans (f82_1111014 name t_Kind t_Name t_Args l1 V (LV Pr T 82))
theorem f82_1111014v1 (name : List UInt8) (t_Kind : Int) (t_Name : List UInt8) (t_Args : List PV) (l1 : List PV) (i : Int) (l : List PV) (cl_ : FuncId → List Arg → Option Out) (lp_ : List Nat → AS → Option Out) : stepW Pr T cl_ lp_ 82 [1, 1, 1, 1, 0, 1, 4] (st82_1111014v1 name t_Kind t_Name t_Args l1 i l) =
  bif decide (i < ((l1 ++ ([.agg [.str name, .int .i64 t_Kind, .str t_Name, .lst t_Args]] : List PV)).length : Int)) then
    bif decide (0 ≤ i) then
      ((l1 ++ ([.agg [.str name, .int .i64 t_Kind, .str t_Name, .lst t_Args]] : List PV))[i.toNat]?).bind fun x =>
        (bif (Sh.agg [Sh.str, Sh.int .i64, Sh.str, Sh.lst]).fits x then
          ((cl_ 20 [.pv (.lst [.agg [.str name, .int .i64 t_Kind, .str t_Name, .lst t_Args]]), .pv (.agg [.int .i64 ((x.c 1).toInt), .str ((x.c 2).toStr), .lst ((x.c 3).toLst)])]).bind retPV).bind fun r =>
            (bif (Sh.agg [Sh.int .i64, Sh.str, Sh.lst]).fits r then
              ((cl_ 117 [.pv (.agg [.int .i64 ((r.c 0).toInt), .str ((r.c 1).toStr), .lst ((r.c 2).toLst)])]).bind retPV).bind fun r1 =>
                (bif (Sh.tup [Sh.int .i64, Sh.int .i64]).fits r1 then
                  bif decide (((r1.r 0).toInt) > (400 : Int)) then
                    some (.tup 4 [] [.int .i64 2], [])
                  else bif decide (((r1.r 1).toInt) > (40 : Int)) then
                    some (.tup 4 [] [.int .i64 2], [])
                  else bif small (l.length) 1 64 then
                    lp_ [1, 1, 1, 1, 0, 1, 4] (st82_1111014v1 name t_Kind t_Name t_Args l1 (IntKind.i64.wrap (i + (1 : Int))) (l ++ ([.agg [.str ((x.c 0).toStr), .int .i64 ((r.c 0).toInt), .str ((r.c 1).toStr), .lst ((r.c 2).toLst)]] : List PV)))
                  else none
                else none)
            else none)
        else none)
    else none
  else some (.tup 4 l [.int .i64 0], []) := by kernel_rfl
theorem e82_1111014v1 (name : List UInt8) (t_Kind : Int) (t_Name : List UInt8) (t_Args : List PV) (l1 : List PV) (i : Int) (l : List PV) : L82_1111014v1 name t_Kind t_Name t_Args l1 i l =
  bif decide (i < ((l1 ++ ([.agg [.str name, .int .i64 t_Kind, .str t_Name, .lst t_Args]] : List PV)).length : Int)) then
    bif decide (0 ≤ i) then
      ((l1 ++ ([.agg [.str name, .int .i64 t_Kind, .str t_Name, .lst t_Args]] : List PV))[i.toNat]?).bind fun x =>
        (bif (Sh.agg [Sh.str, Sh.int .i64, Sh.str, Sh.lst]).fits x then
          ((V 20 [.pv (.lst [.agg [.str name, .int .i64 t_Kind, .str t_Name, .lst t_Args]]), .pv (.agg [.int .i64 ((x.c 1).toInt), .str ((x.c 2).toStr), .lst ((x.c 3).toLst)])]).bind retPV).bind fun r =>
            (bif (Sh.agg [Sh.int .i64, Sh.str, Sh.lst]).fits r then
              ((V 117 [.pv (.agg [.int .i64 ((r.c 0).toInt), .str ((r.c 1).toStr), .lst ((r.c 2).toLst)])]).bind retPV).bind fun r1 =>
                (bif (Sh.tup [Sh.int .i64, Sh.int .i64]).fits r1 then
                  bif decide (((r1.r 0).toInt) > (400 : Int)) then
                    some (.tup 4 [] [.int .i64 2], [])
                  else bif decide (((r1.r 1).toInt) > (40 : Int)) then
                    some (.tup 4 [] [.int .i64 2], [])
                  else bif small (l.length) 1 64 then
                    L82_1111014v1 name t_Kind t_Name t_Args l1 (IntKind.i64.wrap (i + (1 : Int))) (l ++ ([.agg [.str ((x.c 0).toStr), .int .i64 ((r.c 0).toInt), .str ((r.c 1).toStr), .lst ((r.c 2).toLst)]] : List PV))
                  else none
                else none)
            else none)
        else none)
    else none
  else some (.tup 4 l [.int .i64 0], []) :=
  (LV_eq pa 82 _ _).trans (f82_1111014v1 name t_Kind t_Name t_Args l1 i l V (LV Pr T 82))
end Go.AL.S4
