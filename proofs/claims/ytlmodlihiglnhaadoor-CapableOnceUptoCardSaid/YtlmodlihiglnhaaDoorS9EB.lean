/- Equations of functions in the abstract machine: printed by gen.py. -/
import Derived.Test.YtlmodlihiglnhaaDoorS9T
set_option linter.unusedVariables false
set_option maxRecDepth 100000
namespace Go.AL.S9
open Go Go.AL
/-! 64 roadstead/roadref2.counted -/
def st64_111012014 (l : List PV) (e_Args : List PV) (i : Int) : AS :=
  ⟨[.any, .any, .any, .any, .bld 0 0 l, .any, .any, .any, .any, .any, .any, .any, .any, .any, .any, .any, .any, .any, .any, .pv (.lst e_Args), .pv (.int .i64 (e_Args.length : Int)), .pv (.int .i64 i), .any, .any, .any, .any, .any, .any, .any, .any, .any, .any, .any, .any, .any, .any, .any, .any, .any, .any, .any, .any, .any, .any, .any, .any, .any, .any, .any, .any, .any, .any, .any, .any, .any, .any, .any, .any, .any, .any, .any, .any, .any, .any, .any, .any, .any, .any, .any, .any, .any, .any, .any, .any, .any, .any, .any, .any, .any, .any, .any, .any, .any, .any, .any, .any, .any, .any, .any], ⟨[], [], [(0, 9)], 0, 0⟩⟩
noncomputable def L64_111012014 (l : List PV) (e_Args : List PV) (i : Int) : Option Out := LV Pr T 64 [1, 1, 1, 0, 1, 2, 0, 1, 4] (st64_111012014 l e_Args i)
def st64_1111014 (l : List PV) (v : Int) (i : Int) (e_Kind : Int) (e_Num : Int) (e_Text : List UInt8) (e_Names : List PV) (e_Types : List PV) (e_Args : List PV) (e_Arms : List PV) (e_At : Int) : AS :=
  ⟨[.any, .box 0 0, .any, .any, .bld 0 0 l, .any, .any, .any, .any, .any, .any, .any, .any, .any, .any, .any, .any, .any, .any, .any, .any, .any, .any, .any, .any, .any, .any, .any, .any, .any, .any, .any, .any, .pv (.int .i64 (bif decide ((0 : Int) > (v)) then (0 : Int) else (v))), .pv (.int .i64 i), .any, .any, .any, .any, .any, .any, .any, .any, .any, .any, .any, .any, .any, .any, .any, .any, .any, .any, .any, .any, .any, .any, .any, .any, .any, .any, .any, .any, .any, .any, .any, .any, .any, .any, .any, .any, .any, .any, .any, .any, .any, .any, .any, .any, .any, .any, .any, .any, .any, .any, .any, .any, .any, .any], ⟨[(false, [.pv (.int .i64 e_Kind), .pv (.int .i64 e_Num), .pv (.str e_Text), .pv (.lst e_Names), .pv (.lst e_Types), .pv (.lst e_Args), .pv (.lst e_Arms), .pv (.int .i64 e_At)])], [], [(0, 9)], 0, 0⟩⟩
noncomputable def L64_1111014 (l : List PV) (v : Int) (i : Int) (e_Kind : Int) (e_Num : Int) (e_Text : List UInt8) (e_Names : List PV) (e_Types : List PV) (e_Args : List PV) (e_Arms : List PV) (e_At : Int) : Option Out := LV Pr T 64 [1, 1, 1, 1, 0, 1, 4] (st64_1111014 l v i e_Kind e_Num e_Text e_Names e_Types e_Args e_Arms e_At)
def st64_1111014511041116 (l1 : List PV) (i1 : Int) (v : Int) (e_Kind : Int) (e_Num : Int) (e_Text : List UInt8) (e_Names : List PV) (e_Types : List PV) (e_Args : List PV) (e_Arms : List PV) (e_At : Int) : AS :=
  ⟨[.any, .box 0 0, .any, .any, .bld 0 0 l1, .any, .any, .pv (.int .i64 i1), .pv .nils, .any, .any, .any, .any, .any, .any, .any, .any, .any, .any, .any, .any, .any, .any, .any, .any, .any, .any, .any, .any, .any, .any, .any, .any, .pv (.int .i64 (bif decide ((0 : Int) > (v)) then (0 : Int) else (v))), .pv (.int .i64 i1), .any, .any, .any, .any, .any, .any, .any, .any, .any, .any, .any, .any, .any, .any, .any, .any, .any, .any, .any, .any, .any, .any, .any, .any, .any, .any, .any, .any, .any, .any, .any, .any, .any, .any, .any, .any, .any, .any, .any, .any, .any, .any, .any, .any, .any, .any, .any, .any, .any, .any, .any, .any, .any, .any], ⟨[(false, [.pv (.int .i64 e_Kind), .pv (.int .i64 e_Num), .pv (.str e_Text), .pv (.lst e_Names), .pv (.lst e_Types), .pv (.lst e_Args), .pv (.lst e_Arms), .pv (.int .i64 e_At)])], [], [(0, 9)], 0, 0⟩⟩
noncomputable def L64_1111014511041116 (l1 : List PV) (i1 : Int) (v : Int) (e_Kind : Int) (e_Num : Int) (e_Text : List UInt8) (e_Names : List PV) (e_Types : List PV) (e_Args : List PV) (e_Arms : List PV) (e_At : Int) : Option Out := LV Pr T 64 [1, 1, 1, 1, 0, 1, 4, 5, 1, 1, 0, 4, 1, 1, 1, 6] (st64_1111014511041116 l1 i1 v e_Kind e_Num e_Text e_Names e_Types e_Args e_Arms e_At)
def st64_11111016 (l1 : List PV) (b : Bool) (e_Kind : Int) (e_Num : Int) (e_Text : List UInt8) (e_Names : List PV) (e_Types : List PV) (e_Args : List PV) (e_Arms : List PV) (e_At : Int) : AS :=
  ⟨[.any, .box 0 0, .any, .any, .bld 0 0 l1, .any, .any, .any, .any, .any, .any, .any, .any, .any, .any, .any, .any, .any, .any, .any, .any, .any, .any, .any, .any, .any, .any, .any, .any, .any, .any, .any, .any, .any, .any, .any, .any, .any, .any, .any, .any, .any, .any, .any, .any, .any, .any, .any, .any, .any, .any, .any, .any, .any, .any, .any, .any, .any, .any, .any, .any, .any, .any, .any, .any, .any, .any, .any, .any, .any, .pv (.bool b), .any, .any, .any, .any, .any, .any, .any, .any, .any, .any, .any, .any, .any, .any, .any, .any, .any, .any], ⟨[(false, [.pv (.int .i64 e_Kind), .pv (.int .i64 e_Num), .pv (.str e_Text), .pv (.lst e_Names), .pv (.lst e_Types), .pv (.lst e_Args), .pv (.lst e_Arms), .pv (.int .i64 e_At)])], [], [(0, 9)], 0, 0⟩⟩
noncomputable def L64_11111016 (l1 : List PV) (b : Bool) (e_Kind : Int) (e_Num : Int) (e_Text : List UInt8) (e_Names : List PV) (e_Types : List PV) (e_Args : List PV) (e_Arms : List PV) (e_At : Int) : Option Out := LV Pr T 64 [1, 1, 1, 1, 1, 0, 1, 6] (st64_11111016 l1 b e_Kind e_Num e_Text e_Names e_Types e_Args e_Arms e_At)
def st64_11110145110411116 (l : List PV) (i : Int) (e_Names : List PV) (v : Int) (e_Kind : Int) (e_Num : Int) (e_Text : List UInt8) (l1 : List PV) (e_Types : List PV) (e_Args : List PV) (e_Arms : List PV) (e_At : Int) : AS :=
  ⟨[.any, .box 0 0, .any, .any, .bld 0 0 l, .any, .any, .pv (.int .i64 i), .pv (.lst e_Names), .any, .any, .any, .any, .any, .any, .any, .any, .any, .any, .any, .any, .any, .any, .any, .any, .any, .any, .any, .any, .any, .any, .any, .any, .pv (.int .i64 (bif decide ((0 : Int) > (v)) then (0 : Int) else (v))), .pv (.int .i64 i), .any, .any, .any, .any, .any, .any, .any, .any, .any, .any, .any, .any, .any, .any, .any, .any, .any, .any, .any, .any, .any, .any, .any, .any, .any, .any, .any, .any, .any, .any, .any, .any, .any, .any, .any, .any, .any, .any, .any, .any, .any, .any, .any, .any, .any, .any, .any, .any, .any, .any, .any, .any, .any, .any], ⟨[(false, [.pv (.int .i64 e_Kind), .pv (.int .i64 e_Num), .pv (.str e_Text), .pv (.lst l1), .pv (.lst e_Types), .pv (.lst e_Args), .pv (.lst e_Arms), .pv (.int .i64 e_At)])], [], [(0, 9)], 0, 0⟩⟩
noncomputable def L64_11110145110411116 (l : List PV) (i : Int) (e_Names : List PV) (v : Int) (e_Kind : Int) (e_Num : Int) (e_Text : List UInt8) (l1 : List PV) (e_Types : List PV) (e_Args : List PV) (e_Arms : List PV) (e_At : Int) : Option Out := LV Pr T 64 [1, 1, 1, 1, 0, 1, 4, 5, 1, 1, 0, 4, 1, 1, 1, 1, 6] (st64_11110145110411116 l i e_Names v e_Kind e_Num e_Text l1 e_Types e_Args e_Arms e_At)
def st64_11110145110411116v1 (l : List PV) (i : Int) (v : Int) (e_Kind : Int) (e_Num : Int) (e_Text : List UInt8) (e_Names : List PV) (e_Types : List PV) (e_Args : List PV) (e_Arms : List PV) (e_At : Int) : AS :=
  ⟨[.any, .box 0 0, .any, .any, .bld 0 0 l, .any, .any, .pv (.int .i64 i), .pv .nils, .any, .any, .any, .any, .any, .any, .any, .any, .any, .any, .any, .any, .any, .any, .any, .any, .any, .any, .any, .any, .any, .any, .any, .any, .pv (.int .i64 (bif decide ((0 : Int) > (v)) then (0 : Int) else (v))), .pv (.int .i64 i), .any, .any, .any, .any, .any, .any, .any, .any, .any, .any, .any, .any, .any, .any, .any, .any, .any, .any, .any, .any, .any, .any, .any, .any, .any, .any, .any, .any, .any, .any, .any, .any, .any, .any, .any, .any, .any, .any, .any, .any, .any, .any, .any, .any, .any, .any, .any, .any, .any, .any, .any, .any, .any, .any], ⟨[(false, [.pv (.int .i64 e_Kind), .pv (.int .i64 e_Num), .pv (.str e_Text), .pv (.lst e_Names), .pv (.lst e_Types), .pv (.lst e_Args), .pv (.lst e_Arms), .pv (.int .i64 e_At)])], [], [(0, 9)], 0, 0⟩⟩
noncomputable def L64_11110145110411116v1 (l : List PV) (i : Int) (v : Int) (e_Kind : Int) (e_Num : Int) (e_Text : List UInt8) (e_Names : List PV) (e_Types : List PV) (e_Args : List PV) (e_Arms : List PV) (e_At : Int) : Option Out := LV Pr T 64 [1, 1, 1, 1, 0, 1, 4, 5, 1, 1, 0, 4, 1, 1, 1, 1, 6] (st64_11110145110411116v1 l i v e_Kind e_Num e_Text e_Names e_Types e_Args e_Arms e_At)
def st64_1111101214 (l : List PV) (e_Arms : List PV) (i : Int) : AS :=
  ⟨[.any, .any, .any, .any, .bld 0 0 l, .any, .any, .any, .any, .any, .any, .any, .any, .any, .any, .any, .any, .any, .any, .any, .any, .any, .any, .any, .any, .any, .any, .any, .any, .any, .any, .any, .any, .any, .any, .any, .any, .any, .any, .any, .any, .any, .any, .any, .any, .any, .any, .any, .any, .any, .any, .any, .any, .any, .any, .any, .any, .any, .any, .any, .any, .any, .any, .any, .any, .any, .any, .any, .any, .any, .any, .any, .pv (.lst e_Arms), .pv (.int .i64 (e_Arms.length : Int)), .pv (.int .i64 i), .any, .any, .any, .any, .any, .any, .any, .any, .any, .any, .any, .any, .any, .any], ⟨[], [], [(0, 9)], 0, 0⟩⟩
noncomputable def L64_1111101214 (l : List PV) (e_Arms : List PV) (i : Int) : Option Out := LV Pr T 64 [1, 1, 1, 1, 1, 0, 1, 2, 1, 4] (st64_1111101214 l e_Arms i)
def st64_1111014511041116v1 (l : List PV) (i : Int) (e_Text : List UInt8) (v : Int) (e_Kind : Int) (e_Num : Int) (e_Names : List PV) (e_Types : List PV) (e_Args : List PV) (e_Arms : List PV) (e_At : Int) : AS :=
  ⟨[.any, .box 0 0, .any, .any, .bld 0 0 l, .any, .any, .pv (.int .i64 i), .pv (.lst [.str e_Text]), .any, .any, .any, .any, .any, .any, .any, .any, .any, .any, .any, .any, .any, .any, .any, .any, .any, .any, .any, .any, .any, .any, .any, .any, .pv (.int .i64 (bif decide ((0 : Int) > (v)) then (0 : Int) else (v))), .pv (.int .i64 i), .any, .any, .any, .any, .any, .any, .any, .any, .any, .any, .any, .any, .any, .any, .any, .any, .any, .any, .any, .any, .any, .any, .any, .any, .any, .any, .any, .any, .any, .any, .any, .any, .any, .any, .any, .any, .any, .any, .any, .any, .any, .any, .any, .any, .any, .any, .any, .any, .any, .any, .any, .any, .any, .any], ⟨[(false, [.pv (.int .i64 e_Kind), .pv (.int .i64 e_Num), .pv (.str e_Text), .pv (.lst e_Names), .pv (.lst e_Types), .pv (.lst e_Args), .pv (.lst e_Arms), .pv (.int .i64 e_At)])], [], [(0, 9)], 0, 0⟩⟩
noncomputable def L64_1111014511041116v1 (l : List PV) (i : Int) (e_Text : List UInt8) (v : Int) (e_Kind : Int) (e_Num : Int) (e_Names : List PV) (e_Types : List PV) (e_Args : List PV) (e_Arms : List PV) (e_At : Int) : Option Out := LV Pr T 64 [1, 1, 1, 1, 0, 1, 4, 5, 1, 1, 0, 4, 1, 1, 1, 6] (st64_1111014511041116v1 l i e_Text v e_Kind e_Num e_Names e_Types e_Args e_Arms e_At)
theorem f64 (e_Kind : Int) (e_Num : Int) (e_Text : List UInt8) (e_Names : List PV) (e_Types : List PV) (e_Args : List PV) (e_Arms : List PV) (e_At : Int) (cl_ : FuncId → List Arg → Option Out) (lp_ : List Nat → AS → Option Out) : runW Pr T cl_ lp_ 64 [.pv (.agg [.int .i64 e_Kind, .int .i64 e_Num, .str e_Text, .lst e_Names, .lst e_Types, .lst e_Args, .lst e_Arms, .int .i64 e_At])] =
  ((cl_ 96 [.pv (.agg [.int .i64 e_Kind, .int .i64 e_Num, .str e_Text, .lst e_Names, .lst e_Types, .lst e_Args, .lst e_Arms, .int .i64 e_At])]).bind retPV).bind fun r =>
    (bif (Sh.int .i64).fits r then
      bif decide ((r.toInt) > (e_Args.length : Int)) then
        lp_ [1, 1, 1, 0, 1, 2, 0, 1, 4] (st64_111012014 [] e_Args 0)
      else lp_ [1, 1, 1, 1, 0, 1, 4] (st64_1111014 [] r.toInt 0 e_Kind e_Num e_Text e_Names e_Types e_Args e_Arms e_At)
    else none) := by kernel_rfl
theorem e64 (e_Kind : Int) (e_Num : Int) (e_Text : List UInt8) (e_Names : List PV) (e_Types : List PV) (e_Args : List PV) (e_Arms : List PV) (e_At : Int) : V 64 [.pv (.agg [.int .i64 e_Kind, .int .i64 e_Num, .str e_Text, .lst e_Names, .lst e_Types, .lst e_Args, .lst e_Arms, .int .i64 e_At])] =
  ((V 96 [.pv (.agg [.int .i64 e_Kind, .int .i64 e_Num, .str e_Text, .lst e_Names, .lst e_Types, .lst e_Args, .lst e_Arms, .int .i64 e_At])]).bind retPV).bind fun r =>
    (bif (Sh.int .i64).fits r then
      bif decide ((r.toInt) > (e_Args.length : Int)) then
        L64_111012014 [] e_Args 0
      else L64_1111014 [] r.toInt 0 e_Kind e_Num e_Text e_Names e_Types e_Args e_Arms e_At
    else none) :=
  (V_eq pa rfl _).trans (f64 e_Kind e_Num e_Text e_Names e_Types e_Args e_Arms e_At V (LV Pr T 64))
theorem f64_111012014 (l : List PV) (e_Args : List PV) (i : Int) (cl_ : FuncId → List Arg → Option Out) (lp_ : List Nat → AS → Option Out) : stepW Pr T cl_ lp_ 64 [1, 1, 1, 0, 1, 2, 0, 1, 4] (st64_111012014 l e_Args i) =
  bif decide (i < (e_Args.length : Int)) then
    bif decide (0 ≤ i) then
      (e_Args[i.toNat]?).bind fun x =>
        (bif (Sh.agg [Sh.int .i64, Sh.int .i64, Sh.str, Sh.lst, Sh.lst, Sh.lst, Sh.lst, Sh.int .i64]).fits x then
          bif small (l.length) 1 160 then
            lp_ [1, 1, 1, 0, 1, 2, 0, 1, 4] (st64_111012014 (l ++ ([.agg [.int .i64 ((x.c 0).toInt), .int .i64 ((x.c 1).toInt), .str ((x.c 2).toStr), .lst ((x.c 3).toLst), .lst ((x.c 4).toLst), .lst ((x.c 5).toLst), .lst ((x.c 6).toLst), .int .i64 ((x.c 7).toInt), .lst []]] : List PV)) e_Args (IntKind.i64.wrap (i + (1 : Int))))
          else none
        else none)
    else none
  else some (.bld 9 l, []) := by kernel_rfl
theorem e64_111012014 (l : List PV) (e_Args : List PV) (i : Int) : L64_111012014 l e_Args i =
  bif decide (i < (e_Args.length : Int)) then
    bif decide (0 ≤ i) then
      (e_Args[i.toNat]?).bind fun x =>
        (bif (Sh.agg [Sh.int .i64, Sh.int .i64, Sh.str, Sh.lst, Sh.lst, Sh.lst, Sh.lst, Sh.int .i64]).fits x then
          bif small (l.length) 1 160 then
            L64_111012014 (l ++ ([.agg [.int .i64 ((x.c 0).toInt), .int .i64 ((x.c 1).toInt), .str ((x.c 2).toStr), .lst ((x.c 3).toLst), .lst ((x.c 4).toLst), .lst ((x.c 5).toLst), .lst ((x.c 6).toLst), .int .i64 ((x.c 7).toInt), .lst []]] : List PV)) e_Args (IntKind.i64.wrap (i + (1 : Int)))
          else none
        else none)
    else none
  else some (.bld 9 l, []) :=
  (LV_eq pa 64 _ _).trans (f64_111012014 l e_Args i V (LV Pr T 64))
theorem f64_1111014 (l : List PV) (v : Int) (i : Int) (e_Kind : Int) (e_Num : Int) (e_Text : List UInt8) (e_Names : List PV) (e_Types : List PV) (e_Args : List PV) (e_Arms : List PV) (e_At : Int) (cl_ : FuncId → List Arg → Option Out) (lp_ : List Nat → AS → Option Out) : stepW Pr T cl_ lp_ 64 [1, 1, 1, 1, 0, 1, 4] (st64_1111014 l v i e_Kind e_Num e_Text e_Names e_Types e_Args e_Arms e_At) =
  bif decide (i < (bif decide ((0 : Int) > (v)) then (0 : Int) else (v))) then
    bif (e_Kind == (6 : Int)) then
      bif (i == (1 : Int)) then
        lp_ [1, 1, 1, 1, 0, 1, 4, 5, 1, 1, 0, 4, 1, 1, 1, 6] (st64_1111014511041116v1 l i e_Text v e_Kind e_Num e_Names e_Types e_Args e_Arms e_At)
      else lp_ [1, 1, 1, 1, 0, 1, 4, 5, 1, 1, 0, 4, 1, 1, 1, 6] (st64_1111014511041116 l i v e_Kind e_Num e_Text e_Names e_Types e_Args e_Arms e_At)
    else lp_ [1, 1, 1, 1, 0, 1, 4, 5, 1, 1, 0, 4, 1, 1, 1, 6] (st64_1111014511041116 l i v e_Kind e_Num e_Text e_Names e_Types e_Args e_Arms e_At)
  else bif (e_Kind == (13 : Int)) then
    lp_ [1, 1, 1, 1, 1, 0, 1, 6] (st64_11111016 l true e_Kind e_Num e_Text e_Names e_Types e_Args e_Arms e_At)
  else lp_ [1, 1, 1, 1, 1, 0, 1, 6] (st64_11111016 l (e_Kind == (18 : Int)) e_Kind e_Num e_Text e_Names e_Types e_Args e_Arms e_At) := by kernel_rfl
theorem e64_1111014 (l : List PV) (v : Int) (i : Int) (e_Kind : Int) (e_Num : Int) (e_Text : List UInt8) (e_Names : List PV) (e_Types : List PV) (e_Args : List PV) (e_Arms : List PV) (e_At : Int) : L64_1111014 l v i e_Kind e_Num e_Text e_Names e_Types e_Args e_Arms e_At =
  bif decide (i < (bif decide ((0 : Int) > (v)) then (0 : Int) else (v))) then
    bif (e_Kind == (6 : Int)) then
      bif (i == (1 : Int)) then
        L64_1111014511041116v1 l i e_Text v e_Kind e_Num e_Names e_Types e_Args e_Arms e_At
      else L64_1111014511041116 l i v e_Kind e_Num e_Text e_Names e_Types e_Args e_Arms e_At
    else L64_1111014511041116 l i v e_Kind e_Num e_Text e_Names e_Types e_Args e_Arms e_At
  else bif (e_Kind == (13 : Int)) then
    L64_11111016 l true e_Kind e_Num e_Text e_Names e_Types e_Args e_Arms e_At
  else L64_11111016 l (e_Kind == (18 : Int)) e_Kind e_Num e_Text e_Names e_Types e_Args e_Arms e_At :=
  (LV_eq pa 64 _ _).trans (f64_1111014 l v i e_Kind e_Num e_Text e_Names e_Types e_Args e_Arms e_At V (LV Pr T 64))
theorem f64_1111014511041116 (l1 : List PV) (i1 : Int) (v : Int) (e_Kind : Int) (e_Num : Int) (e_Text : List UInt8) (e_Names : List PV) (e_Types : List PV) (e_Args : List PV) (e_Arms : List PV) (e_At : Int) (cl_ : FuncId → List Arg → Option Out) (lp_ : List Nat → AS → Option Out) : stepW Pr T cl_ lp_ 64 [1, 1, 1, 1, 0, 1, 4, 5, 1, 1, 0, 4, 1, 1, 1, 6] (st64_1111014511041116 l1 i1 v e_Kind e_Num e_Text e_Names e_Types e_Args e_Arms e_At) =
  bif (e_Kind == (10 : Int)) then
    lp_ [1, 1, 1, 1, 0, 1, 4, 5, 1, 1, 0, 4, 1, 1, 1, 1, 6] (st64_11110145110411116 l1 i1 e_Names v e_Kind e_Num e_Text e_Names e_Types e_Args e_Arms e_At)
  else lp_ [1, 1, 1, 1, 0, 1, 4, 5, 1, 1, 0, 4, 1, 1, 1, 1, 6] (st64_11110145110411116v1 l1 i1 v e_Kind e_Num e_Text e_Names e_Types e_Args e_Arms e_At) := by kernel_rfl
theorem e64_1111014511041116 (l1 : List PV) (i1 : Int) (v : Int) (e_Kind : Int) (e_Num : Int) (e_Text : List UInt8) (e_Names : List PV) (e_Types : List PV) (e_Args : List PV) (e_Arms : List PV) (e_At : Int) : L64_1111014511041116 l1 i1 v e_Kind e_Num e_Text e_Names e_Types e_Args e_Arms e_At =
  bif (e_Kind == (10 : Int)) then
    L64_11110145110411116 l1 i1 e_Names v e_Kind e_Num e_Text e_Names e_Types e_Args e_Arms e_At
  else L64_11110145110411116v1 l1 i1 v e_Kind e_Num e_Text e_Names e_Types e_Args e_Arms e_At :=
  (LV_eq pa 64 _ _).trans (f64_1111014511041116 l1 i1 v e_Kind e_Num e_Text e_Names e_Types e_Args e_Arms e_At V (LV Pr T 64))
theorem f64_11111016 (l1 : List PV) (b : Bool) (e_Kind : Int) (e_Num : Int) (e_Text : List UInt8) (e_Names : List PV) (e_Types : List PV) (e_Args : List PV) (e_Arms : List PV) (e_At : Int) (cl_ : FuncId → List Arg → Option Out) (lp_ : List Nat → AS → Option Out) : stepW Pr T cl_ lp_ 64 [1, 1, 1, 1, 1, 0, 1, 6] (st64_11111016 l1 b e_Kind e_Num e_Text e_Names e_Types e_Args e_Arms e_At) =
  bif b then
    lp_ [1, 1, 1, 1, 1, 0, 1, 2, 1, 4] (st64_1111101214 l1 e_Arms 0)
  else some (.bld 9 l1, []) := by kernel_rfl
theorem e64_11111016 (l1 : List PV) (b : Bool) (e_Kind : Int) (e_Num : Int) (e_Text : List UInt8) (e_Names : List PV) (e_Types : List PV) (e_Args : List PV) (e_Arms : List PV) (e_At : Int) : L64_11111016 l1 b e_Kind e_Num e_Text e_Names e_Types e_Args e_Arms e_At =
  bif b then
    L64_1111101214 l1 e_Arms 0
  else some (.bld 9 l1, []) :=
  (LV_eq pa 64 _ _).trans (f64_11111016 l1 b e_Kind e_Num e_Text e_Names e_Types e_Args e_Arms e_At V (LV Pr T 64))
theorem f64_11110145110411116 (l : List PV) (i : Int) (e_Names : List PV) (v : Int) (e_Kind : Int) (e_Num : Int) (e_Text : List UInt8) (l1 : List PV) (e_Types : List PV) (e_Args : List PV) (e_Arms : List PV) (e_At : Int) (cl_ : FuncId → List Arg → Option Out) (lp_ : List Nat → AS → Option Out) : stepW Pr T cl_ lp_ 64 [1, 1, 1, 1, 0, 1, 4, 5, 1, 1, 0, 4, 1, 1, 1, 1, 6] (st64_11110145110411116 l i e_Names v e_Kind e_Num e_Text l1 e_Types e_Args e_Arms e_At) =
  bif decide (0 ≤ i) then
    (e_Args[i.toNat]?).bind fun x =>
      (bif (Sh.agg [Sh.int .i64, Sh.int .i64, Sh.str, Sh.lst, Sh.lst, Sh.lst, Sh.lst, Sh.int .i64]).fits x then
        bif small (l.length) 1 160 then
          lp_ [1, 1, 1, 1, 0, 1, 4] (st64_1111014 (l ++ ([.agg [.int .i64 ((x.c 0).toInt), .int .i64 ((x.c 1).toInt), .str ((x.c 2).toStr), .lst ((x.c 3).toLst), .lst ((x.c 4).toLst), .lst ((x.c 5).toLst), .lst ((x.c 6).toLst), .int .i64 ((x.c 7).toInt), .lst e_Names]] : List PV)) v (IntKind.i64.wrap (i + (1 : Int))) e_Kind e_Num e_Text l1 e_Types e_Args e_Arms e_At)
        else none
      else none)
  else none := by kernel_rfl
theorem e64_11110145110411116 (l : List PV) (i : Int) (e_Names : List PV) (v : Int) (e_Kind : Int) (e_Num : Int) (e_Text : List UInt8) (l1 : List PV) (e_Types : List PV) (e_Args : List PV) (e_Arms : List PV) (e_At : Int) : L64_11110145110411116 l i e_Names v e_Kind e_Num e_Text l1 e_Types e_Args e_Arms e_At =
  bif decide (0 ≤ i) then
    (e_Args[i.toNat]?).bind fun x =>
      (bif (Sh.agg [Sh.int .i64, Sh.int .i64, Sh.str, Sh.lst, Sh.lst, Sh.lst, Sh.lst, Sh.int .i64]).fits x then
        bif small (l.length) 1 160 then
          L64_1111014 (l ++ ([.agg [.int .i64 ((x.c 0).toInt), .int .i64 ((x.c 1).toInt), .str ((x.c 2).toStr), .lst ((x.c 3).toLst), .lst ((x.c 4).toLst), .lst ((x.c 5).toLst), .lst ((x.c 6).toLst), .int .i64 ((x.c 7).toInt), .lst e_Names]] : List PV)) v (IntKind.i64.wrap (i + (1 : Int))) e_Kind e_Num e_Text l1 e_Types e_Args e_Arms e_At
        else none
      else none)
  else none :=
  (LV_eq pa 64 _ _).trans (f64_11110145110411116 l i e_Names v e_Kind e_Num e_Text l1 e_Types e_Args e_Arms e_At V (LV Pr T 64))
theorem f64_11110145110411116v1 (l : List PV) (i : Int) (v : Int) (e_Kind : Int) (e_Num : Int) (e_Text : List UInt8) (e_Names : List PV) (e_Types : List PV) (e_Args : List PV) (e_Arms : List PV) (e_At : Int) (cl_ : FuncId → List Arg → Option Out) (lp_ : List Nat → AS → Option Out) : stepW Pr T cl_ lp_ 64 [1, 1, 1, 1, 0, 1, 4, 5, 1, 1, 0, 4, 1, 1, 1, 1, 6] (st64_11110145110411116v1 l i v e_Kind e_Num e_Text e_Names e_Types e_Args e_Arms e_At) =
  bif decide (0 ≤ i) then
    (e_Args[i.toNat]?).bind fun x =>
      (bif (Sh.agg [Sh.int .i64, Sh.int .i64, Sh.str, Sh.lst, Sh.lst, Sh.lst, Sh.lst, Sh.int .i64]).fits x then
        bif small (l.length) 1 160 then
          lp_ [1, 1, 1, 1, 0, 1, 4] (st64_1111014 (l ++ ([.agg [.int .i64 ((x.c 0).toInt), .int .i64 ((x.c 1).toInt), .str ((x.c 2).toStr), .lst ((x.c 3).toLst), .lst ((x.c 4).toLst), .lst ((x.c 5).toLst), .lst ((x.c 6).toLst), .int .i64 ((x.c 7).toInt), .lst []]] : List PV)) v (IntKind.i64.wrap (i + (1 : Int))) e_Kind e_Num e_Text e_Names e_Types e_Args e_Arms e_At)
        else none
      else none)
  else none := by kernel_rfl
theorem e64_11110145110411116v1 (l : List PV) (i : Int) (v : Int) (e_Kind : Int) (e_Num : Int) (e_Text : List UInt8) (e_Names : List PV) (e_Types : List PV) (e_Args : List PV) (e_Arms : List PV) (e_At : Int) : L64_11110145110411116v1 l i v e_Kind e_Num e_Text e_Names e_Types e_Args e_Arms e_At =
  bif decide (0 ≤ i) then
    (e_Args[i.toNat]?).bind fun x =>
      (bif (Sh.agg [Sh.int .i64, Sh.int .i64, Sh.str, Sh.lst, Sh.lst, Sh.lst, Sh.lst, Sh.int .i64]).fits x then
        bif small (l.length) 1 160 then
          L64_1111014 (l ++ ([.agg [.int .i64 ((x.c 0).toInt), .int .i64 ((x.c 1).toInt), .str ((x.c 2).toStr), .lst ((x.c 3).toLst), .lst ((x.c 4).toLst), .lst ((x.c 5).toLst), .lst ((x.c 6).toLst), .int .i64 ((x.c 7).toInt), .lst []]] : List PV)) v (IntKind.i64.wrap (i + (1 : Int))) e_Kind e_Num e_Text e_Names e_Types e_Args e_Arms e_At
        else none
      else none)
  else none :=
  (LV_eq pa 64 _ _).trans (f64_11110145110411116v1 l i v e_Kind e_Num e_Text e_Names e_Types e_Args e_Arms e_At V (LV Pr T 64))
theorem f64_1111101214 (l : List PV) (e_Arms : List PV) (i : Int) (cl_ : FuncId → List Arg → Option Out) (lp_ : List Nat → AS → Option Out) : stepW Pr T cl_ lp_ 64 [1, 1, 1, 1, 1, 0, 1, 2, 1, 4] (st64_1111101214 l e_Arms i) =
  bif decide (i < (e_Arms.length : Int)) then
    bif decide (0 ≤ i) then
      (e_Arms[i.toNat]?).bind fun x =>
        (bif (Sh.agg [Sh.int .i64, Sh.int .i64, Sh.str, Sh.lst, Sh.int .i64, Sh.int .i64, Sh.str, Sh.lst, Sh.lst, Sh.lst, Sh.lst, Sh.int .i64]).fits x then
          ((cl_ 97 [.pv (.agg [.int .i64 ((x.c 0).toInt), .int .i64 ((x.c 1).toInt), .str ((x.c 2).toStr), .lst ((x.c 3).toLst)])]).bind retPV).bind fun r =>
            (bif (Sh.lst).fits r then
              bif small (l.length) 1 160 then
                lp_ [1, 1, 1, 1, 1, 0, 1, 2, 1, 4] (st64_1111101214 (l ++ ([.agg [.int .i64 ((x.c 4).toInt), .int .i64 ((x.c 5).toInt), .str ((x.c 6).toStr), .lst ((x.c 7).toLst), .lst ((x.c 8).toLst), .lst ((x.c 9).toLst), .lst ((x.c 10).toLst), .int .i64 ((x.c 11).toInt), .lst r.toLst]] : List PV)) e_Arms (IntKind.i64.wrap (i + (1 : Int))))
              else none
            else none)
        else none)
    else none
  else some (.bld 9 l, []) := by kernel_rfl
theorem e64_1111101214 (l : List PV) (e_Arms : List PV) (i : Int) : L64_1111101214 l e_Arms i =
  bif decide (i < (e_Arms.length : Int)) then
    bif decide (0 ≤ i) then
      (e_Arms[i.toNat]?).bind fun x =>
        (bif (Sh.agg [Sh.int .i64, Sh.int .i64, Sh.str, Sh.lst, Sh.int .i64, Sh.int .i64, Sh.str, Sh.lst, Sh.lst, Sh.lst, Sh.lst, Sh.int .i64]).fits x then
          ((V 97 [.pv (.agg [.int .i64 ((x.c 0).toInt), .int .i64 ((x.c 1).toInt), .str ((x.c 2).toStr), .lst ((x.c 3).toLst)])]).bind retPV).bind fun r =>
            (bif (Sh.lst).fits r then
              bif small (l.length) 1 160 then
                L64_1111101214 (l ++ ([.agg [.int .i64 ((x.c 4).toInt), .int .i64 ((x.c 5).toInt), .str ((x.c 6).toStr), .lst ((x.c 7).toLst), .lst ((x.c 8).toLst), .lst ((x.c 9).toLst), .lst ((x.c 10).toLst), .int .i64 ((x.c 11).toInt), .lst r.toLst]] : List PV)) e_Arms (IntKind.i64.wrap (i + (1 : Int)))
              else none
            else none)
        else none)
    else none
  else some (.bld 9 l, []) :=
  (LV_eq pa 64 _ _).trans (f64_1111101214 l e_Arms i V (LV Pr T 64))
theorem f64_1111014511041116v1 (l : List PV) (i : Int) (e_Text : List UInt8) (v : Int) (e_Kind : Int) (e_Num : Int) (e_Names : List PV) (e_Types : List PV) (e_Args : List PV) (e_Arms : List PV) (e_At : Int) (cl_ : FuncId → List Arg → Option Out) (lp_ : List Nat → AS → Option Out) : stepW Pr T cl_ lp_ 64 [1, 1, 1, 1, 0, 1, 4, 5, 1, 1, 0, 4, 1, 1, 1, 6] (st64_1111014511041116v1 l i e_Text v e_Kind e_Num e_Names e_Types e_Args e_Arms e_At) =
  bif (e_Kind == (10 : Int)) then
    lp_ [1, 1, 1, 1, 0, 1, 4, 5, 1, 1, 0, 4, 1, 1, 1, 1, 6] (st64_11110145110411116 l i e_Names v e_Kind e_Num e_Text e_Names e_Types e_Args e_Arms e_At)
  else lp_ [1, 1, 1, 1, 0, 1, 4, 5, 1, 1, 0, 4, 1, 1, 1, 1, 6] (st64_11110145110411116 l i [.str e_Text] v e_Kind e_Num e_Text e_Names e_Types e_Args e_Arms e_At) := by kernel_rfl
theorem e64_1111014511041116v1 (l : List PV) (i : Int) (e_Text : List UInt8) (v : Int) (e_Kind : Int) (e_Num : Int) (e_Names : List PV) (e_Types : List PV) (e_Args : List PV) (e_Arms : List PV) (e_At : Int) : L64_1111014511041116v1 l i e_Text v e_Kind e_Num e_Names e_Types e_Args e_Arms e_At =
  bif (e_Kind == (10 : Int)) then
    L64_11110145110411116 l i e_Names v e_Kind e_Num e_Text e_Names e_Types e_Args e_Arms e_At
  else L64_11110145110411116 l i [.str e_Text] v e_Kind e_Num e_Text e_Names e_Types e_Args e_Arms e_At :=
  (LV_eq pa 64 _ _).trans (f64_1111014511041116v1 l i e_Text v e_Kind e_Num e_Names e_Types e_Args e_Arms e_At V (LV Pr T 64))
/-! 65 roadstead/roadref2.SizeOf -/
def st65_11014 (i : Int) (v : List PV) (i1 : Int) : AS :=
  ⟨[.any, .any, .any, .pv (.int .i64 i), .any, .any, .any, .any, .any, .pv (.lst v), .pv (.int .i64 (v.length : Int)), .pv (.int .i64 i1), .any, .any, .any, .any, .any, .any, .any, .any, .any, .any, .any, .any, .any, .any, .any, .any, .any, .any, .any, .any, .any], ⟨[], [], [], 0, 0⟩⟩
noncomputable def L65_11014 (i : Int) (v : List PV) (i1 : Int) : Option Out := LV Pr T 65 [1, 1, 0, 1, 4] (st65_11014 i v i1)
def st65_11014511041114 (i : Int) (v : List PV) (i2 : Int) (v1 : List PV) (i1 : Int) : AS :=
  ⟨[.any, .any, .any, .pv (.int .i64 i), .any, .any, .any, .any, .any, .pv (.lst v), .pv (.int .i64 (v.length : Int)), .pv (.int .i64 i2), .any, .any, .any, .any, .any, .any, .pv (.lst v1), .pv (.int .i64 (v1.length : Int)), .pv (.int .i64 i1), .any, .any, .any, .any, .any, .any, .any, .any, .any, .any, .any, .any], ⟨[], [], [], 0, 0⟩⟩
noncomputable def L65_11014511041114 (i : Int) (v : List PV) (i2 : Int) (v1 : List PV) (i1 : Int) : Option Out := LV Pr T 65 [1, 1, 0, 1, 4, 5, 1, 1, 0, 4, 1, 1, 1, 4] (st65_11014511041114 i v i2 v1 i1)
theorem f65 (e_Kind : Int) (e_Num : Int) (e_Text : List UInt8) (e_Names : List PV) (e_Types : List PV) (e_Args : List PV) (e_Arms : List PV) (e_At : Int) (cl_ : FuncId → List Arg → Option Out) (lp_ : List Nat → AS → Option Out) : runW Pr T cl_ lp_ 65 [.pv (.agg [.int .i64 e_Kind, .int .i64 e_Num, .str e_Text, .lst e_Names, .lst e_Types, .lst e_Args, .lst e_Arms, .int .i64 e_At])] =
  ((cl_ 98 [.pv (.agg [.int .i64 e_Kind, .int .i64 e_Num, .str e_Text, .lst e_Names, .lst e_Types, .lst e_Args, .lst e_Arms, .int .i64 e_At])]).bind retPV).bind fun r =>
    (bif (Sh.lst).fits r then
      lp_ [1, 1, 0, 1, 4] (st65_11014 0 r.toLst 0)
    else none) := by kernel_rfl
theorem e65 (e_Kind : Int) (e_Num : Int) (e_Text : List UInt8) (e_Names : List PV) (e_Types : List PV) (e_Args : List PV) (e_Arms : List PV) (e_At : Int) : V 65 [.pv (.agg [.int .i64 e_Kind, .int .i64 e_Num, .str e_Text, .lst e_Names, .lst e_Types, .lst e_Args, .lst e_Arms, .int .i64 e_At])] =
  ((V 98 [.pv (.agg [.int .i64 e_Kind, .int .i64 e_Num, .str e_Text, .lst e_Names, .lst e_Types, .lst e_Args, .lst e_Arms, .int .i64 e_At])]).bind retPV).bind fun r =>
    (bif (Sh.lst).fits r then
      L65_11014 0 r.toLst 0
    else none) :=
  (V_eq pa rfl _).trans (f65 e_Kind e_Num e_Text e_Names e_Types e_Args e_Arms e_At V (LV Pr T 65))
theorem f65_11014 (i : Int) (v : List PV) (i1 : Int) (cl_ : FuncId → List Arg → Option Out) (lp_ : List Nat → AS → Option Out) : stepW Pr T cl_ lp_ 65 [1, 1, 0, 1, 4] (st65_11014 i v i1) =
  bif decide (i1 < (v.length : Int)) then
    bif decide (0 ≤ i1) then
      (v[i1.toNat]?).bind fun x =>
        (bif (Sh.agg [Sh.int .i64, Sh.int .i64, Sh.str, Sh.lst, Sh.lst, Sh.lst, Sh.lst, Sh.int .i64]).fits x then
          lp_ [1, 1, 0, 1, 4, 5, 1, 1, 0, 4, 1, 1, 1, 4] (st65_11014511041114 (IntKind.i64.wrap (i + (1 : Int))) v i1 ((x.c 6).toLst) 0)
        else none)
    else none
  else some (.pv (.int .i64 i), []) := by kernel_rfl
theorem e65_11014 (i : Int) (v : List PV) (i1 : Int) : L65_11014 i v i1 =
  bif decide (i1 < (v.length : Int)) then
    bif decide (0 ≤ i1) then
      (v[i1.toNat]?).bind fun x =>
        (bif (Sh.agg [Sh.int .i64, Sh.int .i64, Sh.str, Sh.lst, Sh.lst, Sh.lst, Sh.lst, Sh.int .i64]).fits x then
          L65_11014511041114 (IntKind.i64.wrap (i + (1 : Int))) v i1 ((x.c 6).toLst) 0
        else none)
    else none
  else some (.pv (.int .i64 i), []) :=
  (LV_eq pa 65 _ _).trans (f65_11014 i v i1 V (LV Pr T 65))
theorem f65_11014511041114 (i : Int) (v : List PV) (i2 : Int) (v1 : List PV) (i1 : Int) (cl_ : FuncId → List Arg → Option Out) (lp_ : List Nat → AS → Option Out) : stepW Pr T cl_ lp_ 65 [1, 1, 0, 1, 4, 5, 1, 1, 0, 4, 1, 1, 1, 4] (st65_11014511041114 i v i2 v1 i1) =
  bif decide (i1 < (v1.length : Int)) then
    bif decide (0 ≤ i1) then
      (v1[i1.toNat]?).bind fun x =>
        (bif (Sh.agg [Sh.int .i64, Sh.int .i64, Sh.str, Sh.lst, Sh.int .i64, Sh.int .i64, Sh.str, Sh.lst, Sh.lst, Sh.lst, Sh.lst, Sh.int .i64]).fits x then
          ((cl_ 99 [.pv (.agg [.int .i64 ((x.c 0).toInt), .int .i64 ((x.c 1).toInt), .str ((x.c 2).toStr), .lst ((x.c 3).toLst)])]).bind retPV).bind fun r =>
            (bif (Sh.lst).fits r then
              lp_ [1, 1, 0, 1, 4, 5, 1, 1, 0, 4, 1, 1, 1, 4] (st65_11014511041114 (IntKind.i64.wrap (i + (r.toLst.length : Int))) v i2 v1 (IntKind.i64.wrap (i1 + (1 : Int))))
            else none)
        else none)
    else none
  else lp_ [1, 1, 0, 1, 4] (st65_11014 i v (IntKind.i64.wrap (i2 + (1 : Int)))) := by kernel_rfl
theorem e65_11014511041114 (i : Int) (v : List PV) (i2 : Int) (v1 : List PV) (i1 : Int) : L65_11014511041114 i v i2 v1 i1 =
  bif decide (i1 < (v1.length : Int)) then
    bif decide (0 ≤ i1) then
      (v1[i1.toNat]?).bind fun x =>
        (bif (Sh.agg [Sh.int .i64, Sh.int .i64, Sh.str, Sh.lst, Sh.int .i64, Sh.int .i64, Sh.str, Sh.lst, Sh.lst, Sh.lst, Sh.lst, Sh.int .i64]).fits x then
          ((V 99 [.pv (.agg [.int .i64 ((x.c 0).toInt), .int .i64 ((x.c 1).toInt), .str ((x.c 2).toStr), .lst ((x.c 3).toLst)])]).bind retPV).bind fun r =>
            (bif (Sh.lst).fits r then
              L65_11014511041114 (IntKind.i64.wrap (i + (r.toLst.length : Int))) v i2 v1 (IntKind.i64.wrap (i1 + (1 : Int)))
            else none)
        else none)
    else none
  else L65_11014 i v (IntKind.i64.wrap (i2 + (1 : Int))) :=
  (LV_eq pa 65 _ _).trans (f65_11014511041114 i v i2 v1 i1 V (LV Pr T 65))
/-! 74 roadstead/tree.free -/
def st74_11041312016 (out : List PV) (b : Bool) (e_Kind : Int) (e_Num : Int) (e_Text : List UInt8) (e_Names : List PV) (e_Types : List PV) (e_Args : List PV) (e_Arms : List PV) (e_At : Int) : AS :=
  ⟨[.any, .any, .bld 0 0 out, .box 0 0, .any, .any, .any, .any, .any, .any, .any, .any, .any, .any, .any, .any, .any, .any, .any, .any, .any, .any, .any, .any, .any, .any, .any, .any, .any, .any, .any, .any, .any, .any, .any, .any, .pv (.bool b), .any, .any, .any, .any, .any, .any, .any, .any, .any, .any, .any, .any, .any, .any, .any, .any, .any, .any, .any, .any, .any, .any, .any, .any, .any, .any, .any, .any, .any, .any, .any, .any, .any, .any, .any, .any, .any, .any, .any, .any, .any, .any, .any, .any, .any, .any, .any, .any, .any, .any, .any, .any, .any, .any, .any, .any, .any, .any, .any, .any, .any, .any, .any, .any, .any, .any, .any, .any, .any, .any, .any, .any, .any, .any, .any, .any, .any, .any, .any, .any, .any, .any, .any, .any, .any, .any, .any, .any, .any], ⟨[(false, [.pv (.int .i64 e_Kind), .pv (.int .i64 e_Num), .pv (.str e_Text), .pv (.lst e_Names), .pv (.lst e_Types), .pv (.lst e_Args), .pv (.lst e_Arms), .pv (.int .i64 e_At)])], [], [(0, 1)], 0, 0⟩⟩
noncomputable def L74_11041312016 (out : List PV) (b : Bool) (e_Kind : Int) (e_Num : Int) (e_Text : List UInt8) (e_Names : List PV) (e_Types : List PV) (e_Args : List PV) (e_Arms : List PV) (e_At : Int) : Option Out := LV Pr T 74 [1, 1, 0, 4, 1, 3, 1, 2, 0, 1, 6] (st74_11041312016 out b e_Kind e_Num e_Text e_Names e_Types e_Args e_Arms e_At)
def st74_1104131312014 (within : List PV) (out : List PV) (e_Args : List PV) (i : Int) : AS :=
  ⟨[.any, .pv (.lst within), .bld 0 0 out, .any, .any, .any, .any, .any, .any, .any, .any, .any, .any, .any, .any, .any, .any, .any, .any, .any, .any, .any, .any, .any, .any, .any, .any, .any, .any, .any, .any, .any, .any, .any, .any, .any, .any, .any, .any, .any, .any, .any, .any, .any, .any, .any, .any, .any, .any, .any, .pv (.lst e_Args), .pv (.int .i64 (e_Args.length : Int)), .pv (.int .i64 i), .any, .any, .any, .any, .any, .any, .any, .any, .any, .any, .any, .any, .any, .any, .any, .any, .any, .any, .any, .any, .any, .any, .any, .any, .any, .any, .any, .any, .any, .any, .any, .any, .any, .any, .any, .any, .any, .any, .any, .any, .any, .any, .any, .any, .any, .any, .any, .any, .any, .any, .any, .any, .any, .any, .any, .any, .any, .any, .any, .any, .any, .any, .any, .any, .any, .any, .any, .any, .any, .any, .any, .any, .any], ⟨[], [], [(0, 1)], 0, 0⟩⟩
noncomputable def L74_1104131312014 (within : List PV) (out : List PV) (e_Args : List PV) (i : Int) : Option Out := LV Pr T 74 [1, 1, 0, 4, 1, 3, 1, 3, 1, 2, 0, 1, 4] (st74_1104131312014 within out e_Args i)
def st74_111014 (within : List PV) (out : List PV) (e_Args : List PV) (v : Int) (i : Int) (e_Kind : Int) (e_Num : Int) (e_Text : List UInt8) (e_Names : List PV) (e_Types : List PV) (e_Arms : List PV) (e_At : Int) : AS :=
  ⟨[.any, .pv (.lst within), .bld 0 0 out, .box 0 0, .any, .any, .any, .any, .any, .any, .any, .any, .any, .any, .any, .any, .any, .any, .any, .any, .any, .any, .any, .any, .any, .any, .any, .any, .any, .any, .any, .any, .any, .any, .any, .any, .any, .any, .any, .any, .any, .any, .any, .any, .any, .any, .any, .any, .any, .any, .any, .any, .any, .any, .any, .any, .any, .any, .any, .any, .any, .any, .any, .any, .any, .pv (.lst (e_Args.take (v).toNat)), .pv (.int .i64 ((e_Args.take (v).toNat).length : Int)), .pv (.int .i64 i), .any, .any, .any, .any, .any, .any, .any, .any, .any, .any, .any, .any, .any, .any, .any, .any, .any, .any, .any, .any, .any, .any, .any, .any, .any, .any, .any, .any, .any, .any, .any, .any, .any, .any, .any, .any, .any, .any, .any, .any, .any, .any, .any, .any, .any, .any, .any, .any, .any, .any, .any, .any, .any, .any, .any, .any, .any, .any], ⟨[(false, [.pv (.int .i64 e_Kind), .pv (.int .i64 e_Num), .pv (.str e_Text), .pv (.lst e_Names), .pv (.lst e_Types), .pv (.lst e_Args), .pv (.lst e_Arms), .pv (.int .i64 e_At)])], [], [(0, 1)], 0, 0⟩⟩
noncomputable def L74_111014 (within : List PV) (out : List PV) (e_Args : List PV) (v : Int) (i : Int) (e_Kind : Int) (e_Num : Int) (e_Text : List UInt8) (e_Names : List PV) (e_Types : List PV) (e_Arms : List PV) (e_At : Int) : Option Out := LV Pr T 74 [1, 1, 1, 0, 1, 4] (st74_111014 within out e_Args v i e_Kind e_Num e_Text e_Names e_Types e_Arms e_At)
def st74_1110145110411016 (within : List PV) (out : List PV) (e_Args : List PV) (v : Int) (i1 : Int) (b : Bool) (e_Kind : Int) (e_Num : Int) (e_Text : List UInt8) (e_Names : List PV) (e_Types : List PV) (e_Arms : List PV) (e_At : Int) (v1 : Int) (v2 : Int) (v3 : List UInt8) (v4 : List PV) (v5 : List PV) (v6 : List PV) (v7 : List PV) (v8 : Int) : AS :=
  ⟨[.any, .pv (.lst within), .bld 0 0 out, .box 0 0, .any, .any, .any, .any, .any, .any, .any, .box 1 0, .pv (.lst within), .any, .any, .any, .any, .any, .any, .any, .any, .any, .any, .any, .any, .any, .any, .any, .any, .any, .any, .any, .any, .any, .any, .any, .any, .any, .any, .any, .any, .any, .any, .any, .any, .any, .any, .any, .any, .any, .any, .any, .any, .any, .any, .any, .any, .any, .any, .any, .any, .any, .any, .any, .any, .pv (.lst (e_Args.take (v).toNat)), .pv (.int .i64 ((e_Args.take (v).toNat).length : Int)), .pv (.int .i64 i1), .any, .any, .any, .any, .any, .any, .any, .any, .any, .any, .any, .pv (.bool b), .any, .any, .any, .any, .any, .any, .any, .any, .any, .any, .any, .any, .any, .any, .any, .any, .any, .any, .any, .any, .any, .any, .any, .any, .any, .any, .any, .any, .any, .any, .any, .any, .any, .any, .any, .any, .any, .any, .any, .any, .any, .any, .any, .any, .any, .any], ⟨[(false, [.pv (.int .i64 e_Kind), .pv (.int .i64 e_Num), .pv (.str e_Text), .pv (.lst e_Names), .pv (.lst e_Types), .pv (.lst e_Args), .pv (.lst e_Arms), .pv (.int .i64 e_At)]), (false, [.pv (.int .i64 v1), .pv (.int .i64 v2), .pv (.str v3), .pv (.lst v4), .pv (.lst v5), .pv (.lst v6), .pv (.lst v7), .pv (.int .i64 v8)])], [], [(0, 1)], 0, 0⟩⟩
noncomputable def L74_1110145110411016 (within : List PV) (out : List PV) (e_Args : List PV) (v : Int) (i1 : Int) (b : Bool) (e_Kind : Int) (e_Num : Int) (e_Text : List UInt8) (e_Names : List PV) (e_Types : List PV) (e_Arms : List PV) (e_At : Int) (v1 : Int) (v2 : Int) (v3 : List UInt8) (v4 : List PV) (v5 : List PV) (v6 : List PV) (v7 : List PV) (v8 : Int) : Option Out := LV Pr T 74 [1, 1, 1, 0, 1, 4, 5, 1, 1, 0, 4, 1, 1, 0, 1, 6] (st74_1110145110411016 within out e_Args v i1 b e_Kind e_Num e_Text e_Names e_Types e_Arms e_At v1 v2 v3 v4 v5 v6 v7 v8)
def st74_1111016 (within : List PV) (out : List PV) (b : Bool) (e_Kind : Int) (e_Num : Int) (e_Text : List UInt8) (e_Names : List PV) (e_Types : List PV) (e_Args : List PV) (e_Arms : List PV) (e_At : Int) : AS :=
  ⟨[.any, .pv (.lst within), .bld 0 0 out, .box 0 0, .any, .any, .any, .any, .any, .any, .any, .any, .any, .any, .any, .any, .any, .any, .any, .any, .any, .any, .any, .any, .any, .any, .any, .any, .any, .any, .any, .any, .any, .any, .any, .any, .any, .any, .any, .any, .any, .any, .any, .any, .any, .any, .any, .any, .any, .any, .any, .any, .any, .any, .any, .any, .any, .any, .any, .any, .any, .any, .any, .any, .any, .any, .any, .any, .any, .any, .any, .any, .any, .any, .any, .any, .any, .any, .any, .any, .any, .any, .any, .any, .any, .any, .any, .any, .any, .any, .any, .any, .any, .any, .any, .any, .any, .any, .any, .any, .any, .any, .any, .any, .any, .any, .pv (.bool b), .any, .any, .any, .any, .any, .any, .any, .any, .any, .any, .any, .any, .any, .any, .any, .any, .any, .any, .any], ⟨[(false, [.pv (.int .i64 e_Kind), .pv (.int .i64 e_Num), .pv (.str e_Text), .pv (.lst e_Names), .pv (.lst e_Types), .pv (.lst e_Args), .pv (.lst e_Arms), .pv (.int .i64 e_At)])], [], [(0, 1)], 0, 0⟩⟩
noncomputable def L74_1111016 (within : List PV) (out : List PV) (b : Bool) (e_Kind : Int) (e_Num : Int) (e_Text : List UInt8) (e_Names : List PV) (e_Types : List PV) (e_Args : List PV) (e_Arms : List PV) (e_At : Int) : Option Out := LV Pr T 74 [1, 1, 1, 1, 0, 1, 6] (st74_1111016 within out b e_Kind e_Num e_Text e_Names e_Types e_Args e_Arms e_At)
def st74_111014511041116 (within : List PV) (out : List PV) (l1 : List PV) (e_Args : List PV) (v : Int) (i : Int) (e_Kind : Int) (e_Num : Int) (e_Text : List UInt8) (e_Names : List PV) (e_Types : List PV) (e_Arms : List PV) (e_At : Int) (v1 : Int) (v2 : Int) (v3 : List UInt8) (v4 : List PV) (v5 : List PV) (v6 : List PV) (v7 : List PV) (v8 : Int) : AS :=
  ⟨[.any, .pv (.lst within), .bld 0 0 out, .box 0 0, .any, .any, .any, .any, .any, .any, .any, .box 1 0, .pv (.lst l1), .any, .any, .any, .any, .any, .any, .any, .any, .any, .any, .any, .any, .any, .any, .any, .any, .any, .any, .any, .any, .any, .any, .any, .any, .any, .any, .any, .any, .any, .any, .any, .any, .any, .any, .any, .any, .any, .any, .any, .any, .any, .any, .any, .any, .any, .any, .any, .any, .any, .any, .any, .any, .pv (.lst (e_Args.take (v).toNat)), .pv (.int .i64 ((e_Args.take (v).toNat).length : Int)), .pv (.int .i64 i), .any, .any, .any, .any, .any, .any, .any, .any, .any, .any, .any, .any, .any, .any, .any, .any, .any, .any, .any, .any, .any, .any, .any, .any, .any, .any, .any, .any, .any, .any, .any, .any, .any, .any, .any, .any, .any, .any, .any, .any, .any, .any, .any, .any, .any, .any, .any, .any, .any, .any, .any, .any, .any, .any, .any, .any, .any, .any], ⟨[(false, [.pv (.int .i64 e_Kind), .pv (.int .i64 e_Num), .pv (.str e_Text), .pv (.lst e_Names), .pv (.lst e_Types), .pv (.lst e_Args), .pv (.lst e_Arms), .pv (.int .i64 e_At)]), (false, [.pv (.int .i64 v1), .pv (.int .i64 v2), .pv (.str v3), .pv (.lst v4), .pv (.lst v5), .pv (.lst v6), .pv (.lst v7), .pv (.int .i64 v8)])], [], [(0, 1)], 0, 0⟩⟩
noncomputable def L74_111014511041116 (within : List PV) (out : List PV) (l1 : List PV) (e_Args : List PV) (v : Int) (i : Int) (e_Kind : Int) (e_Num : Int) (e_Text : List UInt8) (e_Names : List PV) (e_Types : List PV) (e_Arms : List PV) (e_At : Int) (v1 : Int) (v2 : Int) (v3 : List UInt8) (v4 : List PV) (v5 : List PV) (v6 : List PV) (v7 : List PV) (v8 : Int) : Option Out := LV Pr T 74 [1, 1, 1, 0, 1, 4, 5, 1, 1, 0, 4, 1, 1, 1, 6] (st74_111014511041116 within out l1 e_Args v i e_Kind e_Num e_Text e_Names e_Types e_Arms e_At v1 v2 v3 v4 v5 v6 v7 v8)
def st74_111101214 (within : List PV) (out : List PV) (e_Arms : List PV) (i : Int) : AS :=
  ⟨[.any, .pv (.lst within), .bld 0 0 out, .any, .any, .any, .any, .any, .any, .any, .any, .any, .any, .any, .any, .any, .any, .any, .any, .any, .any, .any, .any, .any, .any, .any, .any, .any, .any, .any, .any, .any, .any, .any, .any, .any, .any, .any, .any, .any, .any, .any, .any, .any, .any, .any, .any, .any, .any, .any, .any, .any, .any, .any, .any, .any, .any, .any, .any, .any, .any, .any, .any, .any, .any, .any, .any, .any, .any, .any, .any, .any, .any, .any, .any, .any, .any, .any, .any, .any, .any, .any, .any, .any, .any, .any, .any, .any, .any, .any, .any, .any, .any, .any, .any, .any, .any, .any, .any, .any, .any, .any, .any, .any, .any, .any, .any, .any, .pv (.lst e_Arms), .pv (.int .i64 (e_Arms.length : Int)), .pv (.int .i64 i), .any, .any, .any, .any, .any, .any, .any, .any, .any, .any, .any, .any, .any, .any, .any], ⟨[], [], [(0, 1)], 0, 0⟩⟩
noncomputable def L74_111101214 (within : List PV) (out : List PV) (e_Arms : List PV) (i : Int) : Option Out := LV Pr T 74 [1, 1, 1, 1, 0, 1, 2, 1, 4] (st74_111101214 within out e_Arms i)
theorem f74 (e_Kind : Int) (e_Num : Int) (e_Text : List UInt8) (e_Names : List PV) (e_Types : List PV) (e_Args : List PV) (e_Arms : List PV) (e_At : Int) (within : List PV) (out : List PV) (cl_ : FuncId → List Arg → Option Out) (lp_ : List Nat → AS → Option Out) : runW Pr T cl_ lp_ 74 [.pv (.agg [.int .i64 e_Kind, .int .i64 e_Num, .str e_Text, .lst e_Names, .lst e_Types, .lst e_Args, .lst e_Arms, .int .i64 e_At]), .pv (.lst within), .bld 1 out] =
  ((cl_ 103 [.pv (.agg [.int .i64 e_Kind, .int .i64 e_Num, .str e_Text, .lst e_Names, .lst e_Types, .lst e_Args, .lst e_Arms, .int .i64 e_At])]).bind retPV).bind fun r =>
    (bif (Sh.int .i64).fits r then
      bif decide ((r.toInt) < (0 : Int)) then
        some (.bld 1 out, [])
      else bif (e_Kind == (5 : Int)) then
        ((cl_ 25 [.pv (.lst within), .pv (.str e_Text)]).bind retPV).bind fun r1 =>
          (bif (Sh.bool).fits r1 then
            bif (!r1.toBool) then
              ((cl_ 25 [.pv (.lst out), .pv (.str e_Text)]).bind retPV).bind fun r2 =>
                (bif (Sh.bool).fits r2 then
                  lp_ [1, 1, 0, 4, 1, 3, 1, 2, 0, 1, 6] (st74_11041312016 out (!r2.toBool) e_Kind e_Num e_Text e_Names e_Types e_Args e_Arms e_At)
                else none)
            else lp_ [1, 1, 0, 4, 1, 3, 1, 2, 0, 1, 6] (st74_11041312016 out false e_Kind e_Num e_Text e_Names e_Types e_Args e_Arms e_At)
          else none)
      else bif decide ((e_Args.length : Int) < (r.toInt)) then
        lp_ [1, 1, 0, 4, 1, 3, 1, 3, 1, 2, 0, 1, 4] (st74_1104131312014 within out e_Args 0)
      else bif headOk 8 e_Args then
        bif (decide (0 ≤ (r.toInt)) && decide ((r.toInt) ≤ (e_Args.length : Int))) then
          lp_ [1, 1, 1, 0, 1, 4] (st74_111014 within out e_Args r.toInt 0 e_Kind e_Num e_Text e_Names e_Types e_Arms e_At)
        else none
      else none
    else none) := by kernel_rfl
theorem e74 (e_Kind : Int) (e_Num : Int) (e_Text : List UInt8) (e_Names : List PV) (e_Types : List PV) (e_Args : List PV) (e_Arms : List PV) (e_At : Int) (within : List PV) (out : List PV) : V 74 [.pv (.agg [.int .i64 e_Kind, .int .i64 e_Num, .str e_Text, .lst e_Names, .lst e_Types, .lst e_Args, .lst e_Arms, .int .i64 e_At]), .pv (.lst within), .bld 1 out] =
  ((V 103 [.pv (.agg [.int .i64 e_Kind, .int .i64 e_Num, .str e_Text, .lst e_Names, .lst e_Types, .lst e_Args, .lst e_Arms, .int .i64 e_At])]).bind retPV).bind fun r =>
    (bif (Sh.int .i64).fits r then
      bif decide ((r.toInt) < (0 : Int)) then
        some (.bld 1 out, [])
      else bif (e_Kind == (5 : Int)) then
        ((V 25 [.pv (.lst within), .pv (.str e_Text)]).bind retPV).bind fun r1 =>
          (bif (Sh.bool).fits r1 then
            bif (!r1.toBool) then
              ((V 25 [.pv (.lst out), .pv (.str e_Text)]).bind retPV).bind fun r2 =>
                (bif (Sh.bool).fits r2 then
                  L74_11041312016 out (!r2.toBool) e_Kind e_Num e_Text e_Names e_Types e_Args e_Arms e_At
                else none)
            else L74_11041312016 out false e_Kind e_Num e_Text e_Names e_Types e_Args e_Arms e_At
          else none)
      else bif decide ((e_Args.length : Int) < (r.toInt)) then
        L74_1104131312014 within out e_Args 0
      else bif headOk 8 e_Args then
        bif (decide (0 ≤ (r.toInt)) && decide ((r.toInt) ≤ (e_Args.length : Int))) then
          L74_111014 within out e_Args r.toInt 0 e_Kind e_Num e_Text e_Names e_Types e_Arms e_At
        else none
      else none
    else none) :=
  (V_eq pa rfl _).trans (f74 e_Kind e_Num e_Text e_Names e_Types e_Args e_Arms e_At within out V (LV Pr T 74))
theorem f74_11041312016 (out : List PV) (b : Bool) (e_Kind : Int) (e_Num : Int) (e_Text : List UInt8) (e_Names : List PV) (e_Types : List PV) (e_Args : List PV) (e_Arms : List PV) (e_At : Int) (cl_ : FuncId → List Arg → Option Out) (lp_ : List Nat → AS → Option Out) : stepW Pr T cl_ lp_ 74 [1, 1, 0, 4, 1, 3, 1, 2, 0, 1, 6] (st74_11041312016 out b e_Kind e_Num e_Text e_Names e_Types e_Args e_Arms e_At) =
  bif b then
    bif small (out.length) 1 16 then
      some (.bld 1 (out ++ ([.str e_Text] : List PV)), [])
    else none
  else some (.bld 1 out, []) := by kernel_rfl
theorem e74_11041312016 (out : List PV) (b : Bool) (e_Kind : Int) (e_Num : Int) (e_Text : List UInt8) (e_Names : List PV) (e_Types : List PV) (e_Args : List PV) (e_Arms : List PV) (e_At : Int) : L74_11041312016 out b e_Kind e_Num e_Text e_Names e_Types e_Args e_Arms e_At =
  bif b then
    bif small (out.length) 1 16 then
      some (.bld 1 (out ++ ([.str e_Text] : List PV)), [])
    else none
  else some (.bld 1 out, []) :=
  (LV_eq pa 74 _ _).trans (f74_11041312016 out b e_Kind e_Num e_Text e_Names e_Types e_Args e_Arms e_At V (LV Pr T 74))
theorem f74_1104131312014 (within : List PV) (out : List PV) (e_Args : List PV) (i : Int) (cl_ : FuncId → List Arg → Option Out) (lp_ : List Nat → AS → Option Out) : stepW Pr T cl_ lp_ 74 [1, 1, 0, 4, 1, 3, 1, 3, 1, 2, 0, 1, 4] (st74_1104131312014 within out e_Args i) =
  bif decide (i < (e_Args.length : Int)) then
    bif decide (0 ≤ i) then
      (e_Args[i.toNat]?).bind fun x =>
        (bif (Sh.agg [Sh.int .i64, Sh.int .i64, Sh.str, Sh.lst, Sh.lst, Sh.lst, Sh.lst, Sh.int .i64]).fits x then
          (cl_ 74 [.pv (.agg [.int .i64 ((x.c 0).toInt), .int .i64 ((x.c 1).toInt), .str ((x.c 2).toStr), .lst ((x.c 3).toLst), .lst ((x.c 4).toLst), .lst ((x.c 5).toLst), .lst ((x.c 6).toLst), .int .i64 ((x.c 7).toInt)]), .pv (.lst within), .bld 1 out]).bind fun r =>
            ((retB 1 r).bind fun l =>
              (lp_ [1, 1, 0, 4, 1, 3, 1, 3, 1, 2, 0, 1, 4] (st74_1104131312014 within l e_Args (IntKind.i64.wrap (i + (1 : Int))))))
        else none)
    else none
  else some (.bld 1 out, []) := by kernel_rfl
theorem e74_1104131312014 (within : List PV) (out : List PV) (e_Args : List PV) (i : Int) : L74_1104131312014 within out e_Args i =
  bif decide (i < (e_Args.length : Int)) then
    bif decide (0 ≤ i) then
      (e_Args[i.toNat]?).bind fun x =>
        (bif (Sh.agg [Sh.int .i64, Sh.int .i64, Sh.str, Sh.lst, Sh.lst, Sh.lst, Sh.lst, Sh.int .i64]).fits x then
          (V 74 [.pv (.agg [.int .i64 ((x.c 0).toInt), .int .i64 ((x.c 1).toInt), .str ((x.c 2).toStr), .lst ((x.c 3).toLst), .lst ((x.c 4).toLst), .lst ((x.c 5).toLst), .lst ((x.c 6).toLst), .int .i64 ((x.c 7).toInt)]), .pv (.lst within), .bld 1 out]).bind fun r =>
            ((retB 1 r).bind fun l =>
              (L74_1104131312014 within l e_Args (IntKind.i64.wrap (i + (1 : Int)))))
        else none)
    else none
  else some (.bld 1 out, []) :=
  (LV_eq pa 74 _ _).trans (f74_1104131312014 within out e_Args i V (LV Pr T 74))
theorem f74_111014 (within : List PV) (out : List PV) (e_Args : List PV) (v : Int) (i : Int) (e_Kind : Int) (e_Num : Int) (e_Text : List UInt8) (e_Names : List PV) (e_Types : List PV) (e_Arms : List PV) (e_At : Int) (cl_ : FuncId → List Arg → Option Out) (lp_ : List Nat → AS → Option Out) : stepW Pr T cl_ lp_ 74 [1, 1, 1, 0, 1, 4] (st74_111014 within out e_Args v i e_Kind e_Num e_Text e_Names e_Types e_Arms e_At) =
  bif decide (i < ((e_Args.take (v).toNat).length : Int)) then
    bif decide (0 ≤ i) then
      ((e_Args.take (v).toNat)[i.toNat]?).bind fun x =>
        (bif (Sh.agg [Sh.int .i64, Sh.int .i64, Sh.str, Sh.lst, Sh.lst, Sh.lst, Sh.lst, Sh.int .i64]).fits x then
          bif (e_Kind == (6 : Int)) then
            lp_ [1, 1, 1, 0, 1, 4, 5, 1, 1, 0, 4, 1, 1, 0, 1, 6] (st74_1110145110411016 within out e_Args v i (i == (1 : Int)) e_Kind e_Num e_Text e_Names e_Types e_Arms e_At ((x.c 0).toInt) ((x.c 1).toInt) ((x.c 2).toStr) ((x.c 3).toLst) ((x.c 4).toLst) ((x.c 5).toLst) ((x.c 6).toLst) ((x.c 7).toInt))
          else lp_ [1, 1, 1, 0, 1, 4, 5, 1, 1, 0, 4, 1, 1, 0, 1, 6] (st74_1110145110411016 within out e_Args v i false e_Kind e_Num e_Text e_Names e_Types e_Arms e_At ((x.c 0).toInt) ((x.c 1).toInt) ((x.c 2).toStr) ((x.c 3).toLst) ((x.c 4).toLst) ((x.c 5).toLst) ((x.c 6).toLst) ((x.c 7).toInt))
        else none)
    else none
  else bif (e_Kind == (13 : Int)) then
    lp_ [1, 1, 1, 1, 0, 1, 6] (st74_1111016 within out true e_Kind e_Num e_Text e_Names e_Types e_Args e_Arms e_At)
  else lp_ [1, 1, 1, 1, 0, 1, 6] (st74_1111016 within out (e_Kind == (18 : Int)) e_Kind e_Num e_Text e_Names e_Types e_Args e_Arms e_At) := by kernel_rfl
theorem e74_111014 (within : List PV) (out : List PV) (e_Args : List PV) (v : Int) (i : Int) (e_Kind : Int) (e_Num : Int) (e_Text : List UInt8) (e_Names : List PV) (e_Types : List PV) (e_Arms : List PV) (e_At : Int) : L74_111014 within out e_Args v i e_Kind e_Num e_Text e_Names e_Types e_Arms e_At =
  bif decide (i < ((e_Args.take (v).toNat).length : Int)) then
    bif decide (0 ≤ i) then
      ((e_Args.take (v).toNat)[i.toNat]?).bind fun x =>
        (bif (Sh.agg [Sh.int .i64, Sh.int .i64, Sh.str, Sh.lst, Sh.lst, Sh.lst, Sh.lst, Sh.int .i64]).fits x then
          bif (e_Kind == (6 : Int)) then
            L74_1110145110411016 within out e_Args v i (i == (1 : Int)) e_Kind e_Num e_Text e_Names e_Types e_Arms e_At ((x.c 0).toInt) ((x.c 1).toInt) ((x.c 2).toStr) ((x.c 3).toLst) ((x.c 4).toLst) ((x.c 5).toLst) ((x.c 6).toLst) ((x.c 7).toInt)
          else L74_1110145110411016 within out e_Args v i false e_Kind e_Num e_Text e_Names e_Types e_Arms e_At ((x.c 0).toInt) ((x.c 1).toInt) ((x.c 2).toStr) ((x.c 3).toLst) ((x.c 4).toLst) ((x.c 5).toLst) ((x.c 6).toLst) ((x.c 7).toInt)
        else none)
    else none
  else bif (e_Kind == (13 : Int)) then
    L74_1111016 within out true e_Kind e_Num e_Text e_Names e_Types e_Args e_Arms e_At
  else L74_1111016 within out (e_Kind == (18 : Int)) e_Kind e_Num e_Text e_Names e_Types e_Args e_Arms e_At :=
  (LV_eq pa 74 _ _).trans (f74_111014 within out e_Args v i e_Kind e_Num e_Text e_Names e_Types e_Arms e_At V (LV Pr T 74))
theorem f74_1110145110411016 (within : List PV) (out : List PV) (e_Args : List PV) (v : Int) (i1 : Int) (b : Bool) (e_Kind : Int) (e_Num : Int) (e_Text : List UInt8) (e_Names : List PV) (e_Types : List PV) (e_Arms : List PV) (e_At : Int) (v1 : Int) (v2 : Int) (v3 : List UInt8) (v4 : List PV) (v5 : List PV) (v6 : List PV) (v7 : List PV) (v8 : Int) (cl_ : FuncId → List Arg → Option Out) (lp_ : List Nat → AS → Option Out) : stepW Pr T cl_ lp_ 74 [1, 1, 1, 0, 1, 4, 5, 1, 1, 0, 4, 1, 1, 0, 1, 6] (st74_1110145110411016 within out e_Args v i1 b e_Kind e_Num e_Text e_Names e_Types e_Arms e_At v1 v2 v3 v4 v5 v6 v7 v8) =
  bif b then
    (cl_ 72 [.pv (.lst within)]).bind fun r =>
      ((retB 1 r).bind fun l =>
        (bif small (l.length) 1 16 then
          lp_ [1, 1, 1, 0, 1, 4, 5, 1, 1, 0, 4, 1, 1, 1, 6] (st74_111014511041116 within out (l ++ ([.str e_Text] : List PV)) e_Args v i1 e_Kind e_Num e_Text e_Names e_Types e_Arms e_At v1 v2 v3 v4 v5 v6 v7 v8)
        else none))
  else lp_ [1, 1, 1, 0, 1, 4, 5, 1, 1, 0, 4, 1, 1, 1, 6] (st74_111014511041116 within out within e_Args v i1 e_Kind e_Num e_Text e_Names e_Types e_Arms e_At v1 v2 v3 v4 v5 v6 v7 v8) := by kernel_rfl
theorem e74_1110145110411016 (within : List PV) (out : List PV) (e_Args : List PV) (v : Int) (i1 : Int) (b : Bool) (e_Kind : Int) (e_Num : Int) (e_Text : List UInt8) (e_Names : List PV) (e_Types : List PV) (e_Arms : List PV) (e_At : Int) (v1 : Int) (v2 : Int) (v3 : List UInt8) (v4 : List PV) (v5 : List PV) (v6 : List PV) (v7 : List PV) (v8 : Int) : L74_1110145110411016 within out e_Args v i1 b e_Kind e_Num e_Text e_Names e_Types e_Arms e_At v1 v2 v3 v4 v5 v6 v7 v8 =
  bif b then
    (V 72 [.pv (.lst within)]).bind fun r =>
      ((retB 1 r).bind fun l =>
        (bif small (l.length) 1 16 then
          L74_111014511041116 within out (l ++ ([.str e_Text] : List PV)) e_Args v i1 e_Kind e_Num e_Text e_Names e_Types e_Arms e_At v1 v2 v3 v4 v5 v6 v7 v8
        else none))
  else L74_111014511041116 within out within e_Args v i1 e_Kind e_Num e_Text e_Names e_Types e_Arms e_At v1 v2 v3 v4 v5 v6 v7 v8 :=
  (LV_eq pa 74 _ _).trans (f74_1110145110411016 within out e_Args v i1 b e_Kind e_Num e_Text e_Names e_Types e_Arms e_At v1 v2 v3 v4 v5 v6 v7 v8 V (LV Pr T 74))
theorem f74_1111016 (within : List PV) (out : List PV) (b : Bool) (e_Kind : Int) (e_Num : Int) (e_Text : List UInt8) (e_Names : List PV) (e_Types : List PV) (e_Args : List PV) (e_Arms : List PV) (e_At : Int) (cl_ : FuncId → List Arg → Option Out) (lp_ : List Nat → AS → Option Out) : stepW Pr T cl_ lp_ 74 [1, 1, 1, 1, 0, 1, 6] (st74_1111016 within out b e_Kind e_Num e_Text e_Names e_Types e_Args e_Arms e_At) =
  bif b then
    lp_ [1, 1, 1, 1, 0, 1, 2, 1, 4] (st74_111101214 within out e_Arms 0)
  else some (.bld 1 out, []) := by kernel_rfl
theorem e74_1111016 (within : List PV) (out : List PV) (b : Bool) (e_Kind : Int) (e_Num : Int) (e_Text : List UInt8) (e_Names : List PV) (e_Types : List PV) (e_Args : List PV) (e_Arms : List PV) (e_At : Int) : L74_1111016 within out b e_Kind e_Num e_Text e_Names e_Types e_Args e_Arms e_At =
  bif b then
    L74_111101214 within out e_Arms 0
  else some (.bld 1 out, []) :=
  (LV_eq pa 74 _ _).trans (f74_1111016 within out b e_Kind e_Num e_Text e_Names e_Types e_Args e_Arms e_At V (LV Pr T 74))
theorem f74_111014511041116 (within : List PV) (out : List PV) (l1 : List PV) (e_Args : List PV) (v : Int) (i : Int) (e_Kind : Int) (e_Num : Int) (e_Text : List UInt8) (e_Names : List PV) (e_Types : List PV) (e_Arms : List PV) (e_At : Int) (v1 : Int) (v2 : Int) (v3 : List UInt8) (v4 : List PV) (v5 : List PV) (v6 : List PV) (v7 : List PV) (v8 : Int) (cl_ : FuncId → List Arg → Option Out) (lp_ : List Nat → AS → Option Out) : stepW Pr T cl_ lp_ 74 [1, 1, 1, 0, 1, 4, 5, 1, 1, 0, 4, 1, 1, 1, 6] (st74_111014511041116 within out l1 e_Args v i e_Kind e_Num e_Text e_Names e_Types e_Arms e_At v1 v2 v3 v4 v5 v6 v7 v8) =
  bif (e_Kind == (10 : Int)) then
    (cl_ 72 [.pv (.lst within)]).bind fun r =>
      ((retB 1 r).bind fun l =>
        (bif headOk 1 e_Names then
          bif small (l.length) (e_Names.length) 16 then
            (cl_ 74 [.pv (.agg [.int .i64 v1, .int .i64 v2, .str v3, .lst v4, .lst v5, .lst v6, .lst v7, .int .i64 v8]), .pv (.lst (l ++ e_Names)), .bld 1 out]).bind fun r1 =>
              ((retB 1 r1).bind fun l2 =>
                (lp_ [1, 1, 1, 0, 1, 4] (st74_111014 within l2 e_Args v (IntKind.i64.wrap (i + (1 : Int))) e_Kind e_Num e_Text e_Names e_Types e_Arms e_At)))
          else none
        else none))
  else (cl_ 74 [.pv (.agg [.int .i64 v1, .int .i64 v2, .str v3, .lst v4, .lst v5, .lst v6, .lst v7, .int .i64 v8]), .pv (.lst l1), .bld 1 out]).bind fun r2 =>
    ((retB 1 r2).bind fun l3 =>
      (lp_ [1, 1, 1, 0, 1, 4] (st74_111014 within l3 e_Args v (IntKind.i64.wrap (i + (1 : Int))) e_Kind e_Num e_Text e_Names e_Types e_Arms e_At))) := by kernel_rfl
theorem e74_111014511041116 (within : List PV) (out : List PV) (l1 : List PV) (e_Args : List PV) (v : Int) (i : Int) (e_Kind : Int) (e_Num : Int) (e_Text : List UInt8) (e_Names : List PV) (e_Types : List PV) (e_Arms : List PV) (e_At : Int) (v1 : Int) (v2 : Int) (v3 : List UInt8) (v4 : List PV) (v5 : List PV) (v6 : List PV) (v7 : List PV) (v8 : Int) : L74_111014511041116 within out l1 e_Args v i e_Kind e_Num e_Text e_Names e_Types e_Arms e_At v1 v2 v3 v4 v5 v6 v7 v8 =
  bif (e_Kind == (10 : Int)) then
    (V 72 [.pv (.lst within)]).bind fun r =>
      ((retB 1 r).bind fun l =>
        (bif headOk 1 e_Names then
          bif small (l.length) (e_Names.length) 16 then
            (V 74 [.pv (.agg [.int .i64 v1, .int .i64 v2, .str v3, .lst v4, .lst v5, .lst v6, .lst v7, .int .i64 v8]), .pv (.lst (l ++ e_Names)), .bld 1 out]).bind fun r1 =>
              ((retB 1 r1).bind fun l2 =>
                (L74_111014 within l2 e_Args v (IntKind.i64.wrap (i + (1 : Int))) e_Kind e_Num e_Text e_Names e_Types e_Arms e_At))
          else none
        else none))
  else (V 74 [.pv (.agg [.int .i64 v1, .int .i64 v2, .str v3, .lst v4, .lst v5, .lst v6, .lst v7, .int .i64 v8]), .pv (.lst l1), .bld 1 out]).bind fun r2 =>
    ((retB 1 r2).bind fun l3 =>
      (L74_111014 within l3 e_Args v (IntKind.i64.wrap (i + (1 : Int))) e_Kind e_Num e_Text e_Names e_Types e_Arms e_At)) :=
  (LV_eq pa 74 _ _).trans (f74_111014511041116 within out l1 e_Args v i e_Kind e_Num e_Text e_Names e_Types e_Arms e_At v1 v2 v3 v4 v5 v6 v7 v8 V (LV Pr T 74))
theorem f74_111101214 (within : List PV) (out : List PV) (e_Arms : List PV) (i : Int) (cl_ : FuncId → List Arg → Option Out) (lp_ : List Nat → AS → Option Out) : stepW Pr T cl_ lp_ 74 [1, 1, 1, 1, 0, 1, 2, 1, 4] (st74_111101214 within out e_Arms i) =
  bif decide (i < (e_Arms.length : Int)) then
    bif decide (0 ≤ i) then
      (e_Arms[i.toNat]?).bind fun x =>
        (bif (Sh.agg [Sh.int .i64, Sh.int .i64, Sh.str, Sh.lst, Sh.int .i64, Sh.int .i64, Sh.str, Sh.lst, Sh.lst, Sh.lst, Sh.lst, Sh.int .i64]).fits x then
          (cl_ 72 [.pv (.lst within)]).bind fun r =>
            ((retB 1 r).bind fun l =>
              (((cl_ 62 [.pv (.agg [.int .i64 ((x.c 0).toInt), .int .i64 ((x.c 1).toInt), .str ((x.c 2).toStr), .lst ((x.c 3).toLst)])]).bind retPV).bind fun r1 =>
                (bif (Sh.lst).fits r1 then
                  bif headOk 1 r1.toLst then
                    bif small (l.length) (r1.toLst.length) 16 then
                      (cl_ 74 [.pv (.agg [.int .i64 ((x.c 4).toInt), .int .i64 ((x.c 5).toInt), .str ((x.c 6).toStr), .lst ((x.c 7).toLst), .lst ((x.c 8).toLst), .lst ((x.c 9).toLst), .lst ((x.c 10).toLst), .int .i64 ((x.c 11).toInt)]), .pv (.lst (l ++ r1.toLst)), .bld 1 out]).bind fun r2 =>
                        ((retB 1 r2).bind fun l1 =>
                          (lp_ [1, 1, 1, 1, 0, 1, 2, 1, 4] (st74_111101214 within l1 e_Arms (IntKind.i64.wrap (i + (1 : Int))))))
                    else none
                  else none
                else none)))
        else none)
    else none
  else some (.bld 1 out, []) := by kernel_rfl
theorem e74_111101214 (within : List PV) (out : List PV) (e_Arms : List PV) (i : Int) : L74_111101214 within out e_Arms i =
  bif decide (i < (e_Arms.length : Int)) then
    bif decide (0 ≤ i) then
      (e_Arms[i.toNat]?).bind fun x =>
        (bif (Sh.agg [Sh.int .i64, Sh.int .i64, Sh.str, Sh.lst, Sh.int .i64, Sh.int .i64, Sh.str, Sh.lst, Sh.lst, Sh.lst, Sh.lst, Sh.int .i64]).fits x then
          (V 72 [.pv (.lst within)]).bind fun r =>
            ((retB 1 r).bind fun l =>
              (((V 62 [.pv (.agg [.int .i64 ((x.c 0).toInt), .int .i64 ((x.c 1).toInt), .str ((x.c 2).toStr), .lst ((x.c 3).toLst)])]).bind retPV).bind fun r1 =>
                (bif (Sh.lst).fits r1 then
                  bif headOk 1 r1.toLst then
                    bif small (l.length) (r1.toLst.length) 16 then
                      (V 74 [.pv (.agg [.int .i64 ((x.c 4).toInt), .int .i64 ((x.c 5).toInt), .str ((x.c 6).toStr), .lst ((x.c 7).toLst), .lst ((x.c 8).toLst), .lst ((x.c 9).toLst), .lst ((x.c 10).toLst), .int .i64 ((x.c 11).toInt)]), .pv (.lst (l ++ r1.toLst)), .bld 1 out]).bind fun r2 =>
                        ((retB 1 r2).bind fun l1 =>
                          (L74_111101214 within l1 e_Arms (IntKind.i64.wrap (i + (1 : Int)))))
                    else none
                  else none
                else none)))
        else none)
    else none
  else some (.bld 1 out, []) :=
  (LV_eq pa 74 _ _).trans (f74_111101214 within out e_Arms i V (LV Pr T 74))
/-! 89 (*roadstead/roadref2.judge).must -/
def st89_16 (e : Int) (b : Bool) (j_e : Int) : AS :=
  ⟨[.box 0 0, .any, .pv (.int .i64 e), .any, .any, .any, .any, .any, .any, .any, .any, .any, .any, .any, .pv (.bool b), .any, .any, .any, .any], ⟨[(false, [.pv (.int .i64 j_e)])], [], [], 1, 0⟩⟩
noncomputable def L89_16 (e : Int) (b : Bool) (j_e : Int) : Option Out := LV Pr T 89 [1, 6] (st89_16 e b j_e)
theorem f89 (j_e : Int) (ok : Bool) (e : Int) (cl_ : FuncId → List Arg → Option Out) (lp_ : List Nat → AS → Option Out) : runW Pr T cl_ lp_ 89 [.box [.int .i64 j_e], .pv (.bool ok), .pv (.int .i64 e)] =
  bif (j_e == (0 : Int)) then
    lp_ [1, 6] (st89_16 e (!ok) j_e)
  else lp_ [1, 6] (st89_16 e false j_e) := by kernel_rfl
theorem e89 (j_e : Int) (ok : Bool) (e : Int) : V 89 [.box [.int .i64 j_e], .pv (.bool ok), .pv (.int .i64 e)] =
  bif (j_e == (0 : Int)) then
    L89_16 e (!ok) j_e
  else L89_16 e false j_e :=
  (V_eq pa rfl _).trans (f89 j_e ok e V (LV Pr T 89))
theorem f89_16 (e : Int) (b : Bool) (j_e : Int) (cl_ : FuncId → List Arg → Option Out) (lp_ : List Nat → AS → Option Out) : stepW Pr T cl_ lp_ 89 [1, 6] (st89_16 e b j_e) =
  bif b then
    some (.pv (.tup []), [.box [.int .i64 e]])
  else some (.pv (.tup []), [.box [.int .i64 j_e]]) := by kernel_rfl
theorem e89_16 (e : Int) (b : Bool) (j_e : Int) : L89_16 e b j_e =
  bif b then
    some (.pv (.tup []), [.box [.int .i64 e]])
  else some (.pv (.tup []), [.box [.int .i64 j_e]]) :=
  (LV_eq pa 89 _ _).trans (f89_16 e b j_e V (LV Pr T 89))
/-! 90 roadstead/roadref2.named -/
theorem f90 (s : List UInt8) (first : List UInt8) (cl_ : FuncId → List Arg → Option Out) (lp_ : List Nat → AS → Option Out) : runW Pr T cl_ lp_ 90 [.pv (.str s), .pv (.str first)] =
  bif (!(s == ([] : List UInt8))) then
    bif decide ((s.length : Int) < (17 : Int)) then
      (s[(0 : Int).toNat]?).bind fun c =>
        (((cl_ 111 [.pv (.str first), .pv (.int .u8 (c.toNat : Int))]).bind retPV).bind fun r =>
          (bif (Sh.int .i64).fits r then
            bif decide ((r.toInt) ≥ (0 : Int)) then
              ((cl_ 112 [.pv (.str s), .pv (.str [97, 98, 99, 100, 101, 102, 103, 104, 105, 106, 107, 108, 109, 110, 111, 112, 113, 114, 115, 116, 117, 118, 119, 120, 121, 122, 65, 66, 67, 68, 69, 70, 71, 72, 73, 74, 75, 76, 77, 78, 79, 80, 81, 82, 83, 84, 85, 86, 87, 88, 89, 90, 48, 49, 50, 51, 52, 53, 54, 55, 56, 57, 95])]).bind retPV).bind fun r1 =>
                (bif (Sh.str).fits r1 then
                  some (.pv (.bool (r1.toStr == ([] : List UInt8))), [])
                else none)
            else some (.pv (.bool false), [])
          else none))
    else some (.pv (.bool false), [])
  else some (.pv (.bool false), []) := by kernel_rfl
theorem e90 (s : List UInt8) (first : List UInt8) : V 90 [.pv (.str s), .pv (.str first)] =
  bif (!(s == ([] : List UInt8))) then
    bif decide ((s.length : Int) < (17 : Int)) then
      (s[(0 : Int).toNat]?).bind fun c =>
        (((V 111 [.pv (.str first), .pv (.int .u8 (c.toNat : Int))]).bind retPV).bind fun r =>
          (bif (Sh.int .i64).fits r then
            bif decide ((r.toInt) ≥ (0 : Int)) then
              ((V 112 [.pv (.str s), .pv (.str [97, 98, 99, 100, 101, 102, 103, 104, 105, 106, 107, 108, 109, 110, 111, 112, 113, 114, 115, 116, 117, 118, 119, 120, 121, 122, 65, 66, 67, 68, 69, 70, 71, 72, 73, 74, 75, 76, 77, 78, 79, 80, 81, 82, 83, 84, 85, 86, 87, 88, 89, 90, 48, 49, 50, 51, 52, 53, 54, 55, 56, 57, 95])]).bind retPV).bind fun r1 =>
                (bif (Sh.str).fits r1 then
                  some (.pv (.bool (r1.toStr == ([] : List UInt8))), [])
                else none)
            else some (.pv (.bool false), [])
          else none))
    else some (.pv (.bool false), [])
  else some (.pv (.bool false), []) :=
  (V_eq pa rfl _).trans (f90 s first V (LV Pr T 90))
/-! 91 roadstead/roadref2.WordList -/
theorem f91  (cl_ : FuncId → List Arg → Option Out) (lp_ : List Nat → AS → Option Out) : runW Pr T cl_ lp_ 91 [] =
  ((cl_ 113 [.pv (.str [97, 99, 116, 111, 114, 32, 97, 102, 116, 101, 114, 32, 97, 110, 100, 32, 97, 112, 112, 108, 121, 32, 98, 101, 99, 111, 109, 101, 32, 98, 111, 111, 108, 32, 99, 101, 108, 108, 32, 100, 97, 116, 97, 32, 101, 108, 115, 101, 32, 102, 97, 105, 108, 32, 102, 97, 108, 115, 101, 32, 102, 110, 32, 102, 111, 114, 32, 102, 117, 110, 32, 103, 101, 116, 32, 105, 102, 32, 105, 109, 112, 108, 32, 105, 110, 32, 105, 110, 116, 32, 108, 101, 116, 32, 108, 105, 110, 107, 32, 109, 97, 116, 99, 104, 32, 109, 111, 100, 117, 108, 101, 32, 110, 111, 116, 32, 111, 114, 32, 112, 117, 116, 32, 114, 101, 99, 101, 105, 118, 101, 32, 115, 97, 121, 32, 115, 101, 108, 102, 32, 115, 101, 110, 100, 32, 115, 112, 97, 119, 110, 32, 116, 101, 120, 116, 32, 116, 104, 101, 110, 32, 116, 114, 97, 105, 116, 32, 116, 114, 117, 101, 32, 117, 110, 105, 116, 32, 117, 115, 101, 32, 119, 97, 116, 99, 104])]).bind retPV).bind fun r =>
    (bif (Sh.lst).fits r then
      some (.pv (.lst r.toLst), [])
    else none) := by kernel_rfl
theorem e91  : V 91 [] =
  ((V 113 [.pv (.str [97, 99, 116, 111, 114, 32, 97, 102, 116, 101, 114, 32, 97, 110, 100, 32, 97, 112, 112, 108, 121, 32, 98, 101, 99, 111, 109, 101, 32, 98, 111, 111, 108, 32, 99, 101, 108, 108, 32, 100, 97, 116, 97, 32, 101, 108, 115, 101, 32, 102, 97, 105, 108, 32, 102, 97, 108, 115, 101, 32, 102, 110, 32, 102, 111, 114, 32, 102, 117, 110, 32, 103, 101, 116, 32, 105, 102, 32, 105, 109, 112, 108, 32, 105, 110, 32, 105, 110, 116, 32, 108, 101, 116, 32, 108, 105, 110, 107, 32, 109, 97, 116, 99, 104, 32, 109, 111, 100, 117, 108, 101, 32, 110, 111, 116, 32, 111, 114, 32, 112, 117, 116, 32, 114, 101, 99, 101, 105, 118, 101, 32, 115, 97, 121, 32, 115, 101, 108, 102, 32, 115, 101, 110, 100, 32, 115, 112, 97, 119, 110, 32, 116, 101, 120, 116, 32, 116, 104, 101, 110, 32, 116, 114, 97, 105, 116, 32, 116, 114, 117, 101, 32, 117, 110, 105, 116, 32, 117, 115, 101, 32, 119, 97, 116, 99, 104])]).bind retPV).bind fun r =>
    (bif (Sh.lst).fits r then
      some (.pv (.lst r.toLst), [])
    else none) :=
  (V_eq pa rfl _).trans (f91  V (LV Pr T 91))
/-! 92 (*roadstead/roadref2.judge).typ -/
def st92_1116 (deep : Int) (v : Int) (t_Kind : Int) (t_Name : List UInt8) (t_Args : List PV) : AS :=
  ⟨[.box 0 0, .any, .pv (.int .i64 deep), .any, .box 1 0, .any, .any, .any, .any, .any, .any, .any, .any, .any, .any, .any, .any, .any, .any, .any, .any, .any, .any, .any, .any, .any, .any, .any, .any, .any, .any, .any, .any, .any, .any, .any, .any, .any, .any, .any, .any, .any, .any, .any, .any, .any, .any, .any, .any, .any, .any, .any, .any, .any, .any, .any, .any, .any, .any, .any, .any, .any, .any, .any, .any, .any, .any, .any, .any, .any, .any, .any, .any, .any, .any, .any, .any, .any, .any, .any, .any, .any, .any, .any, .any, .any, .any, .any, .any, .any, .any, .any, .any, .any, .any, .any, .any, .any, .any, .any, .any, .any, .any, .any, .any, .any, .any, .any, .any], ⟨[(false, [.pv (.int .i64 v)]), (false, [.pv (.int .i64 t_Kind), .pv (.str t_Name), .pv (.lst t_Args)])], [], [], 1, 0⟩⟩
noncomputable def L92_1116 (deep : Int) (v : Int) (t_Kind : Int) (t_Name : List UInt8) (t_Args : List PV) : Option Out := LV Pr T 92 [1, 1, 1, 6] (st92_1116 deep v t_Kind t_Name t_Args)
def st92_11111116 (deep : Int) (v : Int) (t_Kind : Int) (t_Name : List UInt8) (t_Args : List PV) : AS :=
  ⟨[.box 0 0, .any, .pv (.int .i64 deep), .any, .box 1 0, .any, .any, .any, .any, .any, .any, .any, .any, .any, .any, .any, .any, .any, .any, .any, .any, .any, .any, .any, .any, .any, .any, .any, .any, .any, .any, .any, .any, .any, .any, .any, .any, .any, .any, .any, .any, .any, .any, .any, .any, .any, .any, .any, .any, .any, .any, .any, .any, .any, .any, .any, .any, .any, .any, .any, .any, .any, .any, .any, .any, .any, .any, .any, .any, .any, .any, .any, .any, .any, .any, .any, .any, .any, .any, .any, .any, .any, .any, .any, .any, .any, .any, .any, .any, .any, .any, .any, .any, .any, .any, .any, .any, .any, .any, .any, .any, .any, .any, .any, .any, .any, .any, .any, .any], ⟨[(false, [.pv (.int .i64 v)]), (false, [.pv (.int .i64 t_Kind), .pv (.str t_Name), .pv (.lst t_Args)])], [], [], 1, 0⟩⟩
noncomputable def L92_11111116 (deep : Int) (v : Int) (t_Kind : Int) (t_Name : List UInt8) (t_Args : List PV) : Option Out := LV Pr T 92 [1, 1, 1, 1, 1, 1, 1, 6] (st92_11111116 deep v t_Kind t_Name t_Args)
def st92_11111101413131316 (deep : Int) (t_Args : List PV) (b : Bool) (v : Int) (t_Kind : Int) (t_Name : List UInt8) : AS :=
  ⟨[.box 0 0, .any, .pv (.int .i64 deep), .any, .box 1 0, .any, .pv (.int .i64 (t_Args.length : Int)), .any, .any, .any, .any, .any, .any, .any, .any, .any, .any, .any, .any, .any, .any, .any, .any, .any, .any, .any, .any, .any, .any, .any, .any, .any, .any, .any, .any, .any, .any, .any, .any, .any, .any, .any, .any, .any, .any, .any, .any, .any, .any, .any, .any, .any, .any, .any, .any, .any, .any, .any, .any, .any, .any, .any, .any, .any, .any, .any, .any, .any, .any, .any, .any, .any, .any, .any, .any, .any, .any, .any, .any, .any, .any, .any, .any, .any, .pv (.bool b), .any, .any, .any, .any, .any, .any, .any, .any, .any, .any, .any, .any, .any, .any, .any, .any, .any, .any, .any, .any, .any, .any, .any, .any], ⟨[(false, [.pv (.int .i64 v)]), (false, [.pv (.int .i64 t_Kind), .pv (.str t_Name), .pv (.lst t_Args)])], [], [], 1, 0⟩⟩
noncomputable def L92_11111101413131316 (deep : Int) (t_Args : List PV) (b : Bool) (v : Int) (t_Kind : Int) (t_Name : List UInt8) : Option Out := LV Pr T 92 [1, 1, 1, 1, 1, 1, 0, 1, 4, 1, 3, 1, 3, 1, 3, 1, 6] (st92_11111101413131316 deep t_Args b v t_Kind t_Name)
def st92_111111114 (deep : Int) (t_Args : List PV) (i : Int) (v : Int) : AS :=
  ⟨[.box 0 0, .any, .pv (.int .i64 deep), .any, .any, .any, .any, .any, .any, .any, .any, .any, .any, .any, .any, .any, .any, .any, .any, .any, .any, .any, .any, .any, .any, .any, .any, .any, .any, .any, .any, .any, .any, .any, .any, .any, .any, .any, .any, .any, .any, .any, .any, .any, .any, .any, .any, .any, .any, .any, .any, .any, .any, .any, .any, .any, .any, .any, .any, .any, .any, .any, .any, .any, .any, .any, .any, .any, .any, .any, .any, .any, .any, .any, .any, .any, .any, .any, .any, .any, .any, .any, .any, .any, .any, .any, .any, .any, .any, .any, .any, .any, .any, .any, .any, .any, .any, .pv (.lst t_Args), .pv (.int .i64 (t_Args.length : Int)), .pv (.int .i64 i), .any, .any, .any, .any, .any, .any, .any, .any, .any], ⟨[(false, [.pv (.int .i64 v)])], [], [], 1, 0⟩⟩
noncomputable def L92_111111114 (deep : Int) (t_Args : List PV) (i : Int) (v : Int) : Option Out := LV Pr T 92 [1, 1, 1, 1, 1, 1, 1, 1, 4] (st92_111111114 deep t_Args i v)
theorem f92 (j_e : Int) (t_Kind : Int) (t_Name : List UInt8) (t_Args : List PV) (deep : Int) (cl_ : FuncId → List Arg → Option Out) (lp_ : List Nat → AS → Option Out) : runW Pr T cl_ lp_ 92 [.box [.int .i64 j_e], .pv (.agg [.int .i64 t_Kind, .str t_Name, .lst t_Args]), .pv (.int .i64 deep)] =
  (cl_ 52 [.box [.int .i64 j_e], .pv (.bool (decide (deep ≤ (40 : Int))))]).bind fun r =>
    (bif refFits [(0, some (Sh.agg [Sh.int .i64]))] [] r.2 then
      (retPV (r.1, [])).bind fun r1 =>
        (bif (Sh.tup []).fits r1 then
          bif decide (t_Kind ≥ (1 : Int)) then
            (cl_ 53 [.box [.int .i64 (((Out.b r 0).c 0).toInt)], .pv (.bool (decide (t_Kind ≤ (9 : Int))))]).bind fun r2 =>
              (bif refFits [(0, some (Sh.agg [Sh.int .i64]))] [] r2.2 then
                (retPV (r2.1, [])).bind fun r3 =>
                  (bif (Sh.tup []).fits r3 then
                    lp_ [1, 1, 1, 6] (st92_1116 deep (((Out.b r2 0).c 0).toInt) t_Kind t_Name t_Args)
                  else none)
              else none)
          else (cl_ 53 [.box [.int .i64 (((Out.b r 0).c 0).toInt)], .pv (.bool false)]).bind fun r4 =>
            (bif refFits [(0, some (Sh.agg [Sh.int .i64]))] [] r4.2 then
              (retPV (r4.1, [])).bind fun r5 =>
                (bif (Sh.tup []).fits r5 then
                  lp_ [1, 1, 1, 6] (st92_1116 deep (((Out.b r4 0).c 0).toInt) t_Kind t_Name t_Args)
                else none)
            else none)
        else none)
    else none) := by kernel_rfl
theorem e92 (j_e : Int) (t_Kind : Int) (t_Name : List UInt8) (t_Args : List PV) (deep : Int) : V 92 [.box [.int .i64 j_e], .pv (.agg [.int .i64 t_Kind, .str t_Name, .lst t_Args]), .pv (.int .i64 deep)] =
  (V 52 [.box [.int .i64 j_e], .pv (.bool (decide (deep ≤ (40 : Int))))]).bind fun r =>
    (bif refFits [(0, some (Sh.agg [Sh.int .i64]))] [] r.2 then
      (retPV (r.1, [])).bind fun r1 =>
        (bif (Sh.tup []).fits r1 then
          bif decide (t_Kind ≥ (1 : Int)) then
            (V 53 [.box [.int .i64 (((Out.b r 0).c 0).toInt)], .pv (.bool (decide (t_Kind ≤ (9 : Int))))]).bind fun r2 =>
              (bif refFits [(0, some (Sh.agg [Sh.int .i64]))] [] r2.2 then
                (retPV (r2.1, [])).bind fun r3 =>
                  (bif (Sh.tup []).fits r3 then
                    L92_1116 deep (((Out.b r2 0).c 0).toInt) t_Kind t_Name t_Args
                  else none)
              else none)
          else (V 53 [.box [.int .i64 (((Out.b r 0).c 0).toInt)], .pv (.bool false)]).bind fun r4 =>
            (bif refFits [(0, some (Sh.agg [Sh.int .i64]))] [] r4.2 then
              (retPV (r4.1, [])).bind fun r5 =>
                (bif (Sh.tup []).fits r5 then
                  L92_1116 deep (((Out.b r4 0).c 0).toInt) t_Kind t_Name t_Args
                else none)
            else none)
        else none)
    else none) :=
  (V_eq pa rfl _).trans (f92 j_e t_Kind t_Name t_Args deep V (LV Pr T 92))
theorem f92_1116 (deep : Int) (v : Int) (t_Kind : Int) (t_Name : List UInt8) (t_Args : List PV) (cl_ : FuncId → List Arg → Option Out) (lp_ : List Nat → AS → Option Out) : stepW Pr T cl_ lp_ 92 [1, 1, 1, 6] (st92_1116 deep v t_Kind t_Name t_Args) =
  bif (v != (0 : Int)) then
    some (.pv (.tup []), [.box [.int .i64 v]])
  else (cl_ 52 [.box [.int .i64 v], .pv (.bool (decide ((t_Args.length : Int) ≤ (7 : Int))))]).bind fun r =>
    (bif refFits [(0, some (Sh.agg [Sh.int .i64]))] [] r.2 then
      (retPV (r.1, [])).bind fun r1 =>
        (bif (Sh.tup []).fits r1 then
          bif (t_Kind == (5 : Int)) then
            bif ((t_Args.length : Int) == (0 : Int)) then
              ((cl_ 54 [.pv (.str t_Name)]).bind retPV).bind fun r2 =>
                (bif (Sh.bool).fits r2 then
                  bif r2.toBool then
                    (cl_ 53 [.box [.int .i64 (((Out.b r 0).c 0).toInt)], .pv (.bool true)]).bind fun r3 =>
                      (bif refFits [(0, some (Sh.agg [Sh.int .i64]))] [] r3.2 then
                        (retPV (r3.1, [])).bind fun r4 =>
                          (bif (Sh.tup []).fits r4 then
                            lp_ [1, 1, 1, 1, 1, 1, 1, 6] (st92_11111116 deep (((Out.b r3 0).c 0).toInt) t_Kind t_Name t_Args)
                          else none)
                      else none)
                  else (cl_ 53 [.box [.int .i64 (((Out.b r 0).c 0).toInt)], .pv (.bool (t_Name == ([115, 101, 108, 102] : List UInt8)))]).bind fun r5 =>
                    (bif refFits [(0, some (Sh.agg [Sh.int .i64]))] [] r5.2 then
                      (retPV (r5.1, [])).bind fun r6 =>
                        (bif (Sh.tup []).fits r6 then
                          lp_ [1, 1, 1, 1, 1, 1, 1, 6] (st92_11111116 deep (((Out.b r5 0).c 0).toInt) t_Kind t_Name t_Args)
                        else none)
                    else none)
                else none)
            else (cl_ 53 [.box [.int .i64 (((Out.b r 0).c 0).toInt)], .pv (.bool false)]).bind fun r7 =>
              (bif refFits [(0, some (Sh.agg [Sh.int .i64]))] [] r7.2 then
                (retPV (r7.1, [])).bind fun r8 =>
                  (bif (Sh.tup []).fits r8 then
                    lp_ [1, 1, 1, 1, 1, 1, 1, 6] (st92_11111116 deep (((Out.b r7 0).c 0).toInt) t_Kind t_Name t_Args)
                  else none)
              else none)
          else bif (t_Kind == (6 : Int)) then
            bif decide ((t_Args.length : Int) ≤ (6 : Int)) then
              ((cl_ 56 [.pv (.str t_Name)]).bind retPV).bind fun r9 =>
                (bif (Sh.bool).fits r9 then
                  (cl_ 53 [.box [.int .i64 (((Out.b r 0).c 0).toInt)], .pv (.bool r9.toBool)]).bind fun r10 =>
                    (bif refFits [(0, some (Sh.agg [Sh.int .i64]))] [] r10.2 then
                      (retPV (r10.1, [])).bind fun r11 =>
                        (bif (Sh.tup []).fits r11 then
                          lp_ [1, 1, 1, 1, 1, 1, 1, 6] (st92_11111116 deep (((Out.b r10 0).c 0).toInt) t_Kind t_Name t_Args)
                        else none)
                    else none)
                else none)
            else (cl_ 53 [.box [.int .i64 (((Out.b r 0).c 0).toInt)], .pv (.bool false)]).bind fun r12 =>
              (bif refFits [(0, some (Sh.agg [Sh.int .i64]))] [] r12.2 then
                (retPV (r12.1, [])).bind fun r13 =>
                  (bif (Sh.tup []).fits r13 then
                    lp_ [1, 1, 1, 1, 1, 1, 1, 6] (st92_11111116 deep (((Out.b r12 0).c 0).toInt) t_Kind t_Name t_Args)
                  else none)
              else none)
          else bif (t_Kind == (7 : Int)) then
            bif decide ((t_Args.length : Int) ≥ (1 : Int)) then
              (cl_ 53 [.box [.int .i64 (((Out.b r 0).c 0).toInt)], .pv (.bool (t_Name == ([] : List UInt8)))]).bind fun r14 =>
                (bif refFits [(0, some (Sh.agg [Sh.int .i64]))] [] r14.2 then
                  (retPV (r14.1, [])).bind fun r15 =>
                    (bif (Sh.tup []).fits r15 then
                      lp_ [1, 1, 1, 1, 1, 1, 1, 6] (st92_11111116 deep (((Out.b r14 0).c 0).toInt) t_Kind t_Name t_Args)
                    else none)
                else none)
            else (cl_ 53 [.box [.int .i64 (((Out.b r 0).c 0).toInt)], .pv (.bool false)]).bind fun r16 =>
              (bif refFits [(0, some (Sh.agg [Sh.int .i64]))] [] r16.2 then
                (retPV (r16.1, [])).bind fun r17 =>
                  (bif (Sh.tup []).fits r17 then
                    lp_ [1, 1, 1, 1, 1, 1, 1, 6] (st92_11111116 deep (((Out.b r16 0).c 0).toInt) t_Kind t_Name t_Args)
                  else none)
              else none)
          else bif (t_Kind == (8 : Int)) then
            lp_ [1, 1, 1, 1, 1, 1, 0, 1, 4, 1, 3, 1, 3, 1, 3, 1, 6] (st92_11111101413131316 deep t_Args (t_Kind == (8 : Int)) (((Out.b r 0).c 0).toInt) t_Kind t_Name)
          else lp_ [1, 1, 1, 1, 1, 1, 0, 1, 4, 1, 3, 1, 3, 1, 3, 1, 6] (st92_11111101413131316 deep t_Args (t_Kind == (9 : Int)) (((Out.b r 0).c 0).toInt) t_Kind t_Name)
        else none)
    else none) := by kernel_rfl
theorem e92_1116 (deep : Int) (v : Int) (t_Kind : Int) (t_Name : List UInt8) (t_Args : List PV) : L92_1116 deep v t_Kind t_Name t_Args =
  bif (v != (0 : Int)) then
    some (.pv (.tup []), [.box [.int .i64 v]])
  else (V 52 [.box [.int .i64 v], .pv (.bool (decide ((t_Args.length : Int) ≤ (7 : Int))))]).bind fun r =>
    (bif refFits [(0, some (Sh.agg [Sh.int .i64]))] [] r.2 then
      (retPV (r.1, [])).bind fun r1 =>
        (bif (Sh.tup []).fits r1 then
          bif (t_Kind == (5 : Int)) then
            bif ((t_Args.length : Int) == (0 : Int)) then
              ((V 54 [.pv (.str t_Name)]).bind retPV).bind fun r2 =>
                (bif (Sh.bool).fits r2 then
                  bif r2.toBool then
                    (V 53 [.box [.int .i64 (((Out.b r 0).c 0).toInt)], .pv (.bool true)]).bind fun r3 =>
                      (bif refFits [(0, some (Sh.agg [Sh.int .i64]))] [] r3.2 then
                        (retPV (r3.1, [])).bind fun r4 =>
                          (bif (Sh.tup []).fits r4 then
                            L92_11111116 deep (((Out.b r3 0).c 0).toInt) t_Kind t_Name t_Args
                          else none)
                      else none)
                  else (V 53 [.box [.int .i64 (((Out.b r 0).c 0).toInt)], .pv (.bool (t_Name == ([115, 101, 108, 102] : List UInt8)))]).bind fun r5 =>
                    (bif refFits [(0, some (Sh.agg [Sh.int .i64]))] [] r5.2 then
                      (retPV (r5.1, [])).bind fun r6 =>
                        (bif (Sh.tup []).fits r6 then
                          L92_11111116 deep (((Out.b r5 0).c 0).toInt) t_Kind t_Name t_Args
                        else none)
                    else none)
                else none)
            else (V 53 [.box [.int .i64 (((Out.b r 0).c 0).toInt)], .pv (.bool false)]).bind fun r7 =>
              (bif refFits [(0, some (Sh.agg [Sh.int .i64]))] [] r7.2 then
                (retPV (r7.1, [])).bind fun r8 =>
                  (bif (Sh.tup []).fits r8 then
                    L92_11111116 deep (((Out.b r7 0).c 0).toInt) t_Kind t_Name t_Args
                  else none)
              else none)
          else bif (t_Kind == (6 : Int)) then
            bif decide ((t_Args.length : Int) ≤ (6 : Int)) then
              ((V 56 [.pv (.str t_Name)]).bind retPV).bind fun r9 =>
                (bif (Sh.bool).fits r9 then
                  (V 53 [.box [.int .i64 (((Out.b r 0).c 0).toInt)], .pv (.bool r9.toBool)]).bind fun r10 =>
                    (bif refFits [(0, some (Sh.agg [Sh.int .i64]))] [] r10.2 then
                      (retPV (r10.1, [])).bind fun r11 =>
                        (bif (Sh.tup []).fits r11 then
                          L92_11111116 deep (((Out.b r10 0).c 0).toInt) t_Kind t_Name t_Args
                        else none)
                    else none)
                else none)
            else (V 53 [.box [.int .i64 (((Out.b r 0).c 0).toInt)], .pv (.bool false)]).bind fun r12 =>
              (bif refFits [(0, some (Sh.agg [Sh.int .i64]))] [] r12.2 then
                (retPV (r12.1, [])).bind fun r13 =>
                  (bif (Sh.tup []).fits r13 then
                    L92_11111116 deep (((Out.b r12 0).c 0).toInt) t_Kind t_Name t_Args
                  else none)
              else none)
          else bif (t_Kind == (7 : Int)) then
            bif decide ((t_Args.length : Int) ≥ (1 : Int)) then
              (V 53 [.box [.int .i64 (((Out.b r 0).c 0).toInt)], .pv (.bool (t_Name == ([] : List UInt8)))]).bind fun r14 =>
                (bif refFits [(0, some (Sh.agg [Sh.int .i64]))] [] r14.2 then
                  (retPV (r14.1, [])).bind fun r15 =>
                    (bif (Sh.tup []).fits r15 then
                      L92_11111116 deep (((Out.b r14 0).c 0).toInt) t_Kind t_Name t_Args
                    else none)
                else none)
            else (V 53 [.box [.int .i64 (((Out.b r 0).c 0).toInt)], .pv (.bool false)]).bind fun r16 =>
              (bif refFits [(0, some (Sh.agg [Sh.int .i64]))] [] r16.2 then
                (retPV (r16.1, [])).bind fun r17 =>
                  (bif (Sh.tup []).fits r17 then
                    L92_11111116 deep (((Out.b r16 0).c 0).toInt) t_Kind t_Name t_Args
                  else none)
              else none)
          else bif (t_Kind == (8 : Int)) then
            L92_11111101413131316 deep t_Args (t_Kind == (8 : Int)) (((Out.b r 0).c 0).toInt) t_Kind t_Name
          else L92_11111101413131316 deep t_Args (t_Kind == (9 : Int)) (((Out.b r 0).c 0).toInt) t_Kind t_Name
        else none)
    else none) :=
  (LV_eq pa 92 _ _).trans (f92_1116 deep v t_Kind t_Name t_Args V (LV Pr T 92))
theorem f92_11111116 (deep : Int) (v : Int) (t_Kind : Int) (t_Name : List UInt8) (t_Args : List PV) (cl_ : FuncId → List Arg → Option Out) (lp_ : List Nat → AS → Option Out) : stepW Pr T cl_ lp_ 92 [1, 1, 1, 1, 1, 1, 1, 6] (st92_11111116 deep v t_Kind t_Name t_Args) =
  lp_ [1, 1, 1, 1, 1, 1, 1, 1, 4] (st92_111111114 deep t_Args 0 v) := by kernel_rfl
theorem e92_11111116 (deep : Int) (v : Int) (t_Kind : Int) (t_Name : List UInt8) (t_Args : List PV) : L92_11111116 deep v t_Kind t_Name t_Args =
  L92_111111114 deep t_Args 0 v :=
  (LV_eq pa 92 _ _).trans (f92_11111116 deep v t_Kind t_Name t_Args V (LV Pr T 92))
theorem f92_11111101413131316 (deep : Int) (t_Args : List PV) (b : Bool) (v : Int) (t_Kind : Int) (t_Name : List UInt8) (cl_ : FuncId → List Arg → Option Out) (lp_ : List Nat → AS → Option Out) : stepW Pr T cl_ lp_ 92 [1, 1, 1, 1, 1, 1, 0, 1, 4, 1, 3, 1, 3, 1, 3, 1, 6] (st92_11111101413131316 deep t_Args b v t_Kind t_Name) =
  bif b then
    bif ((t_Args.length : Int) == (1 : Int)) then
      (cl_ 53 [.box [.int .i64 v], .pv (.bool (t_Name == ([] : List UInt8)))]).bind fun r =>
        (bif refFits [(0, some (Sh.agg [Sh.int .i64]))] [] r.2 then
          (retPV (r.1, [])).bind fun r1 =>
            (bif (Sh.tup []).fits r1 then
              lp_ [1, 1, 1, 1, 1, 1, 1, 6] (st92_11111116 deep (((Out.b r 0).c 0).toInt) t_Kind t_Name t_Args)
            else none)
        else none)
    else (cl_ 53 [.box [.int .i64 v], .pv (.bool false)]).bind fun r2 =>
      (bif refFits [(0, some (Sh.agg [Sh.int .i64]))] [] r2.2 then
        (retPV (r2.1, [])).bind fun r3 =>
          (bif (Sh.tup []).fits r3 then
            lp_ [1, 1, 1, 1, 1, 1, 1, 6] (st92_11111116 deep (((Out.b r2 0).c 0).toInt) t_Kind t_Name t_Args)
          else none)
      else none)
  else bif ((t_Args.length : Int) == (0 : Int)) then
    (cl_ 53 [.box [.int .i64 v], .pv (.bool (t_Name == ([] : List UInt8)))]).bind fun r4 =>
      (bif refFits [(0, some (Sh.agg [Sh.int .i64]))] [] r4.2 then
        (retPV (r4.1, [])).bind fun r5 =>
          (bif (Sh.tup []).fits r5 then
            lp_ [1, 1, 1, 1, 1, 1, 1, 6] (st92_11111116 deep (((Out.b r4 0).c 0).toInt) t_Kind t_Name t_Args)
          else none)
      else none)
  else (cl_ 53 [.box [.int .i64 v], .pv (.bool false)]).bind fun r6 =>
    (bif refFits [(0, some (Sh.agg [Sh.int .i64]))] [] r6.2 then
      (retPV (r6.1, [])).bind fun r7 =>
        (bif (Sh.tup []).fits r7 then
          lp_ [1, 1, 1, 1, 1, 1, 1, 6] (st92_11111116 deep (((Out.b r6 0).c 0).toInt) t_Kind t_Name t_Args)
        else none)
    else none) := by kernel_rfl
theorem e92_11111101413131316 (deep : Int) (t_Args : List PV) (b : Bool) (v : Int) (t_Kind : Int) (t_Name : List UInt8) : L92_11111101413131316 deep t_Args b v t_Kind t_Name =
  bif b then
    bif ((t_Args.length : Int) == (1 : Int)) then
      (V 53 [.box [.int .i64 v], .pv (.bool (t_Name == ([] : List UInt8)))]).bind fun r =>
        (bif refFits [(0, some (Sh.agg [Sh.int .i64]))] [] r.2 then
          (retPV (r.1, [])).bind fun r1 =>
            (bif (Sh.tup []).fits r1 then
              L92_11111116 deep (((Out.b r 0).c 0).toInt) t_Kind t_Name t_Args
            else none)
        else none)
    else (V 53 [.box [.int .i64 v], .pv (.bool false)]).bind fun r2 =>
      (bif refFits [(0, some (Sh.agg [Sh.int .i64]))] [] r2.2 then
        (retPV (r2.1, [])).bind fun r3 =>
          (bif (Sh.tup []).fits r3 then
            L92_11111116 deep (((Out.b r2 0).c 0).toInt) t_Kind t_Name t_Args
          else none)
      else none)
  else bif ((t_Args.length : Int) == (0 : Int)) then
    (V 53 [.box [.int .i64 v], .pv (.bool (t_Name == ([] : List UInt8)))]).bind fun r4 =>
      (bif refFits [(0, some (Sh.agg [Sh.int .i64]))] [] r4.2 then
        (retPV (r4.1, [])).bind fun r5 =>
          (bif (Sh.tup []).fits r5 then
            L92_11111116 deep (((Out.b r4 0).c 0).toInt) t_Kind t_Name t_Args
          else none)
      else none)
  else (V 53 [.box [.int .i64 v], .pv (.bool false)]).bind fun r6 =>
    (bif refFits [(0, some (Sh.agg [Sh.int .i64]))] [] r6.2 then
      (retPV (r6.1, [])).bind fun r7 =>
        (bif (Sh.tup []).fits r7 then
          L92_11111116 deep (((Out.b r6 0).c 0).toInt) t_Kind t_Name t_Args
        else none)
    else none) :=
  (LV_eq pa 92 _ _).trans (f92_11111101413131316 deep t_Args b v t_Kind t_Name V (LV Pr T 92))
theorem f92_111111114 (deep : Int) (t_Args : List PV) (i : Int) (v : Int) (cl_ : FuncId → List Arg → Option Out) (lp_ : List Nat → AS → Option Out) : stepW Pr T cl_ lp_ 92 [1, 1, 1, 1, 1, 1, 1, 1, 4] (st92_111111114 deep t_Args i v) =
  bif decide (i < (t_Args.length : Int)) then
    bif decide (0 ≤ i) then
      (t_Args[i.toNat]?).bind fun x =>
        (bif (Sh.agg [Sh.int .i64, Sh.str, Sh.lst]).fits x then
          (cl_ 92 [.box [.int .i64 v], .pv (.agg [.int .i64 ((x.c 0).toInt), .str ((x.c 1).toStr), .lst ((x.c 2).toLst)]), .pv (.int .i64 (IntKind.i64.wrap (deep + (1 : Int))))]).bind fun r =>
            (bif refFits [(0, some (Sh.agg [Sh.int .i64]))] [] r.2 then
              (retPV (r.1, [])).bind fun r1 =>
                (bif (Sh.tup []).fits r1 then
                  lp_ [1, 1, 1, 1, 1, 1, 1, 1, 4] (st92_111111114 deep t_Args (IntKind.i64.wrap (i + (1 : Int))) (((Out.b r 0).c 0).toInt))
                else none)
            else none)
        else none)
    else none
  else some (.pv (.tup []), [.box [.int .i64 v]]) := by kernel_rfl
theorem e92_111111114 (deep : Int) (t_Args : List PV) (i : Int) (v : Int) : L92_111111114 deep t_Args i v =
  bif decide (i < (t_Args.length : Int)) then
    bif decide (0 ≤ i) then
      (t_Args[i.toNat]?).bind fun x =>
        (bif (Sh.agg [Sh.int .i64, Sh.str, Sh.lst]).fits x then
          (V 92 [.box [.int .i64 v], .pv (.agg [.int .i64 ((x.c 0).toInt), .str ((x.c 1).toStr), .lst ((x.c 2).toLst)]), .pv (.int .i64 (IntKind.i64.wrap (deep + (1 : Int))))]).bind fun r =>
            (bif refFits [(0, some (Sh.agg [Sh.int .i64]))] [] r.2 then
              (retPV (r.1, [])).bind fun r1 =>
                (bif (Sh.tup []).fits r1 then
                  L92_111111114 deep t_Args (IntKind.i64.wrap (i + (1 : Int))) (((Out.b r 0).c 0).toInt)
                else none)
            else none)
        else none)
    else none
  else some (.pv (.tup []), [.box [.int .i64 v]]) :=
  (LV_eq pa 92 _ _).trans (f92_111111114 deep t_Args i v V (LV Pr T 92))
/-! 94 roadstead/roadref2.DeepOf -/
def st94_11014 (i : Int) (e_Args : List PV) (i1 : Int) (e_Kind : Int) (e_Num : Int) (e_Text : List UInt8) (e_Names : List PV) (e_Types : List PV) (e_Arms : List PV) (e_At : Int) : AS :=
  ⟨[.any, .box 0 0, .any, .pv (.int .i64 i), .any, .any, .any, .any, .any, .pv (.lst e_Args), .pv (.int .i64 (e_Args.length : Int)), .pv (.int .i64 i1), .any, .any, .any, .any, .any, .any, .any, .any, .any, .any, .any, .any, .any, .any, .any, .any, .any, .any, .any, .any, .any, .any, .any, .any, .any, .any, .any, .any], ⟨[(false, [.pv (.int .i64 e_Kind), .pv (.int .i64 e_Num), .pv (.str e_Text), .pv (.lst e_Names), .pv (.lst e_Types), .pv (.lst e_Args), .pv (.lst e_Arms), .pv (.int .i64 e_At)])], [], [], 0, 0⟩⟩
noncomputable def L94_11014 (i : Int) (e_Args : List PV) (i1 : Int) (e_Kind : Int) (e_Num : Int) (e_Text : List UInt8) (e_Names : List PV) (e_Types : List PV) (e_Arms : List PV) (e_At : Int) : Option Out := LV Pr T 94 [1, 1, 0, 1, 4] (st94_11014 i e_Args i1 e_Kind e_Num e_Text e_Names e_Types e_Arms e_At)
def st94_111014 (i1 : Int) (e_Arms : List PV) (i : Int) : AS :=
  ⟨[.any, .any, .any, .pv (.int .i64 i1), .any, .any, .any, .any, .any, .any, .any, .any, .any, .any, .any, .any, .any, .any, .any, .any, .any, .any, .pv (.lst e_Arms), .pv (.int .i64 (e_Arms.length : Int)), .pv (.int .i64 i), .any, .any, .any, .any, .any, .any, .any, .any, .any, .any, .any, .any, .any, .any, .any], ⟨[], [], [], 0, 0⟩⟩
noncomputable def L94_111014 (i1 : Int) (e_Arms : List PV) (i : Int) : Option Out := LV Pr T 94 [1, 1, 1, 0, 1, 4] (st94_111014 i1 e_Arms i)
theorem f94 (e_Kind : Int) (e_Num : Int) (e_Text : List UInt8) (e_Names : List PV) (e_Types : List PV) (e_Args : List PV) (e_Arms : List PV) (e_At : Int) (cl_ : FuncId → List Arg → Option Out) (lp_ : List Nat → AS → Option Out) : runW Pr T cl_ lp_ 94 [.pv (.agg [.int .i64 e_Kind, .int .i64 e_Num, .str e_Text, .lst e_Names, .lst e_Types, .lst e_Args, .lst e_Arms, .int .i64 e_At])] =
  lp_ [1, 1, 0, 1, 4] (st94_11014 1 e_Args 0 e_Kind e_Num e_Text e_Names e_Types e_Arms e_At) := by kernel_rfl
theorem e94 (e_Kind : Int) (e_Num : Int) (e_Text : List UInt8) (e_Names : List PV) (e_Types : List PV) (e_Args : List PV) (e_Arms : List PV) (e_At : Int) : V 94 [.pv (.agg [.int .i64 e_Kind, .int .i64 e_Num, .str e_Text, .lst e_Names, .lst e_Types, .lst e_Args, .lst e_Arms, .int .i64 e_At])] =
  L94_11014 1 e_Args 0 e_Kind e_Num e_Text e_Names e_Types e_Arms e_At :=
  (V_eq pa rfl _).trans (f94 e_Kind e_Num e_Text e_Names e_Types e_Args e_Arms e_At V (LV Pr T 94))
theorem f94_11014 (i : Int) (e_Args : List PV) (i1 : Int) (e_Kind : Int) (e_Num : Int) (e_Text : List UInt8) (e_Names : List PV) (e_Types : List PV) (e_Arms : List PV) (e_At : Int) (cl_ : FuncId → List Arg → Option Out) (lp_ : List Nat → AS → Option Out) : stepW Pr T cl_ lp_ 94 [1, 1, 0, 1, 4] (st94_11014 i e_Args i1 e_Kind e_Num e_Text e_Names e_Types e_Arms e_At) =
  bif decide (i1 < (e_Args.length : Int)) then
    bif decide (0 ≤ i1) then
      (e_Args[i1.toNat]?).bind fun x =>
        (bif (Sh.agg [Sh.int .i64, Sh.int .i64, Sh.str, Sh.lst, Sh.lst, Sh.lst, Sh.lst, Sh.int .i64]).fits x then
          ((cl_ 94 [.pv (.agg [.int .i64 ((x.c 0).toInt), .int .i64 ((x.c 1).toInt), .str ((x.c 2).toStr), .lst ((x.c 3).toLst), .lst ((x.c 4).toLst), .lst ((x.c 5).toLst), .lst ((x.c 6).toLst), .int .i64 ((x.c 7).toInt)])]).bind retPV).bind fun r =>
            (bif (Sh.int .i64).fits r then
              lp_ [1, 1, 0, 1, 4] (st94_11014 (bif decide ((IntKind.i64.wrap ((1 : Int) + (r.toInt))) > i) then (IntKind.i64.wrap ((1 : Int) + (r.toInt))) else i) e_Args (IntKind.i64.wrap (i1 + (1 : Int))) e_Kind e_Num e_Text e_Names e_Types e_Arms e_At)
            else none)
        else none)
    else none
  else lp_ [1, 1, 1, 0, 1, 4] (st94_111014 i e_Arms 0) := by kernel_rfl
theorem e94_11014 (i : Int) (e_Args : List PV) (i1 : Int) (e_Kind : Int) (e_Num : Int) (e_Text : List UInt8) (e_Names : List PV) (e_Types : List PV) (e_Arms : List PV) (e_At : Int) : L94_11014 i e_Args i1 e_Kind e_Num e_Text e_Names e_Types e_Arms e_At =
  bif decide (i1 < (e_Args.length : Int)) then
    bif decide (0 ≤ i1) then
      (e_Args[i1.toNat]?).bind fun x =>
        (bif (Sh.agg [Sh.int .i64, Sh.int .i64, Sh.str, Sh.lst, Sh.lst, Sh.lst, Sh.lst, Sh.int .i64]).fits x then
          ((V 94 [.pv (.agg [.int .i64 ((x.c 0).toInt), .int .i64 ((x.c 1).toInt), .str ((x.c 2).toStr), .lst ((x.c 3).toLst), .lst ((x.c 4).toLst), .lst ((x.c 5).toLst), .lst ((x.c 6).toLst), .int .i64 ((x.c 7).toInt)])]).bind retPV).bind fun r =>
            (bif (Sh.int .i64).fits r then
              L94_11014 (bif decide ((IntKind.i64.wrap ((1 : Int) + (r.toInt))) > i) then (IntKind.i64.wrap ((1 : Int) + (r.toInt))) else i) e_Args (IntKind.i64.wrap (i1 + (1 : Int))) e_Kind e_Num e_Text e_Names e_Types e_Arms e_At
            else none)
        else none)
    else none
  else L94_111014 i e_Arms 0 :=
  (LV_eq pa 94 _ _).trans (f94_11014 i e_Args i1 e_Kind e_Num e_Text e_Names e_Types e_Arms e_At V (LV Pr T 94))
theorem f94_111014 (i1 : Int) (e_Arms : List PV) (i : Int) (cl_ : FuncId → List Arg → Option Out) (lp_ : List Nat → AS → Option Out) : stepW Pr T cl_ lp_ 94 [1, 1, 1, 0, 1, 4] (st94_111014 i1 e_Arms i) =
  bif decide (i < (e_Arms.length : Int)) then
    bif decide (0 ≤ i) then
      (e_Arms[i.toNat]?).bind fun x =>
        (bif (Sh.agg [Sh.int .i64, Sh.int .i64, Sh.str, Sh.lst, Sh.int .i64, Sh.int .i64, Sh.str, Sh.lst, Sh.lst, Sh.lst, Sh.lst, Sh.int .i64]).fits x then
          ((cl_ 94 [.pv (.agg [.int .i64 ((x.c 4).toInt), .int .i64 ((x.c 5).toInt), .str ((x.c 6).toStr), .lst ((x.c 7).toLst), .lst ((x.c 8).toLst), .lst ((x.c 9).toLst), .lst ((x.c 10).toLst), .int .i64 ((x.c 11).toInt)])]).bind retPV).bind fun r =>
            (bif (Sh.int .i64).fits r then
              ((cl_ 118 [.pv (.agg [.int .i64 ((x.c 0).toInt), .int .i64 ((x.c 1).toInt), .str ((x.c 2).toStr), .lst ((x.c 3).toLst)])]).bind retPV).bind fun r1 =>
                (bif (Sh.int .i64).fits r1 then
                  lp_ [1, 1, 1, 0, 1, 4] (st94_111014 (bif decide ((IntKind.i64.wrap ((1 : Int) + (r1.toInt))) > (bif decide ((IntKind.i64.wrap ((1 : Int) + (r.toInt))) > i1) then (IntKind.i64.wrap ((1 : Int) + (r.toInt))) else i1)) then (IntKind.i64.wrap ((1 : Int) + (r1.toInt))) else (bif decide ((IntKind.i64.wrap ((1 : Int) + (r.toInt))) > i1) then (IntKind.i64.wrap ((1 : Int) + (r.toInt))) else i1)) e_Arms (IntKind.i64.wrap (i + (1 : Int))))
                else none)
            else none)
        else none)
    else none
  else some (.pv (.int .i64 i1), []) := by kernel_rfl
theorem e94_111014 (i1 : Int) (e_Arms : List PV) (i : Int) : L94_111014 i1 e_Arms i =
  bif decide (i < (e_Arms.length : Int)) then
    bif decide (0 ≤ i) then
      (e_Arms[i.toNat]?).bind fun x =>
        (bif (Sh.agg [Sh.int .i64, Sh.int .i64, Sh.str, Sh.lst, Sh.int .i64, Sh.int .i64, Sh.str, Sh.lst, Sh.lst, Sh.lst, Sh.lst, Sh.int .i64]).fits x then
          ((V 94 [.pv (.agg [.int .i64 ((x.c 4).toInt), .int .i64 ((x.c 5).toInt), .str ((x.c 6).toStr), .lst ((x.c 7).toLst), .lst ((x.c 8).toLst), .lst ((x.c 9).toLst), .lst ((x.c 10).toLst), .int .i64 ((x.c 11).toInt)])]).bind retPV).bind fun r =>
            (bif (Sh.int .i64).fits r then
              ((V 118 [.pv (.agg [.int .i64 ((x.c 0).toInt), .int .i64 ((x.c 1).toInt), .str ((x.c 2).toStr), .lst ((x.c 3).toLst)])]).bind retPV).bind fun r1 =>
                (bif (Sh.int .i64).fits r1 then
                  L94_111014 (bif decide ((IntKind.i64.wrap ((1 : Int) + (r1.toInt))) > (bif decide ((IntKind.i64.wrap ((1 : Int) + (r.toInt))) > i1) then (IntKind.i64.wrap ((1 : Int) + (r.toInt))) else i1)) then (IntKind.i64.wrap ((1 : Int) + (r1.toInt))) else (bif decide ((IntKind.i64.wrap ((1 : Int) + (r.toInt))) > i1) then (IntKind.i64.wrap ((1 : Int) + (r.toInt))) else i1)) e_Arms (IntKind.i64.wrap (i + (1 : Int)))
                else none)
            else none)
        else none)
    else none
  else some (.pv (.int .i64 i1), []) :=
  (LV_eq pa 94 _ _).trans (f94_111014 i1 e_Arms i V (LV Pr T 94))
/-! 96 roadstead/roadref2.NeedsOf -/
def st96_101416 (e_Kind : Int) (b : Bool) (e_Num : Int) (e_Text : List UInt8) (e_Names : List PV) (e_Types : List PV) (e_Args : List PV) (e_Arms : List PV) (e_At : Int) : AS :=
  ⟨[.any, .box 0 0, .any, .any, .pv (.int .i64 e_Kind), .pv (.bool b), .any, .any, .any, .any, .any, .any, .any, .any, .any, .any, .any, .any, .any, .any, .any, .any, .any, .any, .any, .any, .any, .any, .any, .any, .any, .any, .any, .any, .any, .any, .any, .any, .any, .any, .any, .any, .any, .any, .any, .any, .any], ⟨[(false, [.pv (.int .i64 e_Kind), .pv (.int .i64 e_Num), .pv (.str e_Text), .pv (.lst e_Names), .pv (.lst e_Types), .pv (.lst e_Args), .pv (.lst e_Arms), .pv (.int .i64 e_At)])], [], [], 0, 0⟩⟩
noncomputable def L96_101416 (e_Kind : Int) (b : Bool) (e_Num : Int) (e_Text : List UInt8) (e_Names : List PV) (e_Types : List PV) (e_Args : List PV) (e_Arms : List PV) (e_At : Int) : Option Out := LV Pr T 96 [1, 0, 1, 4, 1, 6] (st96_101416 e_Kind b e_Num e_Text e_Names e_Types e_Args e_Arms e_At)
def st96_10141316 (e_Kind : Int) (b : Bool) (e_Num : Int) (e_Text : List UInt8) (e_Names : List PV) (e_Types : List PV) (e_Args : List PV) (e_Arms : List PV) (e_At : Int) : AS :=
  ⟨[.any, .box 0 0, .any, .any, .pv (.int .i64 e_Kind), .any, .any, .any, .any, .any, .any, .any, .pv (.bool b), .any, .any, .any, .any, .any, .any, .any, .any, .any, .any, .any, .any, .any, .any, .any, .any, .any, .any, .any, .any, .any, .any, .any, .any, .any, .any, .any, .any, .any, .any, .any, .any, .any, .any], ⟨[(false, [.pv (.int .i64 e_Kind), .pv (.int .i64 e_Num), .pv (.str e_Text), .pv (.lst e_Names), .pv (.lst e_Types), .pv (.lst e_Args), .pv (.lst e_Arms), .pv (.int .i64 e_At)])], [], [], 0, 0⟩⟩
noncomputable def L96_10141316 (e_Kind : Int) (b : Bool) (e_Num : Int) (e_Text : List UInt8) (e_Names : List PV) (e_Types : List PV) (e_Args : List PV) (e_Arms : List PV) (e_At : Int) : Option Out := LV Pr T 96 [1, 0, 1, 4, 1, 3, 1, 6] (st96_10141316 e_Kind b e_Num e_Text e_Names e_Types e_Args e_Arms e_At)
def st96_1014131316 (e_Kind : Int) (b : Bool) (e_Num : Int) (e_Text : List UInt8) (e_Names : List PV) (e_Types : List PV) (e_Args : List PV) (e_Arms : List PV) (e_At : Int) : AS :=
  ⟨[.any, .box 0 0, .any, .any, .pv (.int .i64 e_Kind), .any, .any, .any, .any, .any, .any, .any, .any, .any, .any, .any, .any, .any, .any, .any, .any, .pv (.bool b), .any, .any, .any, .any, .any, .any, .any, .any, .any, .any, .any, .any, .any, .any, .any, .any, .any, .any, .any, .any, .any, .any, .any, .any, .any], ⟨[(false, [.pv (.int .i64 e_Kind), .pv (.int .i64 e_Num), .pv (.str e_Text), .pv (.lst e_Names), .pv (.lst e_Types), .pv (.lst e_Args), .pv (.lst e_Arms), .pv (.int .i64 e_At)])], [], [], 0, 0⟩⟩
noncomputable def L96_1014131316 (e_Kind : Int) (b : Bool) (e_Num : Int) (e_Text : List UInt8) (e_Names : List PV) (e_Types : List PV) (e_Args : List PV) (e_Arms : List PV) (e_At : Int) : Option Out := LV Pr T 96 [1, 0, 1, 4, 1, 3, 1, 3, 1, 6] (st96_1014131316 e_Kind b e_Num e_Text e_Names e_Types e_Args e_Arms e_At)
def st96_1014131313131316 (e_Kind : Int) (b : Bool) (e_Num : Int) (e_Text : List UInt8) (e_Names : List PV) (e_Types : List PV) (e_Args : List PV) (e_Arms : List PV) (e_At : Int) : AS :=
  ⟨[.any, .box 0 0, .any, .any, .pv (.int .i64 e_Kind), .any, .any, .any, .any, .any, .any, .any, .any, .any, .any, .any, .any, .any, .any, .any, .any, .any, .any, .any, .any, .any, .any, .any, .any, .any, .any, .any, .pv (.bool b), .any, .any, .any, .any, .any, .any, .any, .any, .any, .any, .any, .any, .any, .any], ⟨[(false, [.pv (.int .i64 e_Kind), .pv (.int .i64 e_Num), .pv (.str e_Text), .pv (.lst e_Names), .pv (.lst e_Types), .pv (.lst e_Args), .pv (.lst e_Arms), .pv (.int .i64 e_At)])], [], [], 0, 0⟩⟩
noncomputable def L96_1014131313131316 (e_Kind : Int) (b : Bool) (e_Num : Int) (e_Text : List UInt8) (e_Names : List PV) (e_Types : List PV) (e_Args : List PV) (e_Arms : List PV) (e_At : Int) : Option Out := LV Pr T 96 [1, 0, 1, 4, 1, 3, 1, 3, 1, 3, 1, 3, 1, 3, 1, 6] (st96_1014131313131316 e_Kind b e_Num e_Text e_Names e_Types e_Args e_Arms e_At)
theorem f96 (e_Kind : Int) (e_Num : Int) (e_Text : List UInt8) (e_Names : List PV) (e_Types : List PV) (e_Args : List PV) (e_Arms : List PV) (e_At : Int) (cl_ : FuncId → List Arg → Option Out) (lp_ : List Nat → AS → Option Out) : runW Pr T cl_ lp_ 96 [.pv (.agg [.int .i64 e_Kind, .int .i64 e_Num, .str e_Text, .lst e_Names, .lst e_Types, .lst e_Args, .lst e_Arms, .int .i64 e_At])] =
  bif (e_Kind == (1 : Int)) then
    lp_ [1, 0, 1, 4, 1, 6] (st96_101416 e_Kind (e_Kind == (1 : Int)) e_Num e_Text e_Names e_Types e_Args e_Arms e_At)
  else bif (e_Kind == (2 : Int)) then
    lp_ [1, 0, 1, 4, 1, 6] (st96_101416 e_Kind (e_Kind == (2 : Int)) e_Num e_Text e_Names e_Types e_Args e_Arms e_At)
  else bif (e_Kind == (3 : Int)) then
    lp_ [1, 0, 1, 4, 1, 6] (st96_101416 e_Kind (e_Kind == (3 : Int)) e_Num e_Text e_Names e_Types e_Args e_Arms e_At)
  else bif (e_Kind == (4 : Int)) then
    lp_ [1, 0, 1, 4, 1, 6] (st96_101416 e_Kind (e_Kind == (4 : Int)) e_Num e_Text e_Names e_Types e_Args e_Arms e_At)
  else bif (e_Kind == (5 : Int)) then
    lp_ [1, 0, 1, 4, 1, 6] (st96_101416 e_Kind (e_Kind == (5 : Int)) e_Num e_Text e_Names e_Types e_Args e_Arms e_At)
  else lp_ [1, 0, 1, 4, 1, 6] (st96_101416 e_Kind (e_Kind == (16 : Int)) e_Num e_Text e_Names e_Types e_Args e_Arms e_At) := by kernel_rfl
theorem e96 (e_Kind : Int) (e_Num : Int) (e_Text : List UInt8) (e_Names : List PV) (e_Types : List PV) (e_Args : List PV) (e_Arms : List PV) (e_At : Int) : V 96 [.pv (.agg [.int .i64 e_Kind, .int .i64 e_Num, .str e_Text, .lst e_Names, .lst e_Types, .lst e_Args, .lst e_Arms, .int .i64 e_At])] =
  bif (e_Kind == (1 : Int)) then
    L96_101416 e_Kind (e_Kind == (1 : Int)) e_Num e_Text e_Names e_Types e_Args e_Arms e_At
  else bif (e_Kind == (2 : Int)) then
    L96_101416 e_Kind (e_Kind == (2 : Int)) e_Num e_Text e_Names e_Types e_Args e_Arms e_At
  else bif (e_Kind == (3 : Int)) then
    L96_101416 e_Kind (e_Kind == (3 : Int)) e_Num e_Text e_Names e_Types e_Args e_Arms e_At
  else bif (e_Kind == (4 : Int)) then
    L96_101416 e_Kind (e_Kind == (4 : Int)) e_Num e_Text e_Names e_Types e_Args e_Arms e_At
  else bif (e_Kind == (5 : Int)) then
    L96_101416 e_Kind (e_Kind == (5 : Int)) e_Num e_Text e_Names e_Types e_Args e_Arms e_At
  else L96_101416 e_Kind (e_Kind == (16 : Int)) e_Num e_Text e_Names e_Types e_Args e_Arms e_At :=
  (V_eq pa rfl _).trans (f96 e_Kind e_Num e_Text e_Names e_Types e_Args e_Arms e_At V (LV Pr T 96))
theorem f96_101416 (e_Kind : Int) (b : Bool) (e_Num : Int) (e_Text : List UInt8) (e_Names : List PV) (e_Types : List PV) (e_Args : List PV) (e_Arms : List PV) (e_At : Int) (cl_ : FuncId → List Arg → Option Out) (lp_ : List Nat → AS → Option Out) : stepW Pr T cl_ lp_ 96 [1, 0, 1, 4, 1, 6] (st96_101416 e_Kind b e_Num e_Text e_Names e_Types e_Args e_Arms e_At) =
  bif b then
    some (.pv (.int .i64 0), [])
  else bif (e_Kind == (10 : Int)) then
    lp_ [1, 0, 1, 4, 1, 3, 1, 6] (st96_10141316 e_Kind (e_Kind == (10 : Int)) e_Num e_Text e_Names e_Types e_Args e_Arms e_At)
  else bif (e_Kind == (13 : Int)) then
    lp_ [1, 0, 1, 4, 1, 3, 1, 6] (st96_10141316 e_Kind (e_Kind == (13 : Int)) e_Num e_Text e_Names e_Types e_Args e_Arms e_At)
  else bif (e_Kind == (19 : Int)) then
    lp_ [1, 0, 1, 4, 1, 3, 1, 6] (st96_10141316 e_Kind (e_Kind == (19 : Int)) e_Num e_Text e_Names e_Types e_Args e_Arms e_At)
  else bif (e_Kind == (20 : Int)) then
    lp_ [1, 0, 1, 4, 1, 3, 1, 6] (st96_10141316 e_Kind (e_Kind == (20 : Int)) e_Num e_Text e_Names e_Types e_Args e_Arms e_At)
  else bif (e_Kind == (21 : Int)) then
    lp_ [1, 0, 1, 4, 1, 3, 1, 6] (st96_10141316 e_Kind (e_Kind == (21 : Int)) e_Num e_Text e_Names e_Types e_Args e_Arms e_At)
  else bif (e_Kind == (22 : Int)) then
    lp_ [1, 0, 1, 4, 1, 3, 1, 6] (st96_10141316 e_Kind (e_Kind == (22 : Int)) e_Num e_Text e_Names e_Types e_Args e_Arms e_At)
  else bif (e_Kind == (24 : Int)) then
    lp_ [1, 0, 1, 4, 1, 3, 1, 6] (st96_10141316 e_Kind (e_Kind == (24 : Int)) e_Num e_Text e_Names e_Types e_Args e_Arms e_At)
  else lp_ [1, 0, 1, 4, 1, 3, 1, 6] (st96_10141316 e_Kind (e_Kind == (25 : Int)) e_Num e_Text e_Names e_Types e_Args e_Arms e_At) := by kernel_rfl
theorem e96_101416 (e_Kind : Int) (b : Bool) (e_Num : Int) (e_Text : List UInt8) (e_Names : List PV) (e_Types : List PV) (e_Args : List PV) (e_Arms : List PV) (e_At : Int) : L96_101416 e_Kind b e_Num e_Text e_Names e_Types e_Args e_Arms e_At =
  bif b then
    some (.pv (.int .i64 0), [])
  else bif (e_Kind == (10 : Int)) then
    L96_10141316 e_Kind (e_Kind == (10 : Int)) e_Num e_Text e_Names e_Types e_Args e_Arms e_At
  else bif (e_Kind == (13 : Int)) then
    L96_10141316 e_Kind (e_Kind == (13 : Int)) e_Num e_Text e_Names e_Types e_Args e_Arms e_At
  else bif (e_Kind == (19 : Int)) then
    L96_10141316 e_Kind (e_Kind == (19 : Int)) e_Num e_Text e_Names e_Types e_Args e_Arms e_At
  else bif (e_Kind == (20 : Int)) then
    L96_10141316 e_Kind (e_Kind == (20 : Int)) e_Num e_Text e_Names e_Types e_Args e_Arms e_At
  else bif (e_Kind == (21 : Int)) then
    L96_10141316 e_Kind (e_Kind == (21 : Int)) e_Num e_Text e_Names e_Types e_Args e_Arms e_At
  else bif (e_Kind == (22 : Int)) then
    L96_10141316 e_Kind (e_Kind == (22 : Int)) e_Num e_Text e_Names e_Types e_Args e_Arms e_At
  else bif (e_Kind == (24 : Int)) then
    L96_10141316 e_Kind (e_Kind == (24 : Int)) e_Num e_Text e_Names e_Types e_Args e_Arms e_At
  else L96_10141316 e_Kind (e_Kind == (25 : Int)) e_Num e_Text e_Names e_Types e_Args e_Arms e_At :=
  (LV_eq pa 96 _ _).trans (f96_101416 e_Kind b e_Num e_Text e_Names e_Types e_Args e_Arms e_At V (LV Pr T 96))
theorem f96_10141316 (e_Kind : Int) (b : Bool) (e_Num : Int) (e_Text : List UInt8) (e_Names : List PV) (e_Types : List PV) (e_Args : List PV) (e_Arms : List PV) (e_At : Int) (cl_ : FuncId → List Arg → Option Out) (lp_ : List Nat → AS → Option Out) : stepW Pr T cl_ lp_ 96 [1, 0, 1, 4, 1, 3, 1, 6] (st96_10141316 e_Kind b e_Num e_Text e_Names e_Types e_Args e_Arms e_At) =
  bif b then
    some (.pv (.int .i64 1), [])
  else bif (e_Kind == (6 : Int)) then
    lp_ [1, 0, 1, 4, 1, 3, 1, 3, 1, 6] (st96_1014131316 e_Kind (e_Kind == (6 : Int)) e_Num e_Text e_Names e_Types e_Args e_Arms e_At)
  else bif (e_Kind == (15 : Int)) then
    lp_ [1, 0, 1, 4, 1, 3, 1, 3, 1, 6] (st96_1014131316 e_Kind (e_Kind == (15 : Int)) e_Num e_Text e_Names e_Types e_Args e_Arms e_At)
  else lp_ [1, 0, 1, 4, 1, 3, 1, 3, 1, 6] (st96_1014131316 e_Kind (e_Kind == (23 : Int)) e_Num e_Text e_Names e_Types e_Args e_Arms e_At) := by kernel_rfl
theorem e96_10141316 (e_Kind : Int) (b : Bool) (e_Num : Int) (e_Text : List UInt8) (e_Names : List PV) (e_Types : List PV) (e_Args : List PV) (e_Arms : List PV) (e_At : Int) : L96_10141316 e_Kind b e_Num e_Text e_Names e_Types e_Args e_Arms e_At =
  bif b then
    some (.pv (.int .i64 1), [])
  else bif (e_Kind == (6 : Int)) then
    L96_1014131316 e_Kind (e_Kind == (6 : Int)) e_Num e_Text e_Names e_Types e_Args e_Arms e_At
  else bif (e_Kind == (15 : Int)) then
    L96_1014131316 e_Kind (e_Kind == (15 : Int)) e_Num e_Text e_Names e_Types e_Args e_Arms e_At
  else L96_1014131316 e_Kind (e_Kind == (23 : Int)) e_Num e_Text e_Names e_Types e_Args e_Arms e_At :=
  (LV_eq pa 96 _ _).trans (f96_10141316 e_Kind b e_Num e_Text e_Names e_Types e_Args e_Arms e_At V (LV Pr T 96))
theorem f96_1014131316 (e_Kind : Int) (b : Bool) (e_Num : Int) (e_Text : List UInt8) (e_Names : List PV) (e_Types : List PV) (e_Args : List PV) (e_Arms : List PV) (e_At : Int) (cl_ : FuncId → List Arg → Option Out) (lp_ : List Nat → AS → Option Out) : stepW Pr T cl_ lp_ 96 [1, 0, 1, 4, 1, 3, 1, 3, 1, 6] (st96_1014131316 e_Kind b e_Num e_Text e_Names e_Types e_Args e_Arms e_At) =
  bif b then
    some (.pv (.int .i64 2), [])
  else bif (e_Kind == (7 : Int)) then
    some (.pv (.int .i64 3), [])
  else bif (e_Kind == (18 : Int)) then
    bif decide (e_Num < (0 : Int)) then
      some (.pv (.int .i64 0), [])
    else some (.pv (.int .i64 1), [])
  else bif (e_Kind == (8 : Int)) then
    lp_ [1, 0, 1, 4, 1, 3, 1, 3, 1, 3, 1, 3, 1, 3, 1, 6] (st96_1014131313131316 e_Kind (e_Kind == (8 : Int)) e_Num e_Text e_Names e_Types e_Args e_Arms e_At)
  else bif (e_Kind == (9 : Int)) then
    lp_ [1, 0, 1, 4, 1, 3, 1, 3, 1, 3, 1, 3, 1, 3, 1, 6] (st96_1014131313131316 e_Kind (e_Kind == (9 : Int)) e_Num e_Text e_Names e_Types e_Args e_Arms e_At)
  else bif (e_Kind == (12 : Int)) then
    lp_ [1, 0, 1, 4, 1, 3, 1, 3, 1, 3, 1, 3, 1, 3, 1, 6] (st96_1014131313131316 e_Kind (e_Kind == (12 : Int)) e_Num e_Text e_Names e_Types e_Args e_Arms e_At)
  else bif (e_Kind == (14 : Int)) then
    lp_ [1, 0, 1, 4, 1, 3, 1, 3, 1, 3, 1, 3, 1, 3, 1, 6] (st96_1014131313131316 e_Kind (e_Kind == (14 : Int)) e_Num e_Text e_Names e_Types e_Args e_Arms e_At)
  else lp_ [1, 0, 1, 4, 1, 3, 1, 3, 1, 3, 1, 3, 1, 3, 1, 6] (st96_1014131313131316 e_Kind (e_Kind == (17 : Int)) e_Num e_Text e_Names e_Types e_Args e_Arms e_At) := by kernel_rfl
theorem e96_1014131316 (e_Kind : Int) (b : Bool) (e_Num : Int) (e_Text : List UInt8) (e_Names : List PV) (e_Types : List PV) (e_Args : List PV) (e_Arms : List PV) (e_At : Int) : L96_1014131316 e_Kind b e_Num e_Text e_Names e_Types e_Args e_Arms e_At =
  bif b then
    some (.pv (.int .i64 2), [])
  else bif (e_Kind == (7 : Int)) then
    some (.pv (.int .i64 3), [])
  else bif (e_Kind == (18 : Int)) then
    bif decide (e_Num < (0 : Int)) then
      some (.pv (.int .i64 0), [])
    else some (.pv (.int .i64 1), [])
  else bif (e_Kind == (8 : Int)) then
    L96_1014131313131316 e_Kind (e_Kind == (8 : Int)) e_Num e_Text e_Names e_Types e_Args e_Arms e_At
  else bif (e_Kind == (9 : Int)) then
    L96_1014131313131316 e_Kind (e_Kind == (9 : Int)) e_Num e_Text e_Names e_Types e_Args e_Arms e_At
  else bif (e_Kind == (12 : Int)) then
    L96_1014131313131316 e_Kind (e_Kind == (12 : Int)) e_Num e_Text e_Names e_Types e_Args e_Arms e_At
  else bif (e_Kind == (14 : Int)) then
    L96_1014131313131316 e_Kind (e_Kind == (14 : Int)) e_Num e_Text e_Names e_Types e_Args e_Arms e_At
  else L96_1014131313131316 e_Kind (e_Kind == (17 : Int)) e_Num e_Text e_Names e_Types e_Args e_Arms e_At :=
  (LV_eq pa 96 _ _).trans (f96_1014131316 e_Kind b e_Num e_Text e_Names e_Types e_Args e_Arms e_At V (LV Pr T 96))
theorem f96_1014131313131316 (e_Kind : Int) (b : Bool) (e_Num : Int) (e_Text : List UInt8) (e_Names : List PV) (e_Types : List PV) (e_Args : List PV) (e_Arms : List PV) (e_At : Int) (cl_ : FuncId → List Arg → Option Out) (lp_ : List Nat → AS → Option Out) : stepW Pr T cl_ lp_ 96 [1, 0, 1, 4, 1, 3, 1, 3, 1, 3, 1, 3, 1, 3, 1, 6] (st96_1014131313131316 e_Kind b e_Num e_Text e_Names e_Types e_Args e_Arms e_At) =
  bif b then
    some (.pv (.int .i64 (e_Args.length : Int)), [])
  else bif (e_Kind == (11 : Int)) then
    some (.pv (.int .i64 (bif decide ((e_Args.length : Int) > (1 : Int)) then (e_Args.length : Int) else (1 : Int))), [])
  else some (.pv (.int .i64 (-1)), []) := by kernel_rfl
theorem e96_1014131313131316 (e_Kind : Int) (b : Bool) (e_Num : Int) (e_Text : List UInt8) (e_Names : List PV) (e_Types : List PV) (e_Args : List PV) (e_Arms : List PV) (e_At : Int) : L96_1014131313131316 e_Kind b e_Num e_Text e_Names e_Types e_Args e_Arms e_At =
  bif b then
    some (.pv (.int .i64 (e_Args.length : Int)), [])
  else bif (e_Kind == (11 : Int)) then
    some (.pv (.int .i64 (bif decide ((e_Args.length : Int) > (1 : Int)) then (e_Args.length : Int) else (1 : Int))), [])
  else some (.pv (.int .i64 (-1)), []) :=
  (LV_eq pa 96 _ _).trans (f96_1014131313131316 e_Kind b e_Num e_Text e_Names e_Types e_Args e_Arms e_At V (LV Pr T 96))
/-! 97 roadstead/roadref2.NamesOf -/
def st97_11101214 (l : List PV) (p_Args : List PV) (i : Int) : AS :=
  ⟨[.any, .any, .any, .bld 0 0 l, .any, .any, .any, .any, .any, .any, .any, .any, .any, .any, .any, .any, .pv (.lst p_Args), .pv (.int .i64 (p_Args.length : Int)), .pv (.int .i64 i), .any, .any, .any, .any, .any, .any, .any, .any, .any], ⟨[], [], [(0, 1)], 0, 0⟩⟩
noncomputable def L97_11101214 (l : List PV) (p_Args : List PV) (i : Int) : Option Out := LV Pr T 97 [1, 1, 1, 0, 1, 2, 1, 4] (st97_11101214 l p_Args i)
theorem f97 (p_Kind : Int) (p_Num : Int) (p_Text : List UInt8) (p_Args : List PV) (cl_ : FuncId → List Arg → Option Out) (lp_ : List Nat → AS → Option Out) : runW Pr T cl_ lp_ 97 [.pv (.agg [.int .i64 p_Kind, .int .i64 p_Num, .str p_Text, .lst p_Args])] =
  bif (p_Kind == (2 : Int)) then
    some (.pv (.lst [.str p_Text]), [])
  else bif (p_Kind == (6 : Int)) then
    lp_ [1, 1, 1, 0, 1, 2, 1, 4] (st97_11101214 [] p_Args 0)
  else some (.bld 1 [], []) := by kernel_rfl
theorem e97 (p_Kind : Int) (p_Num : Int) (p_Text : List UInt8) (p_Args : List PV) : V 97 [.pv (.agg [.int .i64 p_Kind, .int .i64 p_Num, .str p_Text, .lst p_Args])] =
  bif (p_Kind == (2 : Int)) then
    some (.pv (.lst [.str p_Text]), [])
  else bif (p_Kind == (6 : Int)) then
    L97_11101214 [] p_Args 0
  else some (.bld 1 [], []) :=
  (V_eq pa rfl _).trans (f97 p_Kind p_Num p_Text p_Args V (LV Pr T 97))
theorem f97_11101214 (l : List PV) (p_Args : List PV) (i : Int) (cl_ : FuncId → List Arg → Option Out) (lp_ : List Nat → AS → Option Out) : stepW Pr T cl_ lp_ 97 [1, 1, 1, 0, 1, 2, 1, 4] (st97_11101214 l p_Args i) =
  bif decide (i < (p_Args.length : Int)) then
    bif decide (0 ≤ i) then
      (p_Args[i.toNat]?).bind fun x =>
        (bif (Sh.agg [Sh.int .i64, Sh.int .i64, Sh.str, Sh.lst]).fits x then
          ((cl_ 97 [.pv (.agg [.int .i64 ((x.c 0).toInt), .int .i64 ((x.c 1).toInt), .str ((x.c 2).toStr), .lst ((x.c 3).toLst)])]).bind retPV).bind fun r =>
            (bif (Sh.lst).fits r then
              bif headOk 1 r.toLst then
                bif small (l.length) (r.toLst.length) 16 then
                  lp_ [1, 1, 1, 0, 1, 2, 1, 4] (st97_11101214 (l ++ r.toLst) p_Args (IntKind.i64.wrap (i + (1 : Int))))
                else none
              else none
            else none)
        else none)
    else none
  else some (.bld 1 l, []) := by kernel_rfl
theorem e97_11101214 (l : List PV) (p_Args : List PV) (i : Int) : L97_11101214 l p_Args i =
  bif decide (i < (p_Args.length : Int)) then
    bif decide (0 ≤ i) then
      (p_Args[i.toNat]?).bind fun x =>
        (bif (Sh.agg [Sh.int .i64, Sh.int .i64, Sh.str, Sh.lst]).fits x then
          ((V 97 [.pv (.agg [.int .i64 ((x.c 0).toInt), .int .i64 ((x.c 1).toInt), .str ((x.c 2).toStr), .lst ((x.c 3).toLst)])]).bind retPV).bind fun r =>
            (bif (Sh.lst).fits r then
              bif headOk 1 r.toLst then
                bif small (l.length) (r.toLst.length) 16 then
                  L97_11101214 (l ++ r.toLst) p_Args (IntKind.i64.wrap (i + (1 : Int)))
                else none
              else none
            else none)
        else none)
    else none
  else some (.bld 1 l, []) :=
  (LV_eq pa 97 _ _).trans (f97_11101214 l p_Args i V (LV Pr T 97))
/-! 98 roadstead/roadref2.All -/
def st98_11104 (l : List PV) (l2 : List PV) : AS :=
  ⟨[.any, .any, .any, .vec 0 0, .bld 0 0 l, .any, .any, .any, .any, .any, .any, .any, .any, .any, .any, .any, .any, .any, .any, .any, .any, .any, .any, .any, .any, .any, .any, .any, .any, .any, .any, .any, .any, .any, .any, .any, .any, .any, .any, .any, .any, .any, .any, .any, .any, .any, .any, .any, .any, .any, .any, .any, .any, .any, .any, .any, .any, .any, .any, .any, .any, .any], ⟨[], [some (0, 8, l2)], [(0, 8)], 0, 0⟩⟩
noncomputable def L98_11104 (l : List PV) (l2 : List PV) : Option Out := LV Pr T 98 [1, 1, 1, 0, 4] (st98_11104 l l2)
def st98_11104514111014 (l1 : List PV) (i : Int) (e_Kind : Int) (e_Num : Int) (e_Text : List UInt8) (e_Names : List PV) (e_Types : List PV) (e_Args : List PV) (e_Arms : List PV) (e_At : Int) (l : List PV) : AS :=
  ⟨[.any, .any, .any, .vec 0 0, .bld 0 0 l1, .box 0 0, .pv (.int .i64 i), .any, .any, .any, .any, .any, .any, .any, .any, .any, .any, .any, .any, .any, .any, .any, .any, .any, .any, .any, .any, .any, .any, .any, .any, .any, .any, .any, .any, .any, .any, .any, .any, .any, .any, .any, .any, .any, .any, .any, .any, .any, .any, .any, .any, .any, .any, .any, .any, .any, .any, .any, .any, .any, .any, .any], ⟨[(false, [.pv (.int .i64 e_Kind), .pv (.int .i64 e_Num), .pv (.str e_Text), .pv (.lst e_Names), .pv (.lst e_Types), .pv (.lst e_Args), .pv (.lst e_Arms), .pv (.int .i64 e_At)])], [some (0, 8, l)], [(0, 8)], 0, 0⟩⟩
noncomputable def L98_11104514111014 (l1 : List PV) (i : Int) (e_Kind : Int) (e_Num : Int) (e_Text : List UInt8) (e_Names : List PV) (e_Types : List PV) (e_Args : List PV) (e_Arms : List PV) (e_At : Int) (l : List PV) : Option Out := LV Pr T 98 [1, 1, 1, 0, 4, 5, 1, 4, 1, 1, 1, 0, 1, 4] (st98_11104514111014 l1 i e_Kind e_Num e_Text e_Names e_Types e_Args e_Arms e_At l)
def st98_11104514111114 (l2 : List PV) (i : Int) (e_Kind : Int) (e_Num : Int) (e_Text : List UInt8) (e_Names : List PV) (e_Types : List PV) (e_Args : List PV) (e_Arms : List PV) (e_At : Int) (l1 : List PV) : AS :=
  ⟨[.any, .any, .any, .vec 0 0, .bld 0 0 l2, .box 0 0, .any, .pv (.int .i64 i), .any, .any, .any, .any, .any, .any, .any, .any, .any, .any, .any, .any, .any, .any, .any, .any, .any, .any, .any, .any, .any, .any, .any, .any, .any, .any, .any, .any, .any, .any, .any, .any, .any, .any, .any, .any, .any, .any, .any, .any, .any, .any, .any, .any, .any, .any, .any, .any, .any, .any, .any, .any, .any, .any], ⟨[(false, [.pv (.int .i64 e_Kind), .pv (.int .i64 e_Num), .pv (.str e_Text), .pv (.lst e_Names), .pv (.lst e_Types), .pv (.lst e_Args), .pv (.lst e_Arms), .pv (.int .i64 e_At)])], [some (0, 8, l1)], [(0, 8)], 0, 0⟩⟩
noncomputable def L98_11104514111114 (l2 : List PV) (i : Int) (e_Kind : Int) (e_Num : Int) (e_Text : List UInt8) (e_Names : List PV) (e_Types : List PV) (e_Args : List PV) (e_Arms : List PV) (e_At : Int) (l1 : List PV) : Option Out := LV Pr T 98 [1, 1, 1, 0, 4, 5, 1, 4, 1, 1, 1, 1, 1, 4] (st98_11104514111114 l2 i e_Kind e_Num e_Text e_Names e_Types e_Args e_Arms e_At l1)
theorem f98 (e_Kind : Int) (e_Num : Int) (e_Text : List UInt8) (e_Names : List PV) (e_Types : List PV) (e_Args : List PV) (e_Arms : List PV) (e_At : Int) (cl_ : FuncId → List Arg → Option Out) (lp_ : List Nat → AS → Option Out) : runW Pr T cl_ lp_ 98 [.pv (.agg [.int .i64 e_Kind, .int .i64 e_Num, .str e_Text, .lst e_Names, .lst e_Types, .lst e_Args, .lst e_Arms, .int .i64 e_At])] =
  lp_ [1, 1, 1, 0, 4] (st98_11104 [] [.agg [.int .i64 e_Kind, .int .i64 e_Num, .str e_Text, .lst e_Names, .lst e_Types, .lst e_Args, .lst e_Arms, .int .i64 e_At]]) := by kernel_rfl
theorem e98 (e_Kind : Int) (e_Num : Int) (e_Text : List UInt8) (e_Names : List PV) (e_Types : List PV) (e_Args : List PV) (e_Arms : List PV) (e_At : Int) : V 98 [.pv (.agg [.int .i64 e_Kind, .int .i64 e_Num, .str e_Text, .lst e_Names, .lst e_Types, .lst e_Args, .lst e_Arms, .int .i64 e_At])] =
  L98_11104 [] [.agg [.int .i64 e_Kind, .int .i64 e_Num, .str e_Text, .lst e_Names, .lst e_Types, .lst e_Args, .lst e_Arms, .int .i64 e_At]] :=
  (V_eq pa rfl _).trans (f98 e_Kind e_Num e_Text e_Names e_Types e_Args e_Arms e_At V (LV Pr T 98))
theorem f98_11104 (l : List PV) (l2 : List PV) (cl_ : FuncId → List Arg → Option Out) (lp_ : List Nat → AS → Option Out) : stepW Pr T cl_ lp_ 98 [1, 1, 1, 0, 4] (st98_11104 l l2) =
  bif decide ((l2.length : Int) > (0 : Int)) then
    bif (decide (0 ≤ (IntKind.i64.wrap ((l2.length : Int) - (1 : Int)))) && decide ((IntKind.i64.wrap ((l2.length : Int) - (1 : Int))) < (l2.length : Int))) then
      (l2[(IntKind.i64.wrap ((l2.length : Int) - (1 : Int))).toNat]?).bind fun y =>
        (bif (Sh.agg [Sh.int .i64, Sh.int .i64, Sh.str, Sh.lst, Sh.lst, Sh.lst, Sh.lst, Sh.int .i64]).fits y then
          bif (decide (0 ≤ (IntKind.i64.wrap ((l2.length : Int) - (1 : Int)))) && decide ((IntKind.i64.wrap ((l2.length : Int) - (1 : Int))) ≤ (l2.length : Int))) then
            bif small (l.length) 1 136 then
              lp_ [1, 1, 1, 0, 4, 5, 1, 4, 1, 1, 1, 0, 1, 4] (st98_11104514111014 (l ++ ([.agg [.int .i64 ((y.c 0).toInt), .int .i64 ((y.c 1).toInt), .str ((y.c 2).toStr), .lst ((y.c 3).toLst), .lst ((y.c 4).toLst), .lst ((y.c 5).toLst), .lst ((y.c 6).toLst), .int .i64 ((y.c 7).toInt)]] : List PV)) (IntKind.i64.wrap (((y.c 6).toLst.length : Int) - (1 : Int))) ((y.c 0).toInt) ((y.c 1).toInt) ((y.c 2).toStr) ((y.c 3).toLst) ((y.c 4).toLst) ((y.c 5).toLst) ((y.c 6).toLst) ((y.c 7).toInt) (l2.take (IntKind.i64.wrap ((l2.length : Int) - (1 : Int))).toNat))
            else none
          else none
        else none)
    else none
  else some (.bld 8 l, []) := by kernel_rfl
theorem e98_11104 (l : List PV) (l2 : List PV) : L98_11104 l l2 =
  bif decide ((l2.length : Int) > (0 : Int)) then
    bif (decide (0 ≤ (IntKind.i64.wrap ((l2.length : Int) - (1 : Int)))) && decide ((IntKind.i64.wrap ((l2.length : Int) - (1 : Int))) < (l2.length : Int))) then
      (l2[(IntKind.i64.wrap ((l2.length : Int) - (1 : Int))).toNat]?).bind fun y =>
        (bif (Sh.agg [Sh.int .i64, Sh.int .i64, Sh.str, Sh.lst, Sh.lst, Sh.lst, Sh.lst, Sh.int .i64]).fits y then
          bif (decide (0 ≤ (IntKind.i64.wrap ((l2.length : Int) - (1 : Int)))) && decide ((IntKind.i64.wrap ((l2.length : Int) - (1 : Int))) ≤ (l2.length : Int))) then
            bif small (l.length) 1 136 then
              L98_11104514111014 (l ++ ([.agg [.int .i64 ((y.c 0).toInt), .int .i64 ((y.c 1).toInt), .str ((y.c 2).toStr), .lst ((y.c 3).toLst), .lst ((y.c 4).toLst), .lst ((y.c 5).toLst), .lst ((y.c 6).toLst), .int .i64 ((y.c 7).toInt)]] : List PV)) (IntKind.i64.wrap (((y.c 6).toLst.length : Int) - (1 : Int))) ((y.c 0).toInt) ((y.c 1).toInt) ((y.c 2).toStr) ((y.c 3).toLst) ((y.c 4).toLst) ((y.c 5).toLst) ((y.c 6).toLst) ((y.c 7).toInt) (l2.take (IntKind.i64.wrap ((l2.length : Int) - (1 : Int))).toNat)
            else none
          else none
        else none)
    else none
  else some (.bld 8 l, []) :=
  (LV_eq pa 98 _ _).trans (f98_11104 l l2 V (LV Pr T 98))
theorem f98_11104514111014 (l1 : List PV) (i : Int) (e_Kind : Int) (e_Num : Int) (e_Text : List UInt8) (e_Names : List PV) (e_Types : List PV) (e_Args : List PV) (e_Arms : List PV) (e_At : Int) (l : List PV) (cl_ : FuncId → List Arg → Option Out) (lp_ : List Nat → AS → Option Out) : stepW Pr T cl_ lp_ 98 [1, 1, 1, 0, 4, 5, 1, 4, 1, 1, 1, 0, 1, 4] (st98_11104514111014 l1 i e_Kind e_Num e_Text e_Names e_Types e_Args e_Arms e_At l) =
  bif decide (i ≥ (0 : Int)) then
    bif decide (0 ≤ i) then
      (e_Arms[i.toNat]?).bind fun x =>
        (bif (Sh.agg [Sh.int .i64, Sh.int .i64, Sh.str, Sh.lst, Sh.int .i64, Sh.int .i64, Sh.str, Sh.lst, Sh.lst, Sh.lst, Sh.lst, Sh.int .i64]).fits x then
          bif small (l.length) 1 136 then
            lp_ [1, 1, 1, 0, 4, 5, 1, 4, 1, 1, 1, 0, 1, 4] (st98_11104514111014 l1 (IntKind.i64.wrap (i - (1 : Int))) e_Kind e_Num e_Text e_Names e_Types e_Args e_Arms e_At (l ++ ([.agg [.int .i64 ((x.c 4).toInt), .int .i64 ((x.c 5).toInt), .str ((x.c 6).toStr), .lst ((x.c 7).toLst), .lst ((x.c 8).toLst), .lst ((x.c 9).toLst), .lst ((x.c 10).toLst), .int .i64 ((x.c 11).toInt)]] : List PV)))
          else none
        else none)
    else none
  else lp_ [1, 1, 1, 0, 4, 5, 1, 4, 1, 1, 1, 1, 1, 4] (st98_11104514111114 l1 (IntKind.i64.wrap ((e_Args.length : Int) - (1 : Int))) e_Kind e_Num e_Text e_Names e_Types e_Args e_Arms e_At l) := by kernel_rfl
theorem e98_11104514111014 (l1 : List PV) (i : Int) (e_Kind : Int) (e_Num : Int) (e_Text : List UInt8) (e_Names : List PV) (e_Types : List PV) (e_Args : List PV) (e_Arms : List PV) (e_At : Int) (l : List PV) : L98_11104514111014 l1 i e_Kind e_Num e_Text e_Names e_Types e_Args e_Arms e_At l =
  bif decide (i ≥ (0 : Int)) then
    bif decide (0 ≤ i) then
      (e_Arms[i.toNat]?).bind fun x =>
        (bif (Sh.agg [Sh.int .i64, Sh.int .i64, Sh.str, Sh.lst, Sh.int .i64, Sh.int .i64, Sh.str, Sh.lst, Sh.lst, Sh.lst, Sh.lst, Sh.int .i64]).fits x then
          bif small (l.length) 1 136 then
            L98_11104514111014 l1 (IntKind.i64.wrap (i - (1 : Int))) e_Kind e_Num e_Text e_Names e_Types e_Args e_Arms e_At (l ++ ([.agg [.int .i64 ((x.c 4).toInt), .int .i64 ((x.c 5).toInt), .str ((x.c 6).toStr), .lst ((x.c 7).toLst), .lst ((x.c 8).toLst), .lst ((x.c 9).toLst), .lst ((x.c 10).toLst), .int .i64 ((x.c 11).toInt)]] : List PV))
          else none
        else none)
    else none
  else L98_11104514111114 l1 (IntKind.i64.wrap ((e_Args.length : Int) - (1 : Int))) e_Kind e_Num e_Text e_Names e_Types e_Args e_Arms e_At l :=
  (LV_eq pa 98 _ _).trans (f98_11104514111014 l1 i e_Kind e_Num e_Text e_Names e_Types e_Args e_Arms e_At l V (LV Pr T 98))
theorem f98_11104514111114 (l2 : List PV) (i : Int) (e_Kind : Int) (e_Num : Int) (e_Text : List UInt8) (e_Names : List PV) (e_Types : List PV) (e_Args : List PV) (e_Arms : List PV) (e_At : Int) (l1 : List PV) (cl_ : FuncId → List Arg → Option Out) (lp_ : List Nat → AS → Option Out) : stepW Pr T cl_ lp_ 98 [1, 1, 1, 0, 4, 5, 1, 4, 1, 1, 1, 1, 1, 4] (st98_11104514111114 l2 i e_Kind e_Num e_Text e_Names e_Types e_Args e_Arms e_At l1) =
  bif decide (i ≥ (0 : Int)) then
    bif decide (0 ≤ i) then
      (e_Args[i.toNat]?).bind fun x =>
        (bif (Sh.agg [Sh.int .i64, Sh.int .i64, Sh.str, Sh.lst, Sh.lst, Sh.lst, Sh.lst, Sh.int .i64]).fits x then
          bif small (l1.length) 1 136 then
            lp_ [1, 1, 1, 0, 4, 5, 1, 4, 1, 1, 1, 1, 1, 4] (st98_11104514111114 l2 (IntKind.i64.wrap (i - (1 : Int))) e_Kind e_Num e_Text e_Names e_Types e_Args e_Arms e_At (l1 ++ ([.agg [.int .i64 ((x.c 0).toInt), .int .i64 ((x.c 1).toInt), .str ((x.c 2).toStr), .lst ((x.c 3).toLst), .lst ((x.c 4).toLst), .lst ((x.c 5).toLst), .lst ((x.c 6).toLst), .int .i64 ((x.c 7).toInt)]] : List PV)))
          else none
        else none)
    else none
  else lp_ [1, 1, 1, 0, 4] (st98_11104 l2 l1) := by kernel_rfl
theorem e98_11104514111114 (l2 : List PV) (i : Int) (e_Kind : Int) (e_Num : Int) (e_Text : List UInt8) (e_Names : List PV) (e_Types : List PV) (e_Args : List PV) (e_Arms : List PV) (e_At : Int) (l1 : List PV) : L98_11104514111114 l2 i e_Kind e_Num e_Text e_Names e_Types e_Args e_Arms e_At l1 =
  bif decide (i ≥ (0 : Int)) then
    bif decide (0 ≤ i) then
      (e_Args[i.toNat]?).bind fun x =>
        (bif (Sh.agg [Sh.int .i64, Sh.int .i64, Sh.str, Sh.lst, Sh.lst, Sh.lst, Sh.lst, Sh.int .i64]).fits x then
          bif small (l1.length) 1 136 then
            L98_11104514111114 l2 (IntKind.i64.wrap (i - (1 : Int))) e_Kind e_Num e_Text e_Names e_Types e_Args e_Arms e_At (l1 ++ ([.agg [.int .i64 ((x.c 0).toInt), .int .i64 ((x.c 1).toInt), .str ((x.c 2).toStr), .lst ((x.c 3).toLst), .lst ((x.c 4).toLst), .lst ((x.c 5).toLst), .lst ((x.c 6).toLst), .int .i64 ((x.c 7).toInt)]] : List PV))
          else none
        else none)
    else none
  else L98_11104 l2 l1 :=
  (LV_eq pa 98 _ _).trans (f98_11104514111114 l2 i e_Kind e_Num e_Text e_Names e_Types e_Args e_Arms e_At l1 V (LV Pr T 98))
/-! 99 roadstead/roadref2.pats -/
def st99_11014 (l : List PV) (i : Int) : AS :=
  ⟨[.any, .any, .any, .bld 0 0 l, .pv (.int .i64 i), .any, .any, .any, .any, .any, .any, .any, .any, .any, .any, .any, .any, .any, .any, .any, .any], ⟨[], [], [(0, 4)], 0, 0⟩⟩
noncomputable def L99_11014 (l : List PV) (i : Int) : Option Out := LV Pr T 99 [1, 1, 0, 1, 4] (st99_11014 l i)
theorem f99 (p_Kind : Int) (p_Num : Int) (p_Text : List UInt8) (p_Args : List PV) (cl_ : FuncId → List Arg → Option Out) (lp_ : List Nat → AS → Option Out) : runW Pr T cl_ lp_ 99 [.pv (.agg [.int .i64 p_Kind, .int .i64 p_Num, .str p_Text, .lst p_Args])] =
  lp_ [1, 1, 0, 1, 4] (st99_11014 [.agg [.int .i64 p_Kind, .int .i64 p_Num, .str p_Text, .lst p_Args]] 0) := by kernel_rfl
theorem e99 (p_Kind : Int) (p_Num : Int) (p_Text : List UInt8) (p_Args : List PV) : V 99 [.pv (.agg [.int .i64 p_Kind, .int .i64 p_Num, .str p_Text, .lst p_Args])] =
  L99_11014 [.agg [.int .i64 p_Kind, .int .i64 p_Num, .str p_Text, .lst p_Args]] 0 :=
  (V_eq pa rfl _).trans (f99 p_Kind p_Num p_Text p_Args V (LV Pr T 99))
theorem f99_11014 (l : List PV) (i : Int) (cl_ : FuncId → List Arg → Option Out) (lp_ : List Nat → AS → Option Out) : stepW Pr T cl_ lp_ 99 [1, 1, 0, 1, 4] (st99_11014 l i) =
  bif decide (i < (l.length : Int)) then
    bif decide (0 ≤ i) then
      (l[i.toNat]?).bind fun x =>
        (bif (Sh.agg [Sh.int .i64, Sh.int .i64, Sh.str, Sh.lst]).fits x then
          bif headOk 4 (x.c 3).toLst then
            bif small (l.length) ((x.c 3).toLst.length) 56 then
              lp_ [1, 1, 0, 1, 4] (st99_11014 (l ++ (x.c 3).toLst) (IntKind.i64.wrap (i + (1 : Int))))
            else none
          else none
        else none)
    else none
  else some (.bld 4 l, []) := by kernel_rfl
theorem e99_11014 (l : List PV) (i : Int) : L99_11014 l i =
  bif decide (i < (l.length : Int)) then
    bif decide (0 ≤ i) then
      (l[i.toNat]?).bind fun x =>
        (bif (Sh.agg [Sh.int .i64, Sh.int .i64, Sh.str, Sh.lst]).fits x then
          bif headOk 4 (x.c 3).toLst then
            bif small (l.length) ((x.c 3).toLst.length) 56 then
              L99_11014 (l ++ (x.c 3).toLst) (IntKind.i64.wrap (i + (1 : Int)))
            else none
          else none
        else none)
    else none
  else some (.bld 4 l, []) :=
  (LV_eq pa 99 _ _).trans (f99_11014 l i V (LV Pr T 99))
/-! 103 roadstead/tree.Needs -/
def st103_101416 (e_Kind : Int) (b : Bool) (e_Num : Int) (e_Text : List UInt8) (e_Names : List PV) (e_Types : List PV) (e_Args : List PV) (e_Arms : List PV) (e_At : Int) : AS :=
  ⟨[.any, .box 0 0, .any, .any, .pv (.int .i64 e_Kind), .pv (.bool b), .any, .any, .any, .any, .any, .any, .any, .any, .any, .any, .any, .any, .any, .any, .any, .any, .any, .any, .any, .any, .any, .any, .any, .any, .any, .any, .any, .any, .any, .any, .any, .any, .any, .any, .any, .any, .any, .any, .any, .any, .any], ⟨[(false, [.pv (.int .i64 e_Kind), .pv (.int .i64 e_Num), .pv (.str e_Text), .pv (.lst e_Names), .pv (.lst e_Types), .pv (.lst e_Args), .pv (.lst e_Arms), .pv (.int .i64 e_At)])], [], [], 0, 0⟩⟩
noncomputable def L103_101416 (e_Kind : Int) (b : Bool) (e_Num : Int) (e_Text : List UInt8) (e_Names : List PV) (e_Types : List PV) (e_Args : List PV) (e_Arms : List PV) (e_At : Int) : Option Out := LV Pr T 103 [1, 0, 1, 4, 1, 6] (st103_101416 e_Kind b e_Num e_Text e_Names e_Types e_Args e_Arms e_At)
def st103_10141316 (e_Kind : Int) (b : Bool) (e_Num : Int) (e_Text : List UInt8) (e_Names : List PV) (e_Types : List PV) (e_Args : List PV) (e_Arms : List PV) (e_At : Int) : AS :=
  ⟨[.any, .box 0 0, .any, .any, .pv (.int .i64 e_Kind), .any, .any, .any, .any, .any, .any, .any, .pv (.bool b), .any, .any, .any, .any, .any, .any, .any, .any, .any, .any, .any, .any, .any, .any, .any, .any, .any, .any, .any, .any, .any, .any, .any, .any, .any, .any, .any, .any, .any, .any, .any, .any, .any, .any], ⟨[(false, [.pv (.int .i64 e_Kind), .pv (.int .i64 e_Num), .pv (.str e_Text), .pv (.lst e_Names), .pv (.lst e_Types), .pv (.lst e_Args), .pv (.lst e_Arms), .pv (.int .i64 e_At)])], [], [], 0, 0⟩⟩
noncomputable def L103_10141316 (e_Kind : Int) (b : Bool) (e_Num : Int) (e_Text : List UInt8) (e_Names : List PV) (e_Types : List PV) (e_Args : List PV) (e_Arms : List PV) (e_At : Int) : Option Out := LV Pr T 103 [1, 0, 1, 4, 1, 3, 1, 6] (st103_10141316 e_Kind b e_Num e_Text e_Names e_Types e_Args e_Arms e_At)
def st103_101413131316 (e_Kind : Int) (b : Bool) (e_Num : Int) (e_Text : List UInt8) (e_Names : List PV) (e_Types : List PV) (e_Args : List PV) (e_Arms : List PV) (e_At : Int) : AS :=
  ⟨[.any, .box 0 0, .any, .any, .pv (.int .i64 e_Kind), .any, .any, .any, .any, .any, .any, .any, .any, .any, .any, .any, .any, .any, .pv (.bool b), .any, .any, .any, .any, .any, .any, .any, .any, .any, .any, .any, .any, .any, .any, .any, .any, .any, .any, .any, .any, .any, .any, .any, .any, .any, .any, .any, .any], ⟨[(false, [.pv (.int .i64 e_Kind), .pv (.int .i64 e_Num), .pv (.str e_Text), .pv (.lst e_Names), .pv (.lst e_Types), .pv (.lst e_Args), .pv (.lst e_Arms), .pv (.int .i64 e_At)])], [], [], 0, 0⟩⟩
noncomputable def L103_101413131316 (e_Kind : Int) (b : Bool) (e_Num : Int) (e_Text : List UInt8) (e_Names : List PV) (e_Types : List PV) (e_Args : List PV) (e_Arms : List PV) (e_At : Int) : Option Out := LV Pr T 103 [1, 0, 1, 4, 1, 3, 1, 3, 1, 3, 1, 6] (st103_101413131316 e_Kind b e_Num e_Text e_Names e_Types e_Args e_Arms e_At)
theorem f103 (e_Kind : Int) (e_Num : Int) (e_Text : List UInt8) (e_Names : List PV) (e_Types : List PV) (e_Args : List PV) (e_Arms : List PV) (e_At : Int) (cl_ : FuncId → List Arg → Option Out) (lp_ : List Nat → AS → Option Out) : runW Pr T cl_ lp_ 103 [.pv (.agg [.int .i64 e_Kind, .int .i64 e_Num, .str e_Text, .lst e_Names, .lst e_Types, .lst e_Args, .lst e_Arms, .int .i64 e_At])] =
  bif (e_Kind == (1 : Int)) then
    lp_ [1, 0, 1, 4, 1, 6] (st103_101416 e_Kind (e_Kind == (1 : Int)) e_Num e_Text e_Names e_Types e_Args e_Arms e_At)
  else bif (e_Kind == (2 : Int)) then
    lp_ [1, 0, 1, 4, 1, 6] (st103_101416 e_Kind (e_Kind == (2 : Int)) e_Num e_Text e_Names e_Types e_Args e_Arms e_At)
  else bif (e_Kind == (3 : Int)) then
    lp_ [1, 0, 1, 4, 1, 6] (st103_101416 e_Kind (e_Kind == (3 : Int)) e_Num e_Text e_Names e_Types e_Args e_Arms e_At)
  else bif (e_Kind == (4 : Int)) then
    lp_ [1, 0, 1, 4, 1, 6] (st103_101416 e_Kind (e_Kind == (4 : Int)) e_Num e_Text e_Names e_Types e_Args e_Arms e_At)
  else bif (e_Kind == (5 : Int)) then
    lp_ [1, 0, 1, 4, 1, 6] (st103_101416 e_Kind (e_Kind == (5 : Int)) e_Num e_Text e_Names e_Types e_Args e_Arms e_At)
  else lp_ [1, 0, 1, 4, 1, 6] (st103_101416 e_Kind (e_Kind == (16 : Int)) e_Num e_Text e_Names e_Types e_Args e_Arms e_At) := by kernel_rfl
theorem e103 (e_Kind : Int) (e_Num : Int) (e_Text : List UInt8) (e_Names : List PV) (e_Types : List PV) (e_Args : List PV) (e_Arms : List PV) (e_At : Int) : V 103 [.pv (.agg [.int .i64 e_Kind, .int .i64 e_Num, .str e_Text, .lst e_Names, .lst e_Types, .lst e_Args, .lst e_Arms, .int .i64 e_At])] =
  bif (e_Kind == (1 : Int)) then
    L103_101416 e_Kind (e_Kind == (1 : Int)) e_Num e_Text e_Names e_Types e_Args e_Arms e_At
  else bif (e_Kind == (2 : Int)) then
    L103_101416 e_Kind (e_Kind == (2 : Int)) e_Num e_Text e_Names e_Types e_Args e_Arms e_At
  else bif (e_Kind == (3 : Int)) then
    L103_101416 e_Kind (e_Kind == (3 : Int)) e_Num e_Text e_Names e_Types e_Args e_Arms e_At
  else bif (e_Kind == (4 : Int)) then
    L103_101416 e_Kind (e_Kind == (4 : Int)) e_Num e_Text e_Names e_Types e_Args e_Arms e_At
  else bif (e_Kind == (5 : Int)) then
    L103_101416 e_Kind (e_Kind == (5 : Int)) e_Num e_Text e_Names e_Types e_Args e_Arms e_At
  else L103_101416 e_Kind (e_Kind == (16 : Int)) e_Num e_Text e_Names e_Types e_Args e_Arms e_At :=
  (V_eq pa rfl _).trans (f103 e_Kind e_Num e_Text e_Names e_Types e_Args e_Arms e_At V (LV Pr T 103))
theorem f103_101416 (e_Kind : Int) (b : Bool) (e_Num : Int) (e_Text : List UInt8) (e_Names : List PV) (e_Types : List PV) (e_Args : List PV) (e_Arms : List PV) (e_At : Int) (cl_ : FuncId → List Arg → Option Out) (lp_ : List Nat → AS → Option Out) : stepW Pr T cl_ lp_ 103 [1, 0, 1, 4, 1, 6] (st103_101416 e_Kind b e_Num e_Text e_Names e_Types e_Args e_Arms e_At) =
  bif b then
    some (.pv (.int .i64 0), [])
  else bif (e_Kind == (6 : Int)) then
    lp_ [1, 0, 1, 4, 1, 3, 1, 6] (st103_10141316 e_Kind (e_Kind == (6 : Int)) e_Num e_Text e_Names e_Types e_Args e_Arms e_At)
  else bif (e_Kind == (15 : Int)) then
    lp_ [1, 0, 1, 4, 1, 3, 1, 6] (st103_10141316 e_Kind (e_Kind == (15 : Int)) e_Num e_Text e_Names e_Types e_Args e_Arms e_At)
  else lp_ [1, 0, 1, 4, 1, 3, 1, 6] (st103_10141316 e_Kind (e_Kind == (23 : Int)) e_Num e_Text e_Names e_Types e_Args e_Arms e_At) := by kernel_rfl
theorem e103_101416 (e_Kind : Int) (b : Bool) (e_Num : Int) (e_Text : List UInt8) (e_Names : List PV) (e_Types : List PV) (e_Args : List PV) (e_Arms : List PV) (e_At : Int) : L103_101416 e_Kind b e_Num e_Text e_Names e_Types e_Args e_Arms e_At =
  bif b then
    some (.pv (.int .i64 0), [])
  else bif (e_Kind == (6 : Int)) then
    L103_10141316 e_Kind (e_Kind == (6 : Int)) e_Num e_Text e_Names e_Types e_Args e_Arms e_At
  else bif (e_Kind == (15 : Int)) then
    L103_10141316 e_Kind (e_Kind == (15 : Int)) e_Num e_Text e_Names e_Types e_Args e_Arms e_At
  else L103_10141316 e_Kind (e_Kind == (23 : Int)) e_Num e_Text e_Names e_Types e_Args e_Arms e_At :=
  (LV_eq pa 103 _ _).trans (f103_101416 e_Kind b e_Num e_Text e_Names e_Types e_Args e_Arms e_At V (LV Pr T 103))
theorem f103_10141316 (e_Kind : Int) (b : Bool) (e_Num : Int) (e_Text : List UInt8) (e_Names : List PV) (e_Types : List PV) (e_Args : List PV) (e_Arms : List PV) (e_At : Int) (cl_ : FuncId → List Arg → Option Out) (lp_ : List Nat → AS → Option Out) : stepW Pr T cl_ lp_ 103 [1, 0, 1, 4, 1, 3, 1, 6] (st103_10141316 e_Kind b e_Num e_Text e_Names e_Types e_Args e_Arms e_At) =
  bif b then
    some (.pv (.int .i64 2), [])
  else bif (e_Kind == (7 : Int)) then
    some (.pv (.int .i64 3), [])
  else bif (e_Kind == (10 : Int)) then
    lp_ [1, 0, 1, 4, 1, 3, 1, 3, 1, 3, 1, 6] (st103_101413131316 e_Kind (e_Kind == (10 : Int)) e_Num e_Text e_Names e_Types e_Args e_Arms e_At)
  else bif (e_Kind == (13 : Int)) then
    lp_ [1, 0, 1, 4, 1, 3, 1, 3, 1, 3, 1, 6] (st103_101413131316 e_Kind (e_Kind == (13 : Int)) e_Num e_Text e_Names e_Types e_Args e_Arms e_At)
  else bif (e_Kind == (19 : Int)) then
    lp_ [1, 0, 1, 4, 1, 3, 1, 3, 1, 3, 1, 6] (st103_101413131316 e_Kind (e_Kind == (19 : Int)) e_Num e_Text e_Names e_Types e_Args e_Arms e_At)
  else bif (e_Kind == (20 : Int)) then
    lp_ [1, 0, 1, 4, 1, 3, 1, 3, 1, 3, 1, 6] (st103_101413131316 e_Kind (e_Kind == (20 : Int)) e_Num e_Text e_Names e_Types e_Args e_Arms e_At)
  else bif (e_Kind == (21 : Int)) then
    lp_ [1, 0, 1, 4, 1, 3, 1, 3, 1, 3, 1, 6] (st103_101413131316 e_Kind (e_Kind == (21 : Int)) e_Num e_Text e_Names e_Types e_Args e_Arms e_At)
  else bif (e_Kind == (22 : Int)) then
    lp_ [1, 0, 1, 4, 1, 3, 1, 3, 1, 3, 1, 6] (st103_101413131316 e_Kind (e_Kind == (22 : Int)) e_Num e_Text e_Names e_Types e_Args e_Arms e_At)
  else bif (e_Kind == (24 : Int)) then
    lp_ [1, 0, 1, 4, 1, 3, 1, 3, 1, 3, 1, 6] (st103_101413131316 e_Kind (e_Kind == (24 : Int)) e_Num e_Text e_Names e_Types e_Args e_Arms e_At)
  else lp_ [1, 0, 1, 4, 1, 3, 1, 3, 1, 3, 1, 6] (st103_101413131316 e_Kind (e_Kind == (25 : Int)) e_Num e_Text e_Names e_Types e_Args e_Arms e_At) := by kernel_rfl
theorem e103_10141316 (e_Kind : Int) (b : Bool) (e_Num : Int) (e_Text : List UInt8) (e_Names : List PV) (e_Types : List PV) (e_Args : List PV) (e_Arms : List PV) (e_At : Int) : L103_10141316 e_Kind b e_Num e_Text e_Names e_Types e_Args e_Arms e_At =
  bif b then
    some (.pv (.int .i64 2), [])
  else bif (e_Kind == (7 : Int)) then
    some (.pv (.int .i64 3), [])
  else bif (e_Kind == (10 : Int)) then
    L103_101413131316 e_Kind (e_Kind == (10 : Int)) e_Num e_Text e_Names e_Types e_Args e_Arms e_At
  else bif (e_Kind == (13 : Int)) then
    L103_101413131316 e_Kind (e_Kind == (13 : Int)) e_Num e_Text e_Names e_Types e_Args e_Arms e_At
  else bif (e_Kind == (19 : Int)) then
    L103_101413131316 e_Kind (e_Kind == (19 : Int)) e_Num e_Text e_Names e_Types e_Args e_Arms e_At
  else bif (e_Kind == (20 : Int)) then
    L103_101413131316 e_Kind (e_Kind == (20 : Int)) e_Num e_Text e_Names e_Types e_Args e_Arms e_At
  else bif (e_Kind == (21 : Int)) then
    L103_101413131316 e_Kind (e_Kind == (21 : Int)) e_Num e_Text e_Names e_Types e_Args e_Arms e_At
  else bif (e_Kind == (22 : Int)) then
    L103_101413131316 e_Kind (e_Kind == (22 : Int)) e_Num e_Text e_Names e_Types e_Args e_Arms e_At
  else bif (e_Kind == (24 : Int)) then
    L103_101413131316 e_Kind (e_Kind == (24 : Int)) e_Num e_Text e_Names e_Types e_Args e_Arms e_At
  else L103_101413131316 e_Kind (e_Kind == (25 : Int)) e_Num e_Text e_Names e_Types e_Args e_Arms e_At :=
  (LV_eq pa 103 _ _).trans (f103_10141316 e_Kind b e_Num e_Text e_Names e_Types e_Args e_Arms e_At V (LV Pr T 103))
theorem f103_101413131316 (e_Kind : Int) (b : Bool) (e_Num : Int) (e_Text : List UInt8) (e_Names : List PV) (e_Types : List PV) (e_Args : List PV) (e_Arms : List PV) (e_At : Int) (cl_ : FuncId → List Arg → Option Out) (lp_ : List Nat → AS → Option Out) : stepW Pr T cl_ lp_ 103 [1, 0, 1, 4, 1, 3, 1, 3, 1, 3, 1, 6] (st103_101413131316 e_Kind b e_Num e_Text e_Names e_Types e_Args e_Arms e_At) =
  bif b then
    some (.pv (.int .i64 1), [])
  else bif (e_Kind == (18 : Int)) then
    bif decide (e_Num ≥ (0 : Int)) then
      some (.pv (.int .i64 1), [])
    else some (.pv (.int .i64 0), [])
  else bif (e_Kind == (11 : Int)) then
    some (.pv (.int .i64 (bif decide ((e_Args.length : Int) > (1 : Int)) then (e_Args.length : Int) else (1 : Int))), [])
  else bif (e_Kind == (8 : Int)) then
    bif (e_Kind == (8 : Int)) then
      some (.pv (.int .i64 (e_Args.length : Int)), [])
    else some (.pv (.int .i64 (-1)), [])
  else bif (e_Kind == (9 : Int)) then
    bif (e_Kind == (9 : Int)) then
      some (.pv (.int .i64 (e_Args.length : Int)), [])
    else some (.pv (.int .i64 (-1)), [])
  else bif (e_Kind == (12 : Int)) then
    bif (e_Kind == (12 : Int)) then
      some (.pv (.int .i64 (e_Args.length : Int)), [])
    else some (.pv (.int .i64 (-1)), [])
  else bif (e_Kind == (14 : Int)) then
    bif (e_Kind == (14 : Int)) then
      some (.pv (.int .i64 (e_Args.length : Int)), [])
    else some (.pv (.int .i64 (-1)), [])
  else bif (e_Kind == (17 : Int)) then
    some (.pv (.int .i64 (e_Args.length : Int)), [])
  else some (.pv (.int .i64 (-1)), []) := by kernel_rfl
theorem e103_101413131316 (e_Kind : Int) (b : Bool) (e_Num : Int) (e_Text : List UInt8) (e_Names : List PV) (e_Types : List PV) (e_Args : List PV) (e_Arms : List PV) (e_At : Int) : L103_101413131316 e_Kind b e_Num e_Text e_Names e_Types e_Args e_Arms e_At =
  bif b then
    some (.pv (.int .i64 1), [])
  else bif (e_Kind == (18 : Int)) then
    bif decide (e_Num ≥ (0 : Int)) then
      some (.pv (.int .i64 1), [])
    else some (.pv (.int .i64 0), [])
  else bif (e_Kind == (11 : Int)) then
    some (.pv (.int .i64 (bif decide ((e_Args.length : Int) > (1 : Int)) then (e_Args.length : Int) else (1 : Int))), [])
  else bif (e_Kind == (8 : Int)) then
    bif (e_Kind == (8 : Int)) then
      some (.pv (.int .i64 (e_Args.length : Int)), [])
    else some (.pv (.int .i64 (-1)), [])
  else bif (e_Kind == (9 : Int)) then
    bif (e_Kind == (9 : Int)) then
      some (.pv (.int .i64 (e_Args.length : Int)), [])
    else some (.pv (.int .i64 (-1)), [])
  else bif (e_Kind == (12 : Int)) then
    bif (e_Kind == (12 : Int)) then
      some (.pv (.int .i64 (e_Args.length : Int)), [])
    else some (.pv (.int .i64 (-1)), [])
  else bif (e_Kind == (14 : Int)) then
    bif (e_Kind == (14 : Int)) then
      some (.pv (.int .i64 (e_Args.length : Int)), [])
    else some (.pv (.int .i64 (-1)), [])
  else bif (e_Kind == (17 : Int)) then
    some (.pv (.int .i64 (e_Args.length : Int)), [])
  else some (.pv (.int .i64 (-1)), []) :=
  (LV_eq pa 103 _ _).trans (f103_101413131316 e_Kind b e_Num e_Text e_Names e_Types e_Args e_Arms e_At V (LV Pr T 103))
/-! 118 roadstead/roadref2.height -/
def st118_11014 (i : Int) (p_Args : List PV) (i1 : Int) : AS :=
  ⟨[.any, .any, .any, .pv (.int .i64 i), .any, .any, .any, .pv (.lst p_Args), .pv (.int .i64 (p_Args.length : Int)), .pv (.int .i64 i1), .any, .any, .any, .any, .any, .any, .any, .any, .any, .any], ⟨[], [], [], 0, 0⟩⟩
noncomputable def L118_11014 (i : Int) (p_Args : List PV) (i1 : Int) : Option Out := LV Pr T 118 [1, 1, 0, 1, 4] (st118_11014 i p_Args i1)
theorem f118 (p_Kind : Int) (p_Num : Int) (p_Text : List UInt8) (p_Args : List PV) (cl_ : FuncId → List Arg → Option Out) (lp_ : List Nat → AS → Option Out) : runW Pr T cl_ lp_ 118 [.pv (.agg [.int .i64 p_Kind, .int .i64 p_Num, .str p_Text, .lst p_Args])] =
  lp_ [1, 1, 0, 1, 4] (st118_11014 1 p_Args 0) := by kernel_rfl
theorem e118 (p_Kind : Int) (p_Num : Int) (p_Text : List UInt8) (p_Args : List PV) : V 118 [.pv (.agg [.int .i64 p_Kind, .int .i64 p_Num, .str p_Text, .lst p_Args])] =
  L118_11014 1 p_Args 0 :=
  (V_eq pa rfl _).trans (f118 p_Kind p_Num p_Text p_Args V (LV Pr T 118))
theorem f118_11014 (i : Int) (p_Args : List PV) (i1 : Int) (cl_ : FuncId → List Arg → Option Out) (lp_ : List Nat → AS → Option Out) : stepW Pr T cl_ lp_ 118 [1, 1, 0, 1, 4] (st118_11014 i p_Args i1) =
  bif decide (i1 < (p_Args.length : Int)) then
    bif decide (0 ≤ i1) then
      (p_Args[i1.toNat]?).bind fun x =>
        (bif (Sh.agg [Sh.int .i64, Sh.int .i64, Sh.str, Sh.lst]).fits x then
          ((cl_ 118 [.pv (.agg [.int .i64 ((x.c 0).toInt), .int .i64 ((x.c 1).toInt), .str ((x.c 2).toStr), .lst ((x.c 3).toLst)])]).bind retPV).bind fun r =>
            (bif (Sh.int .i64).fits r then
              lp_ [1, 1, 0, 1, 4] (st118_11014 (bif decide ((IntKind.i64.wrap ((1 : Int) + (r.toInt))) > i) then (IntKind.i64.wrap ((1 : Int) + (r.toInt))) else i) p_Args (IntKind.i64.wrap (i1 + (1 : Int))))
            else none)
        else none)
    else none
  else some (.pv (.int .i64 i), []) := by kernel_rfl
theorem e118_11014 (i : Int) (p_Args : List PV) (i1 : Int) : L118_11014 i p_Args i1 =
  bif decide (i1 < (p_Args.length : Int)) then
    bif decide (0 ≤ i1) then
      (p_Args[i1.toNat]?).bind fun x =>
        (bif (Sh.agg [Sh.int .i64, Sh.int .i64, Sh.str, Sh.lst]).fits x then
          ((V 118 [.pv (.agg [.int .i64 ((x.c 0).toInt), .int .i64 ((x.c 1).toInt), .str ((x.c 2).toStr), .lst ((x.c 3).toLst)])]).bind retPV).bind fun r =>
            (bif (Sh.int .i64).fits r then
              L118_11014 (bif decide ((IntKind.i64.wrap ((1 : Int) + (r.toInt))) > i) then (IntKind.i64.wrap ((1 : Int) + (r.toInt))) else i) p_Args (IntKind.i64.wrap (i1 + (1 : Int)))
            else none)
        else none)
    else none
  else some (.pv (.int .i64 i), []) :=
  (LV_eq pa 118 _ _).trans (f118_11014 i p_Args i1 V (LV Pr T 118))
/-! 119 roadstead/roadref2.argsOf -/
def st119_101416 (e_Kind : Int) (b : Bool) (e_Num : Int) (e_Text : List UInt8) (e_Names : List PV) (e_Types : List PV) (e_Args : List PV) (e_Arms : List PV) (e_At : Int) : AS :=
  ⟨[.any, .box 0 0, .any, .any, .any, .any, .pv (.int .i64 e_Kind), .pv (.bool b), .any, .any, .any, .any, .any, .any, .any, .any, .any, .any, .any, .any, .any, .any, .any, .any, .any, .any, .any, .any], ⟨[(false, [.pv (.int .i64 e_Kind), .pv (.int .i64 e_Num), .pv (.str e_Text), .pv (.lst e_Names), .pv (.lst e_Types), .pv (.lst e_Args), .pv (.lst e_Arms), .pv (.int .i64 e_At)])], [], [], 0, 0⟩⟩
noncomputable def L119_101416 (e_Kind : Int) (b : Bool) (e_Num : Int) (e_Text : List UInt8) (e_Names : List PV) (e_Types : List PV) (e_Args : List PV) (e_Arms : List PV) (e_At : Int) : Option Out := LV Pr T 119 [1, 0, 1, 4, 1, 6] (st119_101416 e_Kind b e_Num e_Text e_Names e_Types e_Args e_Arms e_At)
theorem f119 (e_Kind : Int) (e_Num : Int) (e_Text : List UInt8) (e_Names : List PV) (e_Types : List PV) (e_Args : List PV) (e_Arms : List PV) (e_At : Int) (cl_ : FuncId → List Arg → Option Out) (lp_ : List Nat → AS → Option Out) : runW Pr T cl_ lp_ 119 [.pv (.agg [.int .i64 e_Kind, .int .i64 e_Num, .str e_Text, .lst e_Names, .lst e_Types, .lst e_Args, .lst e_Arms, .int .i64 e_At])] =
  bif (e_Kind == (9 : Int)) then
    lp_ [1, 0, 1, 4, 1, 6] (st119_101416 e_Kind (e_Kind == (9 : Int)) e_Num e_Text e_Names e_Types e_Args e_Arms e_At)
  else bif (e_Kind == (12 : Int)) then
    lp_ [1, 0, 1, 4, 1, 6] (st119_101416 e_Kind (e_Kind == (12 : Int)) e_Num e_Text e_Names e_Types e_Args e_Arms e_At)
  else bif (e_Kind == (14 : Int)) then
    lp_ [1, 0, 1, 4, 1, 6] (st119_101416 e_Kind (e_Kind == (14 : Int)) e_Num e_Text e_Names e_Types e_Args e_Arms e_At)
  else lp_ [1, 0, 1, 4, 1, 6] (st119_101416 e_Kind (e_Kind == (17 : Int)) e_Num e_Text e_Names e_Types e_Args e_Arms e_At) := by kernel_rfl
theorem e119 (e_Kind : Int) (e_Num : Int) (e_Text : List UInt8) (e_Names : List PV) (e_Types : List PV) (e_Args : List PV) (e_Arms : List PV) (e_At : Int) : V 119 [.pv (.agg [.int .i64 e_Kind, .int .i64 e_Num, .str e_Text, .lst e_Names, .lst e_Types, .lst e_Args, .lst e_Arms, .int .i64 e_At])] =
  bif (e_Kind == (9 : Int)) then
    L119_101416 e_Kind (e_Kind == (9 : Int)) e_Num e_Text e_Names e_Types e_Args e_Arms e_At
  else bif (e_Kind == (12 : Int)) then
    L119_101416 e_Kind (e_Kind == (12 : Int)) e_Num e_Text e_Names e_Types e_Args e_Arms e_At
  else bif (e_Kind == (14 : Int)) then
    L119_101416 e_Kind (e_Kind == (14 : Int)) e_Num e_Text e_Names e_Types e_Args e_Arms e_At
  else L119_101416 e_Kind (e_Kind == (17 : Int)) e_Num e_Text e_Names e_Types e_Args e_Arms e_At :=
  (V_eq pa rfl _).trans (f119 e_Kind e_Num e_Text e_Names e_Types e_Args e_Arms e_At V (LV Pr T 119))
theorem f119_101416 (e_Kind : Int) (b : Bool) (e_Num : Int) (e_Text : List UInt8) (e_Names : List PV) (e_Types : List PV) (e_Args : List PV) (e_Arms : List PV) (e_At : Int) (cl_ : FuncId → List Arg → Option Out) (lp_ : List Nat → AS → Option Out) : stepW Pr T cl_ lp_ 119 [1, 0, 1, 4, 1, 6] (st119_101416 e_Kind b e_Num e_Text e_Names e_Types e_Args e_Arms e_At) =
  bif b then
    some (.pv (.tup [.int .i64 0, .int .i64 6]), [])
  else bif (e_Kind == (11 : Int)) then
    some (.pv (.tup [.int .i64 1, .int .i64 7]), [])
  else bif (e_Kind == (8 : Int)) then
    bif (e_Text == ([110, 111, 116] : List UInt8)) then
      some (.pv (.tup [.int .i64 1, .int .i64 1]), [])
    else some (.pv (.tup [.int .i64 2, .int .i64 2]), [])
  else bif (e_Kind == (18 : Int)) then
    bif (e_Num == (-1 : Int)) then
      some (.pv (.tup [.int .i64 0, .int .i64 0]), [])
    else some (.pv (.tup [.int .i64 1, .int .i64 1]), [])
  else ((cl_ 96 [.pv (.agg [.int .i64 e_Kind, .int .i64 e_Num, .str e_Text, .lst e_Names, .lst e_Types, .lst e_Args, .lst e_Arms, .int .i64 e_At])]).bind retPV).bind fun r =>
    (bif (Sh.int .i64).fits r then
      some (.pv (.tup [.int .i64 r.toInt, .int .i64 r.toInt]), [])
    else none) := by kernel_rfl
theorem e119_101416 (e_Kind : Int) (b : Bool) (e_Num : Int) (e_Text : List UInt8) (e_Names : List PV) (e_Types : List PV) (e_Args : List PV) (e_Arms : List PV) (e_At : Int) : L119_101416 e_Kind b e_Num e_Text e_Names e_Types e_Args e_Arms e_At =
  bif b then
    some (.pv (.tup [.int .i64 0, .int .i64 6]), [])
  else bif (e_Kind == (11 : Int)) then
    some (.pv (.tup [.int .i64 1, .int .i64 7]), [])
  else bif (e_Kind == (8 : Int)) then
    bif (e_Text == ([110, 111, 116] : List UInt8)) then
      some (.pv (.tup [.int .i64 1, .int .i64 1]), [])
    else some (.pv (.tup [.int .i64 2, .int .i64 2]), [])
  else bif (e_Kind == (18 : Int)) then
    bif (e_Num == (-1 : Int)) then
      some (.pv (.tup [.int .i64 0, .int .i64 0]), [])
    else some (.pv (.tup [.int .i64 1, .int .i64 1]), [])
  else ((V 96 [.pv (.agg [.int .i64 e_Kind, .int .i64 e_Num, .str e_Text, .lst e_Names, .lst e_Types, .lst e_Args, .lst e_Arms, .int .i64 e_At])]).bind retPV).bind fun r =>
    (bif (Sh.int .i64).fits r then
      some (.pv (.tup [.int .i64 r.toInt, .int .i64 r.toInt]), [])
    else none) :=
  (LV_eq pa 119 _ _).trans (f119_101416 e_Kind b e_Num e_Text e_Names e_Types e_Args e_Arms e_At V (LV Pr T 119))
/-! 120 roadstead/roadref2.worded -/
def st120_10141316 (e_Kind : Int) (b : Bool) (e_Num : Int) (e_Text : List UInt8) (e_Names : List PV) (e_Types : List PV) (e_Args : List PV) (e_Arms : List PV) (e_At : Int) : AS :=
  ⟨[.any, .box 0 0, .any, .any, .pv (.int .i64 e_Kind), .any, .any, .pv (.bool b), .any, .any, .any, .any, .any, .any, .any, .any, .any, .any, .any, .any, .any, .any, .any, .any, .any, .any, .any, .any, .any], ⟨[(false, [.pv (.int .i64 e_Kind), .pv (.int .i64 e_Num), .pv (.str e_Text), .pv (.lst e_Names), .pv (.lst e_Types), .pv (.lst e_Args), .pv (.lst e_Arms), .pv (.int .i64 e_At)])], [], [], 0, 0⟩⟩
noncomputable def L120_10141316 (e_Kind : Int) (b : Bool) (e_Num : Int) (e_Text : List UInt8) (e_Names : List PV) (e_Types : List PV) (e_Args : List PV) (e_Arms : List PV) (e_At : Int) : Option Out := LV Pr T 120 [1, 0, 1, 4, 1, 3, 1, 6] (st120_10141316 e_Kind b e_Num e_Text e_Names e_Types e_Args e_Arms e_At)
def st120_1014131316 (e_Kind : Int) (b : Bool) (e_Num : Int) (e_Text : List UInt8) (e_Names : List PV) (e_Types : List PV) (e_Args : List PV) (e_Arms : List PV) (e_At : Int) : AS :=
  ⟨[.any, .box 0 0, .any, .any, .pv (.int .i64 e_Kind), .any, .any, .any, .any, .any, .any, .any, .any, .any, .pv (.bool b), .any, .any, .any, .any, .any, .any, .any, .any, .any, .any, .any, .any, .any, .any], ⟨[(false, [.pv (.int .i64 e_Kind), .pv (.int .i64 e_Num), .pv (.str e_Text), .pv (.lst e_Names), .pv (.lst e_Types), .pv (.lst e_Args), .pv (.lst e_Arms), .pv (.int .i64 e_At)])], [], [], 0, 0⟩⟩
noncomputable def L120_1014131316 (e_Kind : Int) (b : Bool) (e_Num : Int) (e_Text : List UInt8) (e_Names : List PV) (e_Types : List PV) (e_Args : List PV) (e_Arms : List PV) (e_At : Int) : Option Out := LV Pr T 120 [1, 0, 1, 4, 1, 3, 1, 3, 1, 6] (st120_1014131316 e_Kind b e_Num e_Text e_Names e_Types e_Args e_Arms e_At)
theorem f120 (e_Kind : Int) (e_Num : Int) (e_Text : List UInt8) (e_Names : List PV) (e_Types : List PV) (e_Args : List PV) (e_Arms : List PV) (e_At : Int) (cl_ : FuncId → List Arg → Option Out) (lp_ : List Nat → AS → Option Out) : runW Pr T cl_ lp_ 120 [.pv (.agg [.int .i64 e_Kind, .int .i64 e_Num, .str e_Text, .lst e_Names, .lst e_Types, .lst e_Args, .lst e_Arms, .int .i64 e_At])] =
  bif (e_Kind == (4 : Int)) then
    some (.pv (.bool true), [])
  else bif (e_Kind == (5 : Int)) then
    lp_ [1, 0, 1, 4, 1, 3, 1, 6] (st120_10141316 e_Kind (e_Kind == (5 : Int)) e_Num e_Text e_Names e_Types e_Args e_Arms e_At)
  else bif (e_Kind == (6 : Int)) then
    lp_ [1, 0, 1, 4, 1, 3, 1, 6] (st120_10141316 e_Kind (e_Kind == (6 : Int)) e_Num e_Text e_Names e_Types e_Args e_Arms e_At)
  else lp_ [1, 0, 1, 4, 1, 3, 1, 6] (st120_10141316 e_Kind (e_Kind == (9 : Int)) e_Num e_Text e_Names e_Types e_Args e_Arms e_At) := by kernel_rfl
theorem e120 (e_Kind : Int) (e_Num : Int) (e_Text : List UInt8) (e_Names : List PV) (e_Types : List PV) (e_Args : List PV) (e_Arms : List PV) (e_At : Int) : V 120 [.pv (.agg [.int .i64 e_Kind, .int .i64 e_Num, .str e_Text, .lst e_Names, .lst e_Types, .lst e_Args, .lst e_Arms, .int .i64 e_At])] =
  bif (e_Kind == (4 : Int)) then
    some (.pv (.bool true), [])
  else bif (e_Kind == (5 : Int)) then
    L120_10141316 e_Kind (e_Kind == (5 : Int)) e_Num e_Text e_Names e_Types e_Args e_Arms e_At
  else bif (e_Kind == (6 : Int)) then
    L120_10141316 e_Kind (e_Kind == (6 : Int)) e_Num e_Text e_Names e_Types e_Args e_Arms e_At
  else L120_10141316 e_Kind (e_Kind == (9 : Int)) e_Num e_Text e_Names e_Types e_Args e_Arms e_At :=
  (V_eq pa rfl _).trans (f120 e_Kind e_Num e_Text e_Names e_Types e_Args e_Arms e_At V (LV Pr T 120))
theorem f120_10141316 (e_Kind : Int) (b : Bool) (e_Num : Int) (e_Text : List UInt8) (e_Names : List PV) (e_Types : List PV) (e_Args : List PV) (e_Arms : List PV) (e_At : Int) (cl_ : FuncId → List Arg → Option Out) (lp_ : List Nat → AS → Option Out) : stepW Pr T cl_ lp_ 120 [1, 0, 1, 4, 1, 3, 1, 6] (st120_10141316 e_Kind b e_Num e_Text e_Names e_Types e_Args e_Arms e_At) =
  bif b then
    ((cl_ 54 [.pv (.str e_Text)]).bind retPV).bind fun r =>
      (bif (Sh.bool).fits r then
        some (.pv (.bool r.toBool), [])
      else none)
  else bif (e_Kind == (12 : Int)) then
    lp_ [1, 0, 1, 4, 1, 3, 1, 3, 1, 6] (st120_1014131316 e_Kind (e_Kind == (12 : Int)) e_Num e_Text e_Names e_Types e_Args e_Arms e_At)
  else lp_ [1, 0, 1, 4, 1, 3, 1, 3, 1, 6] (st120_1014131316 e_Kind (e_Kind == (14 : Int)) e_Num e_Text e_Names e_Types e_Args e_Arms e_At) := by kernel_rfl
theorem e120_10141316 (e_Kind : Int) (b : Bool) (e_Num : Int) (e_Text : List UInt8) (e_Names : List PV) (e_Types : List PV) (e_Args : List PV) (e_Arms : List PV) (e_At : Int) : L120_10141316 e_Kind b e_Num e_Text e_Names e_Types e_Args e_Arms e_At =
  bif b then
    ((V 54 [.pv (.str e_Text)]).bind retPV).bind fun r =>
      (bif (Sh.bool).fits r then
        some (.pv (.bool r.toBool), [])
      else none)
  else bif (e_Kind == (12 : Int)) then
    L120_1014131316 e_Kind (e_Kind == (12 : Int)) e_Num e_Text e_Names e_Types e_Args e_Arms e_At
  else L120_1014131316 e_Kind (e_Kind == (14 : Int)) e_Num e_Text e_Names e_Types e_Args e_Arms e_At :=
  (LV_eq pa 120 _ _).trans (f120_10141316 e_Kind b e_Num e_Text e_Names e_Types e_Args e_Arms e_At V (LV Pr T 120))
theorem f120_1014131316 (e_Kind : Int) (b : Bool) (e_Num : Int) (e_Text : List UInt8) (e_Names : List PV) (e_Types : List PV) (e_Args : List PV) (e_Arms : List PV) (e_At : Int) (cl_ : FuncId → List Arg → Option Out) (lp_ : List Nat → AS → Option Out) : stepW Pr T cl_ lp_ 120 [1, 0, 1, 4, 1, 3, 1, 3, 1, 6] (st120_1014131316 e_Kind b e_Num e_Text e_Names e_Types e_Args e_Arms e_At) =
  bif b then
    ((cl_ 58 [.pv (.str e_Text)]).bind retPV).bind fun r =>
      (bif (Sh.bool).fits r then
        some (.pv (.bool r.toBool), [])
      else none)
  else bif (e_Kind == (8 : Int)) then
    ((cl_ 25 [.pv (.lst [.str [43], .str [45], .str [42], .str [47], .str [37], .str [60], .str [61], .str [94], .str [97, 110, 100], .str [111, 114], .str [110, 111, 116]]), .pv (.str e_Text)]).bind retPV).bind fun r1 =>
      (bif (Sh.bool).fits r1 then
        some (.pv (.bool r1.toBool), [])
      else none)
  else some (.pv (.bool (e_Text == ([] : List UInt8))), []) := by kernel_rfl
theorem e120_1014131316 (e_Kind : Int) (b : Bool) (e_Num : Int) (e_Text : List UInt8) (e_Names : List PV) (e_Types : List PV) (e_Args : List PV) (e_Arms : List PV) (e_At : Int) : L120_1014131316 e_Kind b e_Num e_Text e_Names e_Types e_Args e_Arms e_At =
  bif b then
    ((V 58 [.pv (.str e_Text)]).bind retPV).bind fun r =>
      (bif (Sh.bool).fits r then
        some (.pv (.bool r.toBool), [])
      else none)
  else bif (e_Kind == (8 : Int)) then
    ((V 25 [.pv (.lst [.str [43], .str [45], .str [42], .str [47], .str [37], .str [60], .str [61], .str [94], .str [97, 110, 100], .str [111, 114], .str [110, 111, 116]]), .pv (.str e_Text)]).bind retPV).bind fun r1 =>
      (bif (Sh.bool).fits r1 then
        some (.pv (.bool r1.toBool), [])
      else none)
  else some (.pv (.bool (e_Text == ([] : List UInt8))), []) :=
  (LV_eq pa 120 _ _).trans (f120_1014131316 e_Kind b e_Num e_Text e_Names e_Types e_Args e_Arms e_At V (LV Pr T 120))
/-! 121 roadstead/roadref2.numbered -/
theorem f121 (e_Kind : Int) (e_Num : Int) (e_Text : List UInt8) (e_Names : List PV) (e_Types : List PV) (e_Args : List PV) (e_Arms : List PV) (e_At : Int) (cl_ : FuncId → List Arg → Option Out) (lp_ : List Nat → AS → Option Out) : runW Pr T cl_ lp_ 121 [.pv (.agg [.int .i64 e_Kind, .int .i64 e_Num, .str e_Text, .lst e_Names, .lst e_Types, .lst e_Args, .lst e_Arms, .int .i64 e_At])] =
  bif (e_Kind == (2 : Int)) then
    some (.pv (.bool true), [])
  else bif (e_Kind == (3 : Int)) then
    bif (e_Num == (0 : Int)) then
      some (.pv (.bool true), [])
    else some (.pv (.bool (e_Num == (1 : Int))), [])
  else bif (e_Kind == (18 : Int)) then
    bif (e_Num == (-1 : Int)) then
      some (.pv (.bool true), [])
    else ((cl_ 55 [.pv (.int .i64 e_Num)]).bind retPV).bind fun r =>
      (bif (Sh.bool).fits r then
        some (.pv (.bool r.toBool), [])
      else none)
  else some (.pv (.bool (e_Num == (0 : Int))), []) := by kernel_rfl
theorem e121 (e_Kind : Int) (e_Num : Int) (e_Text : List UInt8) (e_Names : List PV) (e_Types : List PV) (e_Args : List PV) (e_Arms : List PV) (e_At : Int) : V 121 [.pv (.agg [.int .i64 e_Kind, .int .i64 e_Num, .str e_Text, .lst e_Names, .lst e_Types, .lst e_Args, .lst e_Arms, .int .i64 e_At])] =
  bif (e_Kind == (2 : Int)) then
    some (.pv (.bool true), [])
  else bif (e_Kind == (3 : Int)) then
    bif (e_Num == (0 : Int)) then
      some (.pv (.bool true), [])
    else some (.pv (.bool (e_Num == (1 : Int))), [])
  else bif (e_Kind == (18 : Int)) then
    bif (e_Num == (-1 : Int)) then
      some (.pv (.bool true), [])
    else ((V 55 [.pv (.int .i64 e_Num)]).bind retPV).bind fun r =>
      (bif (Sh.bool).fits r then
        some (.pv (.bool r.toBool), [])
      else none)
  else some (.pv (.bool (e_Num == (0 : Int))), []) :=
  (V_eq pa rfl _).trans (f121 e_Kind e_Num e_Text e_Names e_Types e_Args e_Arms e_At V (LV Pr T 121))
/-! 122 (*roadstead/roadref2.judge).pat -/
def st122_116 (v : Int) (p_Kind : Int) (p_Num : Int) (p_Text : List UInt8) (p_Args : List PV) : AS :=
  ⟨[.box 0 0, .any, .any, .box 1 0, .any, .any, .any, .any, .any, .any, .any, .any, .any, .any, .any, .any, .any, .any, .any, .any, .any, .any, .any, .any, .any, .any, .any, .any, .any, .any, .any, .any, .any, .any, .any, .any, .any, .any, .any, .any, .any, .any, .any, .any, .any, .any, .any, .any, .any, .any, .any, .any, .any, .any, .any, .any, .any, .any, .any, .any, .any, .any, .any, .any, .any, .any, .any, .any, .any, .any, .any, .any, .any, .any, .any, .any, .any, .any, .any, .any, .any, .any, .any, .any, .any, .any, .any, .any, .any, .any, .any, .any, .any, .any, .any, .any, .any, .any, .any, .any, .any, .any, .any, .any, .any], ⟨[(false, [.pv (.int .i64 v)]), (false, [.pv (.int .i64 p_Kind), .pv (.int .i64 p_Num), .pv (.str p_Text), .pv (.lst p_Args)])], [], [], 1, 0⟩⟩
noncomputable def L122_116 (v : Int) (p_Kind : Int) (p_Num : Int) (p_Text : List UInt8) (p_Args : List PV) : Option Out := LV Pr T 122 [1, 1, 6] (st122_116 v p_Kind p_Num p_Text p_Args)
def st122_111116 (b : Bool) (v : Int) (p_Kind : Int) (p_Num : Int) (p_Text : List UInt8) (p_Args : List PV) : AS :=
  ⟨[.box 0 0, .any, .any, .box 1 0, .any, .pv (.bool b), .any, .any, .any, .any, .any, .any, .any, .any, .any, .any, .any, .any, .any, .any, .any, .any, .any, .any, .any, .any, .any, .any, .any, .any, .any, .any, .any, .any, .any, .any, .any, .any, .any, .any, .any, .any, .any, .any, .any, .any, .any, .any, .any, .any, .any, .any, .any, .any, .any, .any, .any, .any, .any, .any, .any, .any, .any, .any, .any, .any, .any, .any, .any, .any, .any, .any, .any, .any, .any, .any, .any, .any, .any, .any, .any, .any, .any, .any, .any, .any, .any, .any, .any, .any, .any, .any, .any, .any, .any, .any, .any, .any, .any, .any, .any, .any, .any, .any, .any], ⟨[(false, [.pv (.int .i64 v)]), (false, [.pv (.int .i64 p_Kind), .pv (.int .i64 p_Num), .pv (.str p_Text), .pv (.lst p_Args)])], [], [], 1, 0⟩⟩
noncomputable def L122_111116 (b : Bool) (v : Int) (p_Kind : Int) (p_Num : Int) (p_Text : List UInt8) (p_Args : List PV) : Option Out := LV Pr T 122 [1, 1, 1, 1, 1, 6] (st122_111116 b v p_Kind p_Num p_Text p_Args)
def st122_1111116 (v : Int) (p_Kind : Int) (p_Num : Int) (p_Text : List UInt8) (p_Args : List PV) : AS :=
  ⟨[.box 0 0, .any, .any, .box 1 0, .any, .any, .any, .any, .any, .any, .any, .any, .any, .any, .any, .any, .any, .any, .any, .any, .any, .any, .any, .any, .any, .any, .any, .any, .any, .any, .any, .any, .any, .any, .any, .any, .any, .any, .any, .any, .any, .any, .any, .any, .any, .any, .any, .any, .any, .any, .any, .any, .any, .any, .any, .any, .any, .any, .any, .any, .any, .any, .any, .any, .any, .any, .any, .any, .any, .any, .any, .any, .any, .any, .any, .any, .any, .any, .any, .any, .any, .any, .any, .any, .any, .any, .any, .any, .any, .any, .any, .any, .any, .any, .any, .any, .any, .any, .any, .any, .any, .any, .any, .any, .any], ⟨[(false, [.pv (.int .i64 v)]), (false, [.pv (.int .i64 p_Kind), .pv (.int .i64 p_Num), .pv (.str p_Text), .pv (.lst p_Args)])], [], [], 1, 0⟩⟩
noncomputable def L122_1111116 (v : Int) (p_Kind : Int) (p_Num : Int) (p_Text : List UInt8) (p_Args : List PV) : Option Out := LV Pr T 122 [1, 1, 1, 1, 1, 1, 6] (st122_1111116 v p_Kind p_Num p_Text p_Args)
def st122_1111111114 (p_Args : List PV) (i : Int) (v : Int) : AS :=
  ⟨[.box 0 0, .any, .any, .any, .any, .any, .any, .any, .any, .any, .any, .any, .any, .any, .any, .any, .any, .any, .any, .any, .any, .any, .any, .any, .any, .any, .any, .any, .any, .any, .any, .any, .any, .any, .any, .any, .any, .any, .any, .any, .any, .any, .any, .any, .any, .any, .any, .any, .any, .any, .any, .any, .any, .any, .any, .any, .any, .any, .any, .any, .any, .any, .any, .any, .any, .any, .any, .any, .any, .any, .any, .any, .any, .any, .any, .any, .any, .any, .any, .any, .any, .any, .any, .any, .any, .any, .any, .any, .any, .any, .any, .any, .any, .any, .any, .pv (.lst p_Args), .pv (.int .i64 (p_Args.length : Int)), .pv (.int .i64 i), .any, .any, .any, .any, .any, .any, .any], ⟨[(false, [.pv (.int .i64 v)])], [], [], 1, 0⟩⟩
noncomputable def L122_1111111114 (p_Args : List PV) (i : Int) (v : Int) : Option Out := LV Pr T 122 [1, 1, 1, 1, 1, 1, 1, 1, 1, 4] (st122_1111111114 p_Args i v)
theorem f122 (j_e : Int) (p_Kind : Int) (p_Num : Int) (p_Text : List UInt8) (p_Args : List PV) (cl_ : FuncId → List Arg → Option Out) (lp_ : List Nat → AS → Option Out) : runW Pr T cl_ lp_ 122 [.box [.int .i64 j_e], .pv (.agg [.int .i64 p_Kind, .int .i64 p_Num, .str p_Text, .lst p_Args])] =
  bif (p_Kind != (5 : Int)) then
    (cl_ 52 [.box [.int .i64 j_e], .pv (.bool true)]).bind fun r =>
      (bif refFits [(0, some (Sh.agg [Sh.int .i64]))] [] r.2 then
        (retPV (r.1, [])).bind fun r1 =>
          (bif (Sh.tup []).fits r1 then
            lp_ [1, 1, 6] (st122_116 (((Out.b r 0).c 0).toInt) p_Kind p_Num p_Text p_Args)
          else none)
      else none)
  else (cl_ 52 [.box [.int .i64 j_e], .pv (.bool (decide ((p_Text.length : Int) ≤ (64 : Int))))]).bind fun r2 =>
    (bif refFits [(0, some (Sh.agg [Sh.int .i64]))] [] r2.2 then
      (retPV (r2.1, [])).bind fun r3 =>
        (bif (Sh.tup []).fits r3 then
          lp_ [1, 1, 6] (st122_116 (((Out.b r2 0).c 0).toInt) p_Kind p_Num p_Text p_Args)
        else none)
    else none) := by kernel_rfl
theorem e122 (j_e : Int) (p_Kind : Int) (p_Num : Int) (p_Text : List UInt8) (p_Args : List PV) : V 122 [.box [.int .i64 j_e], .pv (.agg [.int .i64 p_Kind, .int .i64 p_Num, .str p_Text, .lst p_Args])] =
  bif (p_Kind != (5 : Int)) then
    (V 52 [.box [.int .i64 j_e], .pv (.bool true)]).bind fun r =>
      (bif refFits [(0, some (Sh.agg [Sh.int .i64]))] [] r.2 then
        (retPV (r.1, [])).bind fun r1 =>
          (bif (Sh.tup []).fits r1 then
            L122_116 (((Out.b r 0).c 0).toInt) p_Kind p_Num p_Text p_Args
          else none)
      else none)
  else (V 52 [.box [.int .i64 j_e], .pv (.bool (decide ((p_Text.length : Int) ≤ (64 : Int))))]).bind fun r2 =>
    (bif refFits [(0, some (Sh.agg [Sh.int .i64]))] [] r2.2 then
      (retPV (r2.1, [])).bind fun r3 =>
        (bif (Sh.tup []).fits r3 then
          L122_116 (((Out.b r2 0).c 0).toInt) p_Kind p_Num p_Text p_Args
        else none)
    else none) :=
  (V_eq pa rfl _).trans (f122 j_e p_Kind p_Num p_Text p_Args V (LV Pr T 122))
theorem f122_116 (v : Int) (p_Kind : Int) (p_Num : Int) (p_Text : List UInt8) (p_Args : List PV) (cl_ : FuncId → List Arg → Option Out) (lp_ : List Nat → AS → Option Out) : stepW Pr T cl_ lp_ 122 [1, 1, 6] (st122_116 v p_Kind p_Num p_Text p_Args) =
  bif (p_Kind == (1 : Int)) then
    bif (p_Num == (0 : Int)) then
      lp_ [1, 1, 1, 1, 1, 6] (st122_111116 (p_Text == ([] : List UInt8)) v p_Kind p_Num p_Text p_Args)
    else lp_ [1, 1, 1, 1, 1, 6] (st122_111116 false v p_Kind p_Num p_Text p_Args)
  else bif (p_Kind == (2 : Int)) then
    bif (p_Num == (0 : Int)) then
      ((cl_ 54 [.pv (.str p_Text)]).bind retPV).bind fun r =>
        (bif (Sh.bool).fits r then
          lp_ [1, 1, 1, 1, 1, 6] (st122_111116 r.toBool v p_Kind p_Num p_Text p_Args)
        else none)
    else lp_ [1, 1, 1, 1, 1, 6] (st122_111116 false v p_Kind p_Num p_Text p_Args)
  else bif (p_Kind == (3 : Int)) then
    lp_ [1, 1, 1, 1, 1, 6] (st122_111116 (p_Text == ([] : List UInt8)) v p_Kind p_Num p_Text p_Args)
  else bif (p_Kind == (4 : Int)) then
    bif (p_Num == (0 : Int)) then
      lp_ [1, 1, 1, 1, 1, 6] (st122_111116 (p_Text == ([] : List UInt8)) v p_Kind p_Num p_Text p_Args)
    else bif (p_Num == (1 : Int)) then
      lp_ [1, 1, 1, 1, 1, 6] (st122_111116 (p_Text == ([] : List UInt8)) v p_Kind p_Num p_Text p_Args)
    else lp_ [1, 1, 1, 1, 1, 6] (st122_111116 false v p_Kind p_Num p_Text p_Args)
  else bif (p_Kind == (5 : Int)) then
    lp_ [1, 1, 1, 1, 1, 6] (st122_111116 (p_Num == (0 : Int)) v p_Kind p_Num p_Text p_Args)
  else bif (p_Kind == (6 : Int)) then
    bif (p_Num == (0 : Int)) then
      ((cl_ 58 [.pv (.str p_Text)]).bind retPV).bind fun r1 =>
        (bif (Sh.bool).fits r1 then
          lp_ [1, 1, 1, 1, 1, 6] (st122_111116 r1.toBool v p_Kind p_Num p_Text p_Args)
        else none)
    else lp_ [1, 1, 1, 1, 1, 6] (st122_111116 false v p_Kind p_Num p_Text p_Args)
  else lp_ [1, 1, 1, 1, 1, 6] (st122_111116 false v p_Kind p_Num p_Text p_Args) := by kernel_rfl
theorem e122_116 (v : Int) (p_Kind : Int) (p_Num : Int) (p_Text : List UInt8) (p_Args : List PV) : L122_116 v p_Kind p_Num p_Text p_Args =
  bif (p_Kind == (1 : Int)) then
    bif (p_Num == (0 : Int)) then
      L122_111116 (p_Text == ([] : List UInt8)) v p_Kind p_Num p_Text p_Args
    else L122_111116 false v p_Kind p_Num p_Text p_Args
  else bif (p_Kind == (2 : Int)) then
    bif (p_Num == (0 : Int)) then
      ((V 54 [.pv (.str p_Text)]).bind retPV).bind fun r =>
        (bif (Sh.bool).fits r then
          L122_111116 r.toBool v p_Kind p_Num p_Text p_Args
        else none)
    else L122_111116 false v p_Kind p_Num p_Text p_Args
  else bif (p_Kind == (3 : Int)) then
    L122_111116 (p_Text == ([] : List UInt8)) v p_Kind p_Num p_Text p_Args
  else bif (p_Kind == (4 : Int)) then
    bif (p_Num == (0 : Int)) then
      L122_111116 (p_Text == ([] : List UInt8)) v p_Kind p_Num p_Text p_Args
    else bif (p_Num == (1 : Int)) then
      L122_111116 (p_Text == ([] : List UInt8)) v p_Kind p_Num p_Text p_Args
    else L122_111116 false v p_Kind p_Num p_Text p_Args
  else bif (p_Kind == (5 : Int)) then
    L122_111116 (p_Num == (0 : Int)) v p_Kind p_Num p_Text p_Args
  else bif (p_Kind == (6 : Int)) then
    bif (p_Num == (0 : Int)) then
      ((V 58 [.pv (.str p_Text)]).bind retPV).bind fun r1 =>
        (bif (Sh.bool).fits r1 then
          L122_111116 r1.toBool v p_Kind p_Num p_Text p_Args
        else none)
    else L122_111116 false v p_Kind p_Num p_Text p_Args
  else L122_111116 false v p_Kind p_Num p_Text p_Args :=
  (LV_eq pa 122 _ _).trans (f122_116 v p_Kind p_Num p_Text p_Args V (LV Pr T 122))
theorem f122_111116 (b : Bool) (v : Int) (p_Kind : Int) (p_Num : Int) (p_Text : List UInt8) (p_Args : List PV) (cl_ : FuncId → List Arg → Option Out) (lp_ : List Nat → AS → Option Out) : stepW Pr T cl_ lp_ 122 [1, 1, 1, 1, 1, 6] (st122_111116 b v p_Kind p_Num p_Text p_Args) =
  bif b then
    bif (p_Kind == (6 : Int)) then
      (cl_ 53 [.box [.int .i64 v], .pv (.bool true)]).bind fun r =>
        (bif refFits [(0, some (Sh.agg [Sh.int .i64]))] [] r.2 then
          (retPV (r.1, [])).bind fun r1 =>
            (bif (Sh.tup []).fits r1 then
              lp_ [1, 1, 1, 1, 1, 1, 6] (st122_1111116 (((Out.b r 0).c 0).toInt) p_Kind p_Num p_Text p_Args)
            else none)
        else none)
    else (cl_ 53 [.box [.int .i64 v], .pv (.bool ((p_Args.length : Int) == (0 : Int)))]).bind fun r2 =>
      (bif refFits [(0, some (Sh.agg [Sh.int .i64]))] [] r2.2 then
        (retPV (r2.1, [])).bind fun r3 =>
          (bif (Sh.tup []).fits r3 then
            lp_ [1, 1, 1, 1, 1, 1, 6] (st122_1111116 (((Out.b r2 0).c 0).toInt) p_Kind p_Num p_Text p_Args)
          else none)
      else none)
  else (cl_ 53 [.box [.int .i64 v], .pv (.bool false)]).bind fun r4 =>
    (bif refFits [(0, some (Sh.agg [Sh.int .i64]))] [] r4.2 then
      (retPV (r4.1, [])).bind fun r5 =>
        (bif (Sh.tup []).fits r5 then
          lp_ [1, 1, 1, 1, 1, 1, 6] (st122_1111116 (((Out.b r4 0).c 0).toInt) p_Kind p_Num p_Text p_Args)
        else none)
    else none) := by kernel_rfl
theorem e122_111116 (b : Bool) (v : Int) (p_Kind : Int) (p_Num : Int) (p_Text : List UInt8) (p_Args : List PV) : L122_111116 b v p_Kind p_Num p_Text p_Args =
  bif b then
    bif (p_Kind == (6 : Int)) then
      (V 53 [.box [.int .i64 v], .pv (.bool true)]).bind fun r =>
        (bif refFits [(0, some (Sh.agg [Sh.int .i64]))] [] r.2 then
          (retPV (r.1, [])).bind fun r1 =>
            (bif (Sh.tup []).fits r1 then
              L122_1111116 (((Out.b r 0).c 0).toInt) p_Kind p_Num p_Text p_Args
            else none)
        else none)
    else (V 53 [.box [.int .i64 v], .pv (.bool ((p_Args.length : Int) == (0 : Int)))]).bind fun r2 =>
      (bif refFits [(0, some (Sh.agg [Sh.int .i64]))] [] r2.2 then
        (retPV (r2.1, [])).bind fun r3 =>
          (bif (Sh.tup []).fits r3 then
            L122_1111116 (((Out.b r2 0).c 0).toInt) p_Kind p_Num p_Text p_Args
          else none)
      else none)
  else (V 53 [.box [.int .i64 v], .pv (.bool false)]).bind fun r4 =>
    (bif refFits [(0, some (Sh.agg [Sh.int .i64]))] [] r4.2 then
      (retPV (r4.1, [])).bind fun r5 =>
        (bif (Sh.tup []).fits r5 then
          L122_1111116 (((Out.b r4 0).c 0).toInt) p_Kind p_Num p_Text p_Args
        else none)
    else none) :=
  (LV_eq pa 122 _ _).trans (f122_111116 b v p_Kind p_Num p_Text p_Args V (LV Pr T 122))
theorem f122_1111116 (v : Int) (p_Kind : Int) (p_Num : Int) (p_Text : List UInt8) (p_Args : List PV) (cl_ : FuncId → List Arg → Option Out) (lp_ : List Nat → AS → Option Out) : stepW Pr T cl_ lp_ 122 [1, 1, 1, 1, 1, 1, 6] (st122_1111116 v p_Kind p_Num p_Text p_Args) =
  (cl_ 52 [.box [.int .i64 v], .pv (.bool (decide ((p_Args.length : Int) ≤ (6 : Int))))]).bind fun r =>
    (bif refFits [(0, some (Sh.agg [Sh.int .i64]))] [] r.2 then
      (retPV (r.1, [])).bind fun r1 =>
        (bif (Sh.tup []).fits r1 then
          bif ((((Out.b r 0).c 0).toInt) != (0 : Int)) then
            some (.pv (.tup []), [.box [.int .i64 (((Out.b r 0).c 0).toInt)]])
          else lp_ [1, 1, 1, 1, 1, 1, 1, 1, 1, 4] (st122_1111111114 p_Args 0 (((Out.b r 0).c 0).toInt))
        else none)
    else none) := by kernel_rfl
theorem e122_1111116 (v : Int) (p_Kind : Int) (p_Num : Int) (p_Text : List UInt8) (p_Args : List PV) : L122_1111116 v p_Kind p_Num p_Text p_Args =
  (V 52 [.box [.int .i64 v], .pv (.bool (decide ((p_Args.length : Int) ≤ (6 : Int))))]).bind fun r =>
    (bif refFits [(0, some (Sh.agg [Sh.int .i64]))] [] r.2 then
      (retPV (r.1, [])).bind fun r1 =>
        (bif (Sh.tup []).fits r1 then
          bif ((((Out.b r 0).c 0).toInt) != (0 : Int)) then
            some (.pv (.tup []), [.box [.int .i64 (((Out.b r 0).c 0).toInt)]])
          else L122_1111111114 p_Args 0 (((Out.b r 0).c 0).toInt)
        else none)
    else none) :=
  (LV_eq pa 122 _ _).trans (f122_1111116 v p_Kind p_Num p_Text p_Args V (LV Pr T 122))
theorem f122_1111111114 (p_Args : List PV) (i : Int) (v : Int) (cl_ : FuncId → List Arg → Option Out) (lp_ : List Nat → AS → Option Out) : stepW Pr T cl_ lp_ 122 [1, 1, 1, 1, 1, 1, 1, 1, 1, 4] (st122_1111111114 p_Args i v) =
  bif decide (i < (p_Args.length : Int)) then
    bif decide (0 ≤ i) then
      (p_Args[i.toNat]?).bind fun x =>
        (bif (Sh.agg [Sh.int .i64, Sh.int .i64, Sh.str, Sh.lst]).fits x then
          (cl_ 122 [.box [.int .i64 v], .pv (.agg [.int .i64 ((x.c 0).toInt), .int .i64 ((x.c 1).toInt), .str ((x.c 2).toStr), .lst ((x.c 3).toLst)])]).bind fun r =>
            (bif refFits [(0, some (Sh.agg [Sh.int .i64]))] [] r.2 then
              (retPV (r.1, [])).bind fun r1 =>
                (bif (Sh.tup []).fits r1 then
                  lp_ [1, 1, 1, 1, 1, 1, 1, 1, 1, 4] (st122_1111111114 p_Args (IntKind.i64.wrap (i + (1 : Int))) (((Out.b r 0).c 0).toInt))
                else none)
            else none)
        else none)
    else none
  else some (.pv (.tup []), [.box [.int .i64 v]]) := by kernel_rfl
theorem e122_1111111114 (p_Args : List PV) (i : Int) (v : Int) : L122_1111111114 p_Args i v =
  bif decide (i < (p_Args.length : Int)) then
    bif decide (0 ≤ i) then
      (p_Args[i.toNat]?).bind fun x =>
        (bif (Sh.agg [Sh.int .i64, Sh.int .i64, Sh.str, Sh.lst]).fits x then
          (V 122 [.box [.int .i64 v], .pv (.agg [.int .i64 ((x.c 0).toInt), .int .i64 ((x.c 1).toInt), .str ((x.c 2).toStr), .lst ((x.c 3).toLst)])]).bind fun r =>
            (bif refFits [(0, some (Sh.agg [Sh.int .i64]))] [] r.2 then
              (retPV (r.1, [])).bind fun r1 =>
                (bif (Sh.tup []).fits r1 then
                  L122_1111111114 p_Args (IntKind.i64.wrap (i + (1 : Int))) (((Out.b r 0).c 0).toInt)
                else none)
            else none)
        else none)
    else none
  else some (.pv (.tup []), [.box [.int .i64 v]]) :=
  (LV_eq pa 122 _ _).trans (f122_1111111114 p_Args i v V (LV Pr T 122))
end Go.AL.S9
