/- Equations of functions in the abstract machine: printed by gen.py. -/
import Derived.Test.YtlmodlihiglnhaaS6T
set_option linter.unusedVariables false
set_option maxRecDepth 100000
namespace Go.AL.S6
open Go Go.AL
/-! 134 roadstead/tree.expr -/
def st134_11116 (may : Bool) (e_Kind : Int) (e_Num : Int) (e_Text : List UInt8) (e_Names : List PV) (e_Types : List PV) (e_Args : List PV) (e_Arms : List PV) (e_At : Int) (v : Int) (v1 : Int) (v2 : Int) (v3 : Bool) (v4 : Bool) : AS :=
  ⟨[.any, .pv (.bool may), .box 0 0, .any, .any, .box 1 0, .any, .any, .any, .any, .any, .any, .any, .any, .any, .any, .any, .any, .any, .any, .any, .any, .any, .any, .any, .any, .any, .any, .any, .any, .any, .any, .any, .any, .any, .any, .any, .any, .any, .any, .any, .any, .any, .any, .any, .any, .any, .any, .any, .any, .any, .any, .any, .any, .any, .any, .any, .any, .any, .any, .any, .any, .any, .any, .any, .any, .any, .any, .any, .any, .any, .any, .any, .any, .any, .any, .any, .any, .any, .any, .any, .any, .any, .any, .any, .any, .any, .any, .any, .any, .any, .any, .any, .any, .any, .any, .any, .any, .any, .any, .any, .any, .any, .any, .any, .any, .any, .any, .any, .any, .any, .any, .any, .any, .any, .any, .any, .any, .any, .any, .any, .any, .any, .any, .any, .any, .any, .any, .any, .any, .any, .any, .any, .any, .any, .any, .any, .any, .any, .any, .any, .any, .any, .any, .any, .any, .any, .any, .any, .any, .any, .any, .any, .any, .any, .any, .any, .any, .any, .any, .any, .any, .any, .any, .any, .any, .any, .any, .any, .any, .any, .any, .any, .any, .any], ⟨[(false, [.pv (.int .i64 e_Kind), .pv (.int .i64 e_Num), .pv (.str e_Text), .pv (.lst e_Names), .pv (.lst e_Types), .pv (.lst e_Args), .pv (.lst e_Arms), .pv (.int .i64 e_At)]), (false, [.pv (.int .i64 v), .pv (.int .i64 v1), .pv (.int .i64 v2), .pv (.bool v3), .pv (.bool v4)])], [], [], 0, 0⟩⟩
noncomputable def L134_11116 (may : Bool) (e_Kind : Int) (e_Num : Int) (e_Text : List UInt8) (e_Names : List PV) (e_Types : List PV) (e_Args : List PV) (e_Arms : List PV) (e_At : Int) (v : Int) (v1 : Int) (v2 : Int) (v3 : Bool) (v4 : Bool) : Option Out := LV Pr T 134 [1, 1, 1, 1, 6] (st134_11116 may e_Kind e_Num e_Text e_Names e_Types e_Args e_Arms e_At v v1 v2 v3 v4)
def st134_111116 (may : Bool) (e_Kind : Int) (e_Num : Int) (e_Text : List UInt8) (e_Names : List PV) (e_Types : List PV) (e_Args : List PV) (e_Arms : List PV) (e_At : Int) : AS :=
  ⟨[.any, .pv (.bool may), .box 0 0, .any, .any, .any, .any, .any, .any, .any, .any, .any, .any, .any, .any, .any, .any, .any, .any, .any, .any, .any, .any, .any, .any, .any, .any, .any, .any, .any, .any, .any, .any, .any, .any, .any, .any, .any, .any, .any, .any, .any, .any, .any, .any, .any, .any, .any, .any, .any, .any, .any, .any, .any, .any, .any, .any, .any, .any, .any, .any, .any, .any, .any, .any, .any, .any, .any, .any, .any, .any, .any, .any, .any, .any, .any, .any, .any, .any, .any, .any, .any, .any, .any, .any, .any, .any, .any, .any, .any, .any, .any, .any, .any, .any, .any, .any, .any, .any, .any, .any, .any, .any, .any, .any, .any, .any, .any, .any, .any, .any, .any, .any, .any, .any, .any, .any, .any, .any, .any, .any, .any, .any, .any, .any, .any, .any, .any, .any, .any, .any, .any, .any, .any, .any, .any, .any, .any, .any, .any, .any, .any, .any, .any, .any, .any, .any, .any, .any, .any, .any, .any, .any, .any, .any, .any, .any, .any, .any, .any, .any, .any, .any, .any, .any, .any, .any, .any, .any, .any, .any, .any, .any, .any, .any], ⟨[(false, [.pv (.int .i64 e_Kind), .pv (.int .i64 e_Num), .pv (.str e_Text), .pv (.lst e_Names), .pv (.lst e_Types), .pv (.lst e_Args), .pv (.lst e_Arms), .pv (.int .i64 e_At)])], [], [], 0, 0⟩⟩
noncomputable def L134_111116 (may : Bool) (e_Kind : Int) (e_Num : Int) (e_Text : List UInt8) (e_Names : List PV) (e_Types : List PV) (e_Args : List PV) (e_Arms : List PV) (e_At : Int) : Option Out := LV Pr T 134 [1, 1, 1, 1, 1, 6] (st134_111116 may e_Kind e_Num e_Text e_Names e_Types e_Args e_Arms e_At)
def st134_1111116 (may : Bool) (e_Kind : Int) (e_Num : Int) (e_Text : List UInt8) (e_Names : List PV) (e_Types : List PV) (e_Args : List PV) (e_Arms : List PV) (e_At : Int) : AS :=
  ⟨[.any, .pv (.bool may), .box 0 0, .any, .any, .any, .any, .any, .any, .any, .any, .any, .any, .any, .any, .any, .any, .any, .any, .any, .any, .any, .any, .any, .any, .any, .any, .any, .any, .any, .any, .any, .any, .any, .any, .any, .any, .any, .any, .any, .any, .any, .any, .any, .any, .any, .any, .any, .any, .any, .any, .any, .any, .any, .any, .any, .any, .any, .any, .any, .any, .any, .any, .any, .any, .any, .any, .any, .any, .any, .any, .any, .any, .any, .any, .any, .any, .any, .any, .any, .any, .any, .any, .any, .any, .any, .any, .any, .any, .any, .any, .any, .any, .any, .any, .any, .any, .any, .any, .any, .any, .any, .any, .any, .any, .any, .any, .any, .any, .any, .any, .any, .any, .any, .any, .any, .any, .any, .any, .any, .any, .any, .any, .any, .any, .any, .any, .any, .any, .any, .any, .any, .any, .any, .any, .any, .any, .any, .any, .any, .any, .any, .any, .any, .any, .any, .any, .any, .any, .any, .any, .any, .any, .any, .any, .any, .any, .any, .any, .any, .any, .any, .any, .any, .any, .any, .any, .any, .any, .any, .any, .any, .any, .any, .any], ⟨[(false, [.pv (.int .i64 e_Kind), .pv (.int .i64 e_Num), .pv (.str e_Text), .pv (.lst e_Names), .pv (.lst e_Types), .pv (.lst e_Args), .pv (.lst e_Arms), .pv (.int .i64 e_At)])], [], [], 0, 0⟩⟩
noncomputable def L134_1111116 (may : Bool) (e_Kind : Int) (e_Num : Int) (e_Text : List UInt8) (e_Names : List PV) (e_Types : List PV) (e_Args : List PV) (e_Arms : List PV) (e_At : Int) : Option Out := LV Pr T 134 [1, 1, 1, 1, 1, 1, 6] (st134_1111116 may e_Kind e_Num e_Text e_Names e_Types e_Args e_Arms e_At)
def st134_111111014 (may : Bool) (e_Args : List PV) (i : Int) (e_Kind : Int) (e_Num : Int) (e_Text : List UInt8) (e_Names : List PV) (e_Types : List PV) (e_Arms : List PV) (e_At : Int) : AS :=
  ⟨[.any, .pv (.bool may), .box 0 0, .any, .any, .any, .any, .any, .any, .any, .any, .any, .any, .any, .any, .any, .any, .any, .any, .any, .any, .any, .any, .any, .any, .any, .any, .any, .any, .any, .any, .any, .any, .any, .any, .any, .any, .any, .any, .any, .any, .any, .any, .any, .any, .any, .any, .any, .any, .any, .any, .any, .any, .any, .any, .any, .any, .any, .any, .any, .any, .any, .any, .any, .any, .any, .any, .any, .any, .any, .any, .any, .any, .any, .any, .any, .any, .any, .any, .any, .any, .any, .any, .any, .any, .any, .any, .any, .any, .any, .any, .any, .any, .any, .any, .any, .any, .any, .any, .any, .any, .any, .any, .any, .any, .any, .any, .any, .any, .any, .any, .any, .any, .any, .any, .any, .any, .any, .any, .any, .any, .any, .any, .any, .any, .any, .any, .any, .any, .any, .any, .any, .any, .any, .any, .any, .pv (.lst e_Args), .pv (.int .i64 (e_Args.length : Int)), .pv (.int .i64 i), .any, .any, .any, .any, .any, .any, .any, .any, .any, .any, .any, .any, .any, .any, .any, .any, .any, .any, .any, .any, .any, .any, .any, .any, .any, .any, .any, .any, .any, .any, .any, .any, .any, .any, .any, .any], ⟨[(false, [.pv (.int .i64 e_Kind), .pv (.int .i64 e_Num), .pv (.str e_Text), .pv (.lst e_Names), .pv (.lst e_Types), .pv (.lst e_Args), .pv (.lst e_Arms), .pv (.int .i64 e_At)])], [], [], 0, 0⟩⟩
noncomputable def L134_111111014 (may : Bool) (e_Args : List PV) (i : Int) (e_Kind : Int) (e_Num : Int) (e_Text : List UInt8) (e_Names : List PV) (e_Types : List PV) (e_Arms : List PV) (e_At : Int) : Option Out := LV Pr T 134 [1, 1, 1, 1, 1, 1, 0, 1, 4] (st134_111111014 may e_Args i e_Kind e_Num e_Text e_Names e_Types e_Arms e_At)
def st134_1111111014 (may : Bool) (e_Arms : List PV) (i : Int) : AS :=
  ⟨[.any, .pv (.bool may), .any, .any, .any, .any, .any, .any, .any, .any, .any, .any, .any, .any, .any, .any, .any, .any, .any, .any, .any, .any, .any, .any, .any, .any, .any, .any, .any, .any, .any, .any, .any, .any, .any, .any, .any, .any, .any, .any, .any, .any, .any, .any, .any, .any, .any, .any, .any, .any, .any, .any, .any, .any, .any, .any, .any, .any, .any, .any, .any, .any, .any, .any, .any, .any, .any, .any, .any, .any, .any, .any, .any, .any, .any, .any, .any, .any, .any, .any, .any, .any, .any, .any, .any, .any, .any, .any, .any, .any, .any, .any, .any, .any, .any, .any, .any, .any, .any, .any, .any, .any, .any, .any, .any, .any, .any, .any, .any, .any, .any, .any, .any, .any, .any, .any, .any, .any, .any, .any, .any, .any, .any, .any, .any, .any, .any, .any, .any, .any, .any, .any, .any, .any, .any, .any, .any, .any, .any, .any, .any, .any, .any, .any, .any, .any, .any, .any, .any, .any, .any, .any, .any, .any, .any, .pv (.lst e_Arms), .pv (.int .i64 (e_Arms.length : Int)), .pv (.int .i64 i), .any, .any, .any, .any, .any, .any, .any, .any, .any, .any, .any, .any, .any, .any, .any, .any, .any], ⟨[], [], [], 0, 0⟩⟩
noncomputable def L134_1111111014 (may : Bool) (e_Arms : List PV) (i : Int) : Option Out := LV Pr T 134 [1, 1, 1, 1, 1, 1, 1, 0, 1, 4] (st134_1111111014 may e_Arms i)
theorem f134 (e_Kind : Int) (e_Num : Int) (e_Text : List UInt8) (e_Names : List PV) (e_Types : List PV) (e_Args : List PV) (e_Arms : List PV) (e_At : Int) (may : Bool) (cl_ : FuncId → List Arg → Option Out) (lp_ : List Nat → AS → Option Out) : runW Pr T cl_ lp_ 134 [.pv (.agg [.int .i64 e_Kind, .int .i64 e_Num, .str e_Text, .lst e_Names, .lst e_Types, .lst e_Args, .lst e_Arms, .int .i64 e_At]), .pv (.bool may)] =
  ((cl_ 143 [.pv (.int .i64 e_Kind)]).bind retPV).bind fun r =>
    (bif (Sh.tup [Sh.agg [Sh.int .i64, Sh.int .i64, Sh.int .i64, Sh.bool, Sh.bool], Sh.bool]).fits r then
      bif (!(r.r 1).toBool) then
        some (.pv (.int .i64 3), [])
      else bif decide ((e_Args.length : Int) > (((r.r 0).c 2).toInt)) then
        bif decide ((((r.r 0).c 2).toInt) ≥ (6 : Int)) then
          some (.pv (.int .i64 2), [])
        else bif decide ((e_Arms.length : Int) > (12 : Int)) then
          some (.pv (.int .i64 2), [])
        else bif decide ((e_Text.length : Int) > (64 : Int)) then
          some (.pv (.int .i64 2), [])
        else lp_ [1, 1, 1, 1, 6] (st134_11116 may e_Kind e_Num e_Text e_Names e_Types e_Args e_Arms e_At (((r.r 0).c 0).toInt) (((r.r 0).c 1).toInt) (((r.r 0).c 2).toInt) (((r.r 0).c 3).toBool) (((r.r 0).c 4).toBool))
      else bif decide ((e_Arms.length : Int) > (12 : Int)) then
        some (.pv (.int .i64 2), [])
      else bif decide ((e_Text.length : Int) > (64 : Int)) then
        some (.pv (.int .i64 2), [])
      else lp_ [1, 1, 1, 1, 6] (st134_11116 may e_Kind e_Num e_Text e_Names e_Types e_Args e_Arms e_At (((r.r 0).c 0).toInt) (((r.r 0).c 1).toInt) (((r.r 0).c 2).toInt) (((r.r 0).c 3).toBool) (((r.r 0).c 4).toBool))
    else none) := by kernel_rfl
theorem e134 (e_Kind : Int) (e_Num : Int) (e_Text : List UInt8) (e_Names : List PV) (e_Types : List PV) (e_Args : List PV) (e_Arms : List PV) (e_At : Int) (may : Bool) : V 134 [.pv (.agg [.int .i64 e_Kind, .int .i64 e_Num, .str e_Text, .lst e_Names, .lst e_Types, .lst e_Args, .lst e_Arms, .int .i64 e_At]), .pv (.bool may)] =
  ((V 143 [.pv (.int .i64 e_Kind)]).bind retPV).bind fun r =>
    (bif (Sh.tup [Sh.agg [Sh.int .i64, Sh.int .i64, Sh.int .i64, Sh.bool, Sh.bool], Sh.bool]).fits r then
      bif (!(r.r 1).toBool) then
        some (.pv (.int .i64 3), [])
      else bif decide ((e_Args.length : Int) > (((r.r 0).c 2).toInt)) then
        bif decide ((((r.r 0).c 2).toInt) ≥ (6 : Int)) then
          some (.pv (.int .i64 2), [])
        else bif decide ((e_Arms.length : Int) > (12 : Int)) then
          some (.pv (.int .i64 2), [])
        else bif decide ((e_Text.length : Int) > (64 : Int)) then
          some (.pv (.int .i64 2), [])
        else L134_11116 may e_Kind e_Num e_Text e_Names e_Types e_Args e_Arms e_At (((r.r 0).c 0).toInt) (((r.r 0).c 1).toInt) (((r.r 0).c 2).toInt) (((r.r 0).c 3).toBool) (((r.r 0).c 4).toBool)
      else bif decide ((e_Arms.length : Int) > (12 : Int)) then
        some (.pv (.int .i64 2), [])
      else bif decide ((e_Text.length : Int) > (64 : Int)) then
        some (.pv (.int .i64 2), [])
      else L134_11116 may e_Kind e_Num e_Text e_Names e_Types e_Args e_Arms e_At (((r.r 0).c 0).toInt) (((r.r 0).c 1).toInt) (((r.r 0).c 2).toInt) (((r.r 0).c 3).toBool) (((r.r 0).c 4).toBool)
    else none) :=
  (V_eq pa rfl _).trans (f134 e_Kind e_Num e_Text e_Names e_Types e_Args e_Arms e_At may V (LV Pr T 134))
theorem f134_11116 (may : Bool) (e_Kind : Int) (e_Num : Int) (e_Text : List UInt8) (e_Names : List PV) (e_Types : List PV) (e_Args : List PV) (e_Arms : List PV) (e_At : Int) (v : Int) (v1 : Int) (v2 : Int) (v3 : Bool) (v4 : Bool) (cl_ : FuncId → List Arg → Option Out) (lp_ : List Nat → AS → Option Out) : stepW Pr T cl_ lp_ 134 [1, 1, 1, 1, 6] (st134_11116 may e_Kind e_Num e_Text e_Names e_Types e_Args e_Arms e_At v v1 v2 v3 v4) =
  ((cl_ 144 [.pv (.agg [.int .i64 e_Kind, .int .i64 e_Num, .str e_Text, .lst e_Names, .lst e_Types, .lst e_Args, .lst e_Arms, .int .i64 e_At]), .pv (.int .i64 v)]).bind retPV).bind fun r =>
    (bif (Sh.bool).fits r then
      bif (!r.toBool) then
        some (.pv (.int .i64 3), [])
      else ((cl_ 145 [.pv (.agg [.int .i64 e_Kind, .int .i64 e_Num, .str e_Text, .lst e_Names, .lst e_Types, .lst e_Args, .lst e_Arms, .int .i64 e_At]), .pv (.agg [.int .i64 v, .int .i64 v1, .int .i64 v2, .bool v3, .bool v4])]).bind retPV).bind fun r1 =>
        (bif (Sh.bool).fits r1 then
          bif (!r1.toBool) then
            some (.pv (.int .i64 3), [])
          else bif decide ((e_Args.length : Int) < v1) then
            some (.pv (.int .i64 3), [])
          else bif decide ((e_Args.length : Int) > v2) then
            some (.pv (.int .i64 3), [])
          else bif (!v4) then
            bif decide ((e_Arms.length : Int) > (0 : Int)) then
              some (.pv (.int .i64 3), [])
            else bif (e_Kind == (13 : Int)) then
              bif decide ((e_Arms.length : Int) < (1 : Int)) then
                some (.pv (.int .i64 3), [])
              else bif (e_Kind == (17 : Int)) then
                bif (!may) then
                  some (.pv (.int .i64 3), [])
                else lp_ [1, 1, 1, 1, 1, 6] (st134_111116 may e_Kind e_Num e_Text e_Names e_Types e_Args e_Arms e_At)
              else lp_ [1, 1, 1, 1, 1, 6] (st134_111116 may e_Kind e_Num e_Text e_Names e_Types e_Args e_Arms e_At)
            else bif (e_Kind == (17 : Int)) then
              bif (!may) then
                some (.pv (.int .i64 3), [])
              else lp_ [1, 1, 1, 1, 1, 6] (st134_111116 may e_Kind e_Num e_Text e_Names e_Types e_Args e_Arms e_At)
            else lp_ [1, 1, 1, 1, 1, 6] (st134_111116 may e_Kind e_Num e_Text e_Names e_Types e_Args e_Arms e_At)
          else bif (e_Kind == (13 : Int)) then
            bif decide ((e_Arms.length : Int) < (1 : Int)) then
              some (.pv (.int .i64 3), [])
            else bif (e_Kind == (17 : Int)) then
              bif (!may) then
                some (.pv (.int .i64 3), [])
              else lp_ [1, 1, 1, 1, 1, 6] (st134_111116 may e_Kind e_Num e_Text e_Names e_Types e_Args e_Arms e_At)
            else lp_ [1, 1, 1, 1, 1, 6] (st134_111116 may e_Kind e_Num e_Text e_Names e_Types e_Args e_Arms e_At)
          else bif (e_Kind == (17 : Int)) then
            bif (!may) then
              some (.pv (.int .i64 3), [])
            else lp_ [1, 1, 1, 1, 1, 6] (st134_111116 may e_Kind e_Num e_Text e_Names e_Types e_Args e_Arms e_At)
          else lp_ [1, 1, 1, 1, 1, 6] (st134_111116 may e_Kind e_Num e_Text e_Names e_Types e_Args e_Arms e_At)
        else none)
    else none) := by kernel_rfl
theorem e134_11116 (may : Bool) (e_Kind : Int) (e_Num : Int) (e_Text : List UInt8) (e_Names : List PV) (e_Types : List PV) (e_Args : List PV) (e_Arms : List PV) (e_At : Int) (v : Int) (v1 : Int) (v2 : Int) (v3 : Bool) (v4 : Bool) : L134_11116 may e_Kind e_Num e_Text e_Names e_Types e_Args e_Arms e_At v v1 v2 v3 v4 =
  ((V 144 [.pv (.agg [.int .i64 e_Kind, .int .i64 e_Num, .str e_Text, .lst e_Names, .lst e_Types, .lst e_Args, .lst e_Arms, .int .i64 e_At]), .pv (.int .i64 v)]).bind retPV).bind fun r =>
    (bif (Sh.bool).fits r then
      bif (!r.toBool) then
        some (.pv (.int .i64 3), [])
      else ((V 145 [.pv (.agg [.int .i64 e_Kind, .int .i64 e_Num, .str e_Text, .lst e_Names, .lst e_Types, .lst e_Args, .lst e_Arms, .int .i64 e_At]), .pv (.agg [.int .i64 v, .int .i64 v1, .int .i64 v2, .bool v3, .bool v4])]).bind retPV).bind fun r1 =>
        (bif (Sh.bool).fits r1 then
          bif (!r1.toBool) then
            some (.pv (.int .i64 3), [])
          else bif decide ((e_Args.length : Int) < v1) then
            some (.pv (.int .i64 3), [])
          else bif decide ((e_Args.length : Int) > v2) then
            some (.pv (.int .i64 3), [])
          else bif (!v4) then
            bif decide ((e_Arms.length : Int) > (0 : Int)) then
              some (.pv (.int .i64 3), [])
            else bif (e_Kind == (13 : Int)) then
              bif decide ((e_Arms.length : Int) < (1 : Int)) then
                some (.pv (.int .i64 3), [])
              else bif (e_Kind == (17 : Int)) then
                bif (!may) then
                  some (.pv (.int .i64 3), [])
                else L134_111116 may e_Kind e_Num e_Text e_Names e_Types e_Args e_Arms e_At
              else L134_111116 may e_Kind e_Num e_Text e_Names e_Types e_Args e_Arms e_At
            else bif (e_Kind == (17 : Int)) then
              bif (!may) then
                some (.pv (.int .i64 3), [])
              else L134_111116 may e_Kind e_Num e_Text e_Names e_Types e_Args e_Arms e_At
            else L134_111116 may e_Kind e_Num e_Text e_Names e_Types e_Args e_Arms e_At
          else bif (e_Kind == (13 : Int)) then
            bif decide ((e_Arms.length : Int) < (1 : Int)) then
              some (.pv (.int .i64 3), [])
            else bif (e_Kind == (17 : Int)) then
              bif (!may) then
                some (.pv (.int .i64 3), [])
              else L134_111116 may e_Kind e_Num e_Text e_Names e_Types e_Args e_Arms e_At
            else L134_111116 may e_Kind e_Num e_Text e_Names e_Types e_Args e_Arms e_At
          else bif (e_Kind == (17 : Int)) then
            bif (!may) then
              some (.pv (.int .i64 3), [])
            else L134_111116 may e_Kind e_Num e_Text e_Names e_Types e_Args e_Arms e_At
          else L134_111116 may e_Kind e_Num e_Text e_Names e_Types e_Args e_Arms e_At
        else none)
    else none) :=
  (LV_eq pa 134 _ _).trans (f134_11116 may e_Kind e_Num e_Text e_Names e_Types e_Args e_Arms e_At v v1 v2 v3 v4 V (LV Pr T 134))
theorem f134_111116 (may : Bool) (e_Kind : Int) (e_Num : Int) (e_Text : List UInt8) (e_Names : List PV) (e_Types : List PV) (e_Args : List PV) (e_Arms : List PV) (e_At : Int) (cl_ : FuncId → List Arg → Option Out) (lp_ : List Nat → AS → Option Out) : stepW Pr T cl_ lp_ 134 [1, 1, 1, 1, 1, 6] (st134_111116 may e_Kind e_Num e_Text e_Names e_Types e_Args e_Arms e_At) =
  bif (e_Kind == (10 : Int)) then
    bif ((e_Names.length : Int) != (e_Types.length : Int)) then
      some (.pv (.int .i64 3), [])
    else ((cl_ 106 [.pv (.lst e_Names)]).bind retPV).bind fun r =>
      (bif (Sh.int .i64).fits r then
        bif ((r.toInt) != (0 : Int)) then
          some (.pv (.int .i64 r.toInt), [])
        else ((cl_ 107 [.pv (.lst e_Types), .pv (.int .i64 40)]).bind retPV).bind fun r1 =>
          (bif (Sh.int .i64).fits r1 then
            bif ((r1.toInt) != (0 : Int)) then
              some (.pv (.int .i64 r1.toInt), [])
            else lp_ [1, 1, 1, 1, 1, 1, 6] (st134_1111116 may e_Kind e_Num e_Text e_Names e_Types e_Args e_Arms e_At)
          else none)
      else none)
  else bif decide ((IntKind.i64.wrap ((e_Names.length : Int) + (e_Types.length : Int))) > (0 : Int)) then
    some (.pv (.int .i64 3), [])
  else lp_ [1, 1, 1, 1, 1, 1, 6] (st134_1111116 may e_Kind e_Num e_Text e_Names e_Types e_Args e_Arms e_At) := by kernel_rfl
theorem e134_111116 (may : Bool) (e_Kind : Int) (e_Num : Int) (e_Text : List UInt8) (e_Names : List PV) (e_Types : List PV) (e_Args : List PV) (e_Arms : List PV) (e_At : Int) : L134_111116 may e_Kind e_Num e_Text e_Names e_Types e_Args e_Arms e_At =
  bif (e_Kind == (10 : Int)) then
    bif ((e_Names.length : Int) != (e_Types.length : Int)) then
      some (.pv (.int .i64 3), [])
    else ((V 106 [.pv (.lst e_Names)]).bind retPV).bind fun r =>
      (bif (Sh.int .i64).fits r then
        bif ((r.toInt) != (0 : Int)) then
          some (.pv (.int .i64 r.toInt), [])
        else ((V 107 [.pv (.lst e_Types), .pv (.int .i64 40)]).bind retPV).bind fun r1 =>
          (bif (Sh.int .i64).fits r1 then
            bif ((r1.toInt) != (0 : Int)) then
              some (.pv (.int .i64 r1.toInt), [])
            else L134_1111116 may e_Kind e_Num e_Text e_Names e_Types e_Args e_Arms e_At
          else none)
      else none)
  else bif decide ((IntKind.i64.wrap ((e_Names.length : Int) + (e_Types.length : Int))) > (0 : Int)) then
    some (.pv (.int .i64 3), [])
  else L134_1111116 may e_Kind e_Num e_Text e_Names e_Types e_Args e_Arms e_At :=
  (LV_eq pa 134 _ _).trans (f134_111116 may e_Kind e_Num e_Text e_Names e_Types e_Args e_Arms e_At V (LV Pr T 134))
theorem f134_1111116 (may : Bool) (e_Kind : Int) (e_Num : Int) (e_Text : List UInt8) (e_Names : List PV) (e_Types : List PV) (e_Args : List PV) (e_Arms : List PV) (e_At : Int) (cl_ : FuncId → List Arg → Option Out) (lp_ : List Nat → AS → Option Out) : stepW Pr T cl_ lp_ 134 [1, 1, 1, 1, 1, 1, 6] (st134_1111116 may e_Kind e_Num e_Text e_Names e_Types e_Args e_Arms e_At) =
  lp_ [1, 1, 1, 1, 1, 1, 0, 1, 4] (st134_111111014 may e_Args 0 e_Kind e_Num e_Text e_Names e_Types e_Arms e_At) := by kernel_rfl
theorem e134_1111116 (may : Bool) (e_Kind : Int) (e_Num : Int) (e_Text : List UInt8) (e_Names : List PV) (e_Types : List PV) (e_Args : List PV) (e_Arms : List PV) (e_At : Int) : L134_1111116 may e_Kind e_Num e_Text e_Names e_Types e_Args e_Arms e_At =
  L134_111111014 may e_Args 0 e_Kind e_Num e_Text e_Names e_Types e_Arms e_At :=
  (LV_eq pa 134 _ _).trans (f134_1111116 may e_Kind e_Num e_Text e_Names e_Types e_Args e_Arms e_At V (LV Pr T 134))
theorem f134_111111014 (may : Bool) (e_Args : List PV) (i : Int) (e_Kind : Int) (e_Num : Int) (e_Text : List UInt8) (e_Names : List PV) (e_Types : List PV) (e_Arms : List PV) (e_At : Int) (cl_ : FuncId → List Arg → Option Out) (lp_ : List Nat → AS → Option Out) : stepW Pr T cl_ lp_ 134 [1, 1, 1, 1, 1, 1, 0, 1, 4] (st134_111111014 may e_Args i e_Kind e_Num e_Text e_Names e_Types e_Arms e_At) =
  bif decide (i < (e_Args.length : Int)) then
    bif decide (0 ≤ i) then
      (e_Args[i.toNat]?).bind fun x =>
        (bif (Sh.agg [Sh.int .i64, Sh.int .i64, Sh.str, Sh.lst, Sh.lst, Sh.lst, Sh.lst, Sh.int .i64]).fits x then
          bif may then
            ((cl_ 134 [.pv (.agg [.int .i64 ((x.c 0).toInt), .int .i64 ((x.c 1).toInt), .str ((x.c 2).toStr), .lst ((x.c 3).toLst), .lst ((x.c 4).toLst), .lst ((x.c 5).toLst), .lst ((x.c 6).toLst), .int .i64 ((x.c 7).toInt)]), .pv (.bool (e_Kind != (10 : Int)))]).bind retPV).bind fun r =>
              (bif (Sh.int .i64).fits r then
                bif ((r.toInt) != (0 : Int)) then
                  some (.pv (.int .i64 r.toInt), [])
                else lp_ [1, 1, 1, 1, 1, 1, 0, 1, 4] (st134_111111014 may e_Args (IntKind.i64.wrap (i + (1 : Int))) e_Kind e_Num e_Text e_Names e_Types e_Arms e_At)
              else none)
          else ((cl_ 134 [.pv (.agg [.int .i64 ((x.c 0).toInt), .int .i64 ((x.c 1).toInt), .str ((x.c 2).toStr), .lst ((x.c 3).toLst), .lst ((x.c 4).toLst), .lst ((x.c 5).toLst), .lst ((x.c 6).toLst), .int .i64 ((x.c 7).toInt)]), .pv (.bool false)]).bind retPV).bind fun r1 =>
            (bif (Sh.int .i64).fits r1 then
              bif ((r1.toInt) != (0 : Int)) then
                some (.pv (.int .i64 r1.toInt), [])
              else lp_ [1, 1, 1, 1, 1, 1, 0, 1, 4] (st134_111111014 may e_Args (IntKind.i64.wrap (i + (1 : Int))) e_Kind e_Num e_Text e_Names e_Types e_Arms e_At)
            else none)
        else none)
    else none
  else lp_ [1, 1, 1, 1, 1, 1, 1, 0, 1, 4] (st134_1111111014 may e_Arms 0) := by kernel_rfl
theorem e134_111111014 (may : Bool) (e_Args : List PV) (i : Int) (e_Kind : Int) (e_Num : Int) (e_Text : List UInt8) (e_Names : List PV) (e_Types : List PV) (e_Arms : List PV) (e_At : Int) : L134_111111014 may e_Args i e_Kind e_Num e_Text e_Names e_Types e_Arms e_At =
  bif decide (i < (e_Args.length : Int)) then
    bif decide (0 ≤ i) then
      (e_Args[i.toNat]?).bind fun x =>
        (bif (Sh.agg [Sh.int .i64, Sh.int .i64, Sh.str, Sh.lst, Sh.lst, Sh.lst, Sh.lst, Sh.int .i64]).fits x then
          bif may then
            ((V 134 [.pv (.agg [.int .i64 ((x.c 0).toInt), .int .i64 ((x.c 1).toInt), .str ((x.c 2).toStr), .lst ((x.c 3).toLst), .lst ((x.c 4).toLst), .lst ((x.c 5).toLst), .lst ((x.c 6).toLst), .int .i64 ((x.c 7).toInt)]), .pv (.bool (e_Kind != (10 : Int)))]).bind retPV).bind fun r =>
              (bif (Sh.int .i64).fits r then
                bif ((r.toInt) != (0 : Int)) then
                  some (.pv (.int .i64 r.toInt), [])
                else L134_111111014 may e_Args (IntKind.i64.wrap (i + (1 : Int))) e_Kind e_Num e_Text e_Names e_Types e_Arms e_At
              else none)
          else ((V 134 [.pv (.agg [.int .i64 ((x.c 0).toInt), .int .i64 ((x.c 1).toInt), .str ((x.c 2).toStr), .lst ((x.c 3).toLst), .lst ((x.c 4).toLst), .lst ((x.c 5).toLst), .lst ((x.c 6).toLst), .int .i64 ((x.c 7).toInt)]), .pv (.bool false)]).bind retPV).bind fun r1 =>
            (bif (Sh.int .i64).fits r1 then
              bif ((r1.toInt) != (0 : Int)) then
                some (.pv (.int .i64 r1.toInt), [])
              else L134_111111014 may e_Args (IntKind.i64.wrap (i + (1 : Int))) e_Kind e_Num e_Text e_Names e_Types e_Arms e_At
            else none)
        else none)
    else none
  else L134_1111111014 may e_Arms 0 :=
  (LV_eq pa 134 _ _).trans (f134_111111014 may e_Args i e_Kind e_Num e_Text e_Names e_Types e_Arms e_At V (LV Pr T 134))
theorem f134_1111111014 (may : Bool) (e_Arms : List PV) (i : Int) (cl_ : FuncId → List Arg → Option Out) (lp_ : List Nat → AS → Option Out) : stepW Pr T cl_ lp_ 134 [1, 1, 1, 1, 1, 1, 1, 0, 1, 4] (st134_1111111014 may e_Arms i) =
  bif decide (i < (e_Arms.length : Int)) then
    bif decide (0 ≤ i) then
      (e_Arms[i.toNat]?).bind fun x =>
        (bif (Sh.agg [Sh.int .i64, Sh.int .i64, Sh.str, Sh.lst, Sh.int .i64, Sh.int .i64, Sh.str, Sh.lst, Sh.lst, Sh.lst, Sh.lst, Sh.int .i64]).fits x then
          ((cl_ 146 [.pv (.agg [.int .i64 ((x.c 0).toInt), .int .i64 ((x.c 1).toInt), .str ((x.c 2).toStr), .lst ((x.c 3).toLst)])]).bind retPV).bind fun r =>
            (bif (Sh.int .i64).fits r then
              bif ((r.toInt) != (0 : Int)) then
                some (.pv (.int .i64 r.toInt), [])
              else ((cl_ 134 [.pv (.agg [.int .i64 ((x.c 4).toInt), .int .i64 ((x.c 5).toInt), .str ((x.c 6).toStr), .lst ((x.c 7).toLst), .lst ((x.c 8).toLst), .lst ((x.c 9).toLst), .lst ((x.c 10).toLst), .int .i64 ((x.c 11).toInt)]), .pv (.bool may)]).bind retPV).bind fun r1 =>
                (bif (Sh.int .i64).fits r1 then
                  bif ((r1.toInt) != (0 : Int)) then
                    some (.pv (.int .i64 r1.toInt), [])
                  else lp_ [1, 1, 1, 1, 1, 1, 1, 0, 1, 4] (st134_1111111014 may e_Arms (IntKind.i64.wrap (i + (1 : Int))))
                else none)
            else none)
        else none)
    else none
  else some (.pv (.int .i64 0), []) := by kernel_rfl
theorem e134_1111111014 (may : Bool) (e_Arms : List PV) (i : Int) : L134_1111111014 may e_Arms i =
  bif decide (i < (e_Arms.length : Int)) then
    bif decide (0 ≤ i) then
      (e_Arms[i.toNat]?).bind fun x =>
        (bif (Sh.agg [Sh.int .i64, Sh.int .i64, Sh.str, Sh.lst, Sh.int .i64, Sh.int .i64, Sh.str, Sh.lst, Sh.lst, Sh.lst, Sh.lst, Sh.int .i64]).fits x then
          ((V 146 [.pv (.agg [.int .i64 ((x.c 0).toInt), .int .i64 ((x.c 1).toInt), .str ((x.c 2).toStr), .lst ((x.c 3).toLst)])]).bind retPV).bind fun r =>
            (bif (Sh.int .i64).fits r then
              bif ((r.toInt) != (0 : Int)) then
                some (.pv (.int .i64 r.toInt), [])
              else ((V 134 [.pv (.agg [.int .i64 ((x.c 4).toInt), .int .i64 ((x.c 5).toInt), .str ((x.c 6).toStr), .lst ((x.c 7).toLst), .lst ((x.c 8).toLst), .lst ((x.c 9).toLst), .lst ((x.c 10).toLst), .int .i64 ((x.c 11).toInt)]), .pv (.bool may)]).bind retPV).bind fun r1 =>
                (bif (Sh.int .i64).fits r1 then
                  bif ((r1.toInt) != (0 : Int)) then
                    some (.pv (.int .i64 r1.toInt), [])
                  else L134_1111111014 may e_Arms (IntKind.i64.wrap (i + (1 : Int)))
                else none)
            else none)
        else none)
    else none
  else some (.pv (.int .i64 0), []) :=
  (LV_eq pa 134 _ _).trans (f134_1111111014 may e_Arms i V (LV Pr T 134))
/-! 143 roadstead/tree.formOf -/
def st143_101416 (kind : Int) (b : Bool) : AS :=
  ⟨[.any, .any, .box 0 0, .any, .pv (.int .i64 kind), .pv (.bool b), .any, .any, .any, .any, .any, .any, .any, .any, .any, .any, .any, .any, .any, .any, .any, .any, .any, .any, .any, .any, .any, .any, .any, .any, .any, .any, .any, .any, .any, .any, .any, .any, .any, .any, .any, .any, .any, .any, .any, .any, .any, .any, .any, .any, .any, .any, .any, .any, .any, .any, .any, .any, .any, .any, .any, .any, .any], ⟨[(false, [.pv (.int .i64 0), .pv (.int .i64 0), .pv (.int .i64 0), .pv (.bool false), .pv (.bool false)])], [], [], 0, 0⟩⟩
noncomputable def L143_101416 (kind : Int) (b : Bool) : Option Out := LV Pr T 143 [1, 0, 1, 4, 1, 6] (st143_101416 kind b)
def st143_10141316 (kind : Int) (b : Bool) : AS :=
  ⟨[.any, .any, .box 0 0, .any, .pv (.int .i64 kind), .any, .any, .any, .any, .pv (.bool b), .any, .any, .any, .any, .any, .any, .any, .any, .any, .any, .any, .any, .any, .any, .any, .any, .any, .any, .any, .any, .any, .any, .any, .any, .any, .any, .any, .any, .any, .any, .any, .any, .any, .any, .any, .any, .any, .any, .any, .any, .any, .any, .any, .any, .any, .any, .any, .any, .any, .any, .any, .any, .any], ⟨[(false, [.pv (.int .i64 0), .pv (.int .i64 0), .pv (.int .i64 0), .pv (.bool false), .pv (.bool false)])], [], [], 0, 0⟩⟩
noncomputable def L143_10141316 (kind : Int) (b : Bool) : Option Out := LV Pr T 143 [1, 0, 1, 4, 1, 3, 1, 6] (st143_10141316 kind b)
def st143_10141313131313131313131316 (kind : Int) (b : Bool) : AS :=
  ⟨[.any, .any, .box 0 0, .any, .pv (.int .i64 kind), .any, .any, .any, .any, .any, .any, .any, .any, .any, .any, .any, .any, .any, .any, .any, .any, .any, .any, .any, .any, .any, .any, .any, .any, .any, .any, .any, .any, .any, .any, .any, .any, .pv (.bool b), .any, .any, .any, .any, .any, .any, .any, .any, .any, .any, .any, .any, .any, .any, .any, .any, .any, .any, .any, .any, .any, .any, .any, .any, .any], ⟨[(false, [.pv (.int .i64 0), .pv (.int .i64 0), .pv (.int .i64 0), .pv (.bool false), .pv (.bool false)])], [], [], 0, 0⟩⟩
noncomputable def L143_10141313131313131313131316 (kind : Int) (b : Bool) : Option Out := LV Pr T 143 [1, 0, 1, 4, 1, 3, 1, 3, 1, 3, 1, 3, 1, 3, 1, 3, 1, 3, 1, 3, 1, 3, 1, 3, 1, 6] (st143_10141313131313131313131316 kind b)
def st143_10141313131313131313131313131316 (kind : Int) (b : Bool) : AS :=
  ⟨[.any, .any, .box 0 0, .any, .pv (.int .i64 kind), .any, .any, .any, .any, .any, .any, .any, .any, .any, .any, .any, .any, .any, .any, .any, .any, .any, .any, .any, .any, .any, .any, .any, .any, .any, .any, .any, .any, .any, .any, .any, .any, .any, .any, .any, .any, .any, .any, .any, .any, .any, .any, .pv (.bool b), .any, .any, .any, .any, .any, .any, .any, .any, .any, .any, .any, .any, .any, .any, .any], ⟨[(false, [.pv (.int .i64 0), .pv (.int .i64 0), .pv (.int .i64 0), .pv (.bool false), .pv (.bool false)])], [], [], 0, 0⟩⟩
noncomputable def L143_10141313131313131313131313131316 (kind : Int) (b : Bool) : Option Out := LV Pr T 143 [1, 0, 1, 4, 1, 3, 1, 3, 1, 3, 1, 3, 1, 3, 1, 3, 1, 3, 1, 3, 1, 3, 1, 3, 1, 3, 1, 3, 1, 3, 1, 6] (st143_10141313131313131313131313131316 kind b)
theorem f143 (kind : Int) (cl_ : FuncId → List Arg → Option Out) (lp_ : List Nat → AS → Option Out) : runW Pr T cl_ lp_ 143 [.pv (.int .i64 kind)] =
  bif (kind == (1 : Int)) then
    lp_ [1, 0, 1, 4, 1, 6] (st143_101416 kind (kind == (1 : Int)))
  else lp_ [1, 0, 1, 4, 1, 6] (st143_101416 kind (kind == (16 : Int))) := by kernel_rfl
theorem e143 (kind : Int) : V 143 [.pv (.int .i64 kind)] =
  bif (kind == (1 : Int)) then
    L143_101416 kind (kind == (1 : Int))
  else L143_101416 kind (kind == (16 : Int)) :=
  (V_eq pa rfl _).trans (f143 kind V (LV Pr T 143))
theorem f143_101416 (kind : Int) (b : Bool) (cl_ : FuncId → List Arg → Option Out) (lp_ : List Nat → AS → Option Out) : stepW Pr T cl_ lp_ 143 [1, 0, 1, 4, 1, 6] (st143_101416 kind b) =
  bif b then
    some (.pv (.tup [.agg [.int .i64 0, .int .i64 0, .int .i64 0, .bool false, .bool false], .bool true]), [])
  else bif (kind == (2 : Int)) then
    lp_ [1, 0, 1, 4, 1, 3, 1, 6] (st143_10141316 kind (kind == (2 : Int)))
  else lp_ [1, 0, 1, 4, 1, 3, 1, 6] (st143_10141316 kind (kind == (3 : Int))) := by kernel_rfl
theorem e143_101416 (kind : Int) (b : Bool) : L143_101416 kind b =
  bif b then
    some (.pv (.tup [.agg [.int .i64 0, .int .i64 0, .int .i64 0, .bool false, .bool false], .bool true]), [])
  else bif (kind == (2 : Int)) then
    L143_10141316 kind (kind == (2 : Int))
  else L143_10141316 kind (kind == (3 : Int)) :=
  (LV_eq pa 143 _ _).trans (f143_101416 kind b V (LV Pr T 143))
theorem f143_10141316 (kind : Int) (b : Bool) (cl_ : FuncId → List Arg → Option Out) (lp_ : List Nat → AS → Option Out) : stepW Pr T cl_ lp_ 143 [1, 0, 1, 4, 1, 3, 1, 6] (st143_10141316 kind b) =
  bif b then
    some (.pv (.tup [.agg [.int .i64 0, .int .i64 0, .int .i64 0, .bool true, .bool false], .bool true]), [])
  else bif (kind == (4 : Int)) then
    some (.pv (.tup [.agg [.int .i64 3, .int .i64 0, .int .i64 0, .bool false, .bool false], .bool true]), [])
  else bif (kind == (5 : Int)) then
    some (.pv (.tup [.agg [.int .i64 1, .int .i64 0, .int .i64 0, .bool false, .bool false], .bool true]), [])
  else bif (kind == (6 : Int)) then
    some (.pv (.tup [.agg [.int .i64 1, .int .i64 2, .int .i64 2, .bool false, .bool false], .bool true]), [])
  else bif (kind == (7 : Int)) then
    some (.pv (.tup [.agg [.int .i64 0, .int .i64 3, .int .i64 3, .bool false, .bool false], .bool true]), [])
  else bif (kind == (8 : Int)) then
    some (.pv (.tup [.agg [.int .i64 4, .int .i64 1, .int .i64 2, .bool false, .bool false], .bool true]), [])
  else bif (kind == (9 : Int)) then
    some (.pv (.tup [.agg [.int .i64 1, .int .i64 0, .int .i64 6, .bool false, .bool false], .bool true]), [])
  else bif (kind == (10 : Int)) then
    some (.pv (.tup [.agg [.int .i64 0, .int .i64 1, .int .i64 1, .bool false, .bool false], .bool true]), [])
  else bif (kind == (11 : Int)) then
    some (.pv (.tup [.agg [.int .i64 0, .int .i64 1, .int .i64 7, .bool false, .bool false], .bool true]), [])
  else bif (kind == (12 : Int)) then
    lp_ [1, 0, 1, 4, 1, 3, 1, 3, 1, 3, 1, 3, 1, 3, 1, 3, 1, 3, 1, 3, 1, 3, 1, 3, 1, 6] (st143_10141313131313131313131316 kind (kind == (12 : Int)))
  else lp_ [1, 0, 1, 4, 1, 3, 1, 3, 1, 3, 1, 3, 1, 3, 1, 3, 1, 3, 1, 3, 1, 3, 1, 3, 1, 6] (st143_10141313131313131313131316 kind (kind == (14 : Int))) := by kernel_rfl
theorem e143_10141316 (kind : Int) (b : Bool) : L143_10141316 kind b =
  bif b then
    some (.pv (.tup [.agg [.int .i64 0, .int .i64 0, .int .i64 0, .bool true, .bool false], .bool true]), [])
  else bif (kind == (4 : Int)) then
    some (.pv (.tup [.agg [.int .i64 3, .int .i64 0, .int .i64 0, .bool false, .bool false], .bool true]), [])
  else bif (kind == (5 : Int)) then
    some (.pv (.tup [.agg [.int .i64 1, .int .i64 0, .int .i64 0, .bool false, .bool false], .bool true]), [])
  else bif (kind == (6 : Int)) then
    some (.pv (.tup [.agg [.int .i64 1, .int .i64 2, .int .i64 2, .bool false, .bool false], .bool true]), [])
  else bif (kind == (7 : Int)) then
    some (.pv (.tup [.agg [.int .i64 0, .int .i64 3, .int .i64 3, .bool false, .bool false], .bool true]), [])
  else bif (kind == (8 : Int)) then
    some (.pv (.tup [.agg [.int .i64 4, .int .i64 1, .int .i64 2, .bool false, .bool false], .bool true]), [])
  else bif (kind == (9 : Int)) then
    some (.pv (.tup [.agg [.int .i64 1, .int .i64 0, .int .i64 6, .bool false, .bool false], .bool true]), [])
  else bif (kind == (10 : Int)) then
    some (.pv (.tup [.agg [.int .i64 0, .int .i64 1, .int .i64 1, .bool false, .bool false], .bool true]), [])
  else bif (kind == (11 : Int)) then
    some (.pv (.tup [.agg [.int .i64 0, .int .i64 1, .int .i64 7, .bool false, .bool false], .bool true]), [])
  else bif (kind == (12 : Int)) then
    L143_10141313131313131313131316 kind (kind == (12 : Int))
  else L143_10141313131313131313131316 kind (kind == (14 : Int)) :=
  (LV_eq pa 143 _ _).trans (f143_10141316 kind b V (LV Pr T 143))
theorem f143_10141313131313131313131316 (kind : Int) (b : Bool) (cl_ : FuncId → List Arg → Option Out) (lp_ : List Nat → AS → Option Out) : stepW Pr T cl_ lp_ 143 [1, 0, 1, 4, 1, 3, 1, 3, 1, 3, 1, 3, 1, 3, 1, 3, 1, 3, 1, 3, 1, 3, 1, 3, 1, 6] (st143_10141313131313131313131316 kind b) =
  bif b then
    some (.pv (.tup [.agg [.int .i64 2, .int .i64 0, .int .i64 6, .bool false, .bool false], .bool true]), [])
  else bif (kind == (13 : Int)) then
    some (.pv (.tup [.agg [.int .i64 0, .int .i64 1, .int .i64 1, .bool false, .bool true], .bool true]), [])
  else bif (kind == (18 : Int)) then
    some (.pv (.tup [.agg [.int .i64 0, .int .i64 0, .int .i64 1, .bool true, .bool true], .bool true]), [])
  else bif (kind == (15 : Int)) then
    lp_ [1, 0, 1, 4, 1, 3, 1, 3, 1, 3, 1, 3, 1, 3, 1, 3, 1, 3, 1, 3, 1, 3, 1, 3, 1, 3, 1, 3, 1, 3, 1, 6] (st143_10141313131313131313131313131316 kind (kind == (15 : Int)))
  else lp_ [1, 0, 1, 4, 1, 3, 1, 3, 1, 3, 1, 3, 1, 3, 1, 3, 1, 3, 1, 3, 1, 3, 1, 3, 1, 3, 1, 3, 1, 3, 1, 6] (st143_10141313131313131313131313131316 kind (kind == (23 : Int))) := by kernel_rfl
theorem e143_10141313131313131313131316 (kind : Int) (b : Bool) : L143_10141313131313131313131316 kind b =
  bif b then
    some (.pv (.tup [.agg [.int .i64 2, .int .i64 0, .int .i64 6, .bool false, .bool false], .bool true]), [])
  else bif (kind == (13 : Int)) then
    some (.pv (.tup [.agg [.int .i64 0, .int .i64 1, .int .i64 1, .bool false, .bool true], .bool true]), [])
  else bif (kind == (18 : Int)) then
    some (.pv (.tup [.agg [.int .i64 0, .int .i64 0, .int .i64 1, .bool true, .bool true], .bool true]), [])
  else bif (kind == (15 : Int)) then
    L143_10141313131313131313131313131316 kind (kind == (15 : Int))
  else L143_10141313131313131313131313131316 kind (kind == (23 : Int)) :=
  (LV_eq pa 143 _ _).trans (f143_10141313131313131313131316 kind b V (LV Pr T 143))
theorem f143_10141313131313131313131313131316 (kind : Int) (b : Bool) (cl_ : FuncId → List Arg → Option Out) (lp_ : List Nat → AS → Option Out) : stepW Pr T cl_ lp_ 143 [1, 0, 1, 4, 1, 3, 1, 3, 1, 3, 1, 3, 1, 3, 1, 3, 1, 3, 1, 3, 1, 3, 1, 3, 1, 3, 1, 3, 1, 3, 1, 6] (st143_10141313131313131313131313131316 kind b) =
  bif b then
    some (.pv (.tup [.agg [.int .i64 0, .int .i64 2, .int .i64 2, .bool false, .bool false], .bool true]), [])
  else bif (kind == (17 : Int)) then
    some (.pv (.tup [.agg [.int .i64 0, .int .i64 0, .int .i64 6, .bool false, .bool false], .bool true]), [])
  else bif (kind == (19 : Int)) then
    bif (kind == (19 : Int)) then
      some (.pv (.tup [.agg [.int .i64 0, .int .i64 1, .int .i64 1, .bool false, .bool false], .bool true]), [])
    else some (.pv (.tup [.agg [.int .i64 0, .int .i64 0, .int .i64 0, .bool false, .bool false], .bool false]), [])
  else bif (kind == (20 : Int)) then
    bif (kind == (20 : Int)) then
      some (.pv (.tup [.agg [.int .i64 0, .int .i64 1, .int .i64 1, .bool false, .bool false], .bool true]), [])
    else some (.pv (.tup [.agg [.int .i64 0, .int .i64 0, .int .i64 0, .bool false, .bool false], .bool false]), [])
  else bif (kind == (21 : Int)) then
    bif (kind == (21 : Int)) then
      some (.pv (.tup [.agg [.int .i64 0, .int .i64 1, .int .i64 1, .bool false, .bool false], .bool true]), [])
    else some (.pv (.tup [.agg [.int .i64 0, .int .i64 0, .int .i64 0, .bool false, .bool false], .bool false]), [])
  else bif (kind == (22 : Int)) then
    bif (kind == (22 : Int)) then
      some (.pv (.tup [.agg [.int .i64 0, .int .i64 1, .int .i64 1, .bool false, .bool false], .bool true]), [])
    else some (.pv (.tup [.agg [.int .i64 0, .int .i64 0, .int .i64 0, .bool false, .bool false], .bool false]), [])
  else bif (kind == (24 : Int)) then
    bif (kind == (24 : Int)) then
      some (.pv (.tup [.agg [.int .i64 0, .int .i64 1, .int .i64 1, .bool false, .bool false], .bool true]), [])
    else some (.pv (.tup [.agg [.int .i64 0, .int .i64 0, .int .i64 0, .bool false, .bool false], .bool false]), [])
  else bif (kind == (25 : Int)) then
    some (.pv (.tup [.agg [.int .i64 0, .int .i64 1, .int .i64 1, .bool false, .bool false], .bool true]), [])
  else some (.pv (.tup [.agg [.int .i64 0, .int .i64 0, .int .i64 0, .bool false, .bool false], .bool false]), []) := by kernel_rfl
theorem e143_10141313131313131313131313131316 (kind : Int) (b : Bool) : L143_10141313131313131313131313131316 kind b =
  bif b then
    some (.pv (.tup [.agg [.int .i64 0, .int .i64 2, .int .i64 2, .bool false, .bool false], .bool true]), [])
  else bif (kind == (17 : Int)) then
    some (.pv (.tup [.agg [.int .i64 0, .int .i64 0, .int .i64 6, .bool false, .bool false], .bool true]), [])
  else bif (kind == (19 : Int)) then
    bif (kind == (19 : Int)) then
      some (.pv (.tup [.agg [.int .i64 0, .int .i64 1, .int .i64 1, .bool false, .bool false], .bool true]), [])
    else some (.pv (.tup [.agg [.int .i64 0, .int .i64 0, .int .i64 0, .bool false, .bool false], .bool false]), [])
  else bif (kind == (20 : Int)) then
    bif (kind == (20 : Int)) then
      some (.pv (.tup [.agg [.int .i64 0, .int .i64 1, .int .i64 1, .bool false, .bool false], .bool true]), [])
    else some (.pv (.tup [.agg [.int .i64 0, .int .i64 0, .int .i64 0, .bool false, .bool false], .bool false]), [])
  else bif (kind == (21 : Int)) then
    bif (kind == (21 : Int)) then
      some (.pv (.tup [.agg [.int .i64 0, .int .i64 1, .int .i64 1, .bool false, .bool false], .bool true]), [])
    else some (.pv (.tup [.agg [.int .i64 0, .int .i64 0, .int .i64 0, .bool false, .bool false], .bool false]), [])
  else bif (kind == (22 : Int)) then
    bif (kind == (22 : Int)) then
      some (.pv (.tup [.agg [.int .i64 0, .int .i64 1, .int .i64 1, .bool false, .bool false], .bool true]), [])
    else some (.pv (.tup [.agg [.int .i64 0, .int .i64 0, .int .i64 0, .bool false, .bool false], .bool false]), [])
  else bif (kind == (24 : Int)) then
    bif (kind == (24 : Int)) then
      some (.pv (.tup [.agg [.int .i64 0, .int .i64 1, .int .i64 1, .bool false, .bool false], .bool true]), [])
    else some (.pv (.tup [.agg [.int .i64 0, .int .i64 0, .int .i64 0, .bool false, .bool false], .bool false]), [])
  else bif (kind == (25 : Int)) then
    some (.pv (.tup [.agg [.int .i64 0, .int .i64 1, .int .i64 1, .bool false, .bool false], .bool true]), [])
  else some (.pv (.tup [.agg [.int .i64 0, .int .i64 0, .int .i64 0, .bool false, .bool false], .bool false]), []) :=
  (LV_eq pa 143 _ _).trans (f143_10141313131313131313131313131316 kind b V (LV Pr T 143))
/-! 144 roadstead/tree.texted -/
def st144_110141316 (b : Bool) (e_Kind : Int) (e_Num : Int) (e_Text : List UInt8) (e_Names : List PV) (e_Types : List PV) (e_Args : List PV) (e_Arms : List PV) (e_At : Int) : AS :=
  ⟨[.any, .any, .box 0 0, .any, .any, .any, .any, .any, .any, .any, .any, .any, .any, .any, .any, .any, .any, .any, .any, .any, .any, .any, .any, .any, .any, .any, .any, .any, .any, .any, .any, .pv (.bool b), .any, .any, .any, .any, .any, .any, .any, .any, .any, .any, .any, .any, .any, .any], ⟨[(false, [.pv (.int .i64 e_Kind), .pv (.int .i64 e_Num), .pv (.str e_Text), .pv (.lst e_Names), .pv (.lst e_Types), .pv (.lst e_Args), .pv (.lst e_Arms), .pv (.int .i64 e_At)])], [], [], 0, 0⟩⟩
noncomputable def L144_110141316 (b : Bool) (e_Kind : Int) (e_Num : Int) (e_Text : List UInt8) (e_Names : List PV) (e_Types : List PV) (e_Args : List PV) (e_Arms : List PV) (e_At : Int) : Option Out := LV Pr T 144 [1, 1, 0, 1, 4, 1, 3, 1, 6] (st144_110141316 b e_Kind e_Num e_Text e_Names e_Types e_Args e_Arms e_At)
theorem f144 (e_Kind : Int) (e_Num : Int) (e_Text : List UInt8) (e_Names : List PV) (e_Types : List PV) (e_Args : List PV) (e_Arms : List PV) (e_At : Int) (how : Int) (cl_ : FuncId → List Arg → Option Out) (lp_ : List Nat → AS → Option Out) : runW Pr T cl_ lp_ 144 [.pv (.agg [.int .i64 e_Kind, .int .i64 e_Num, .str e_Text, .lst e_Names, .lst e_Types, .lst e_Args, .lst e_Arms, .int .i64 e_At]), .pv (.int .i64 how)] =
  bif (how == (0 : Int)) then
    some (.pv (.bool (e_Text == ([] : List UInt8))), [])
  else bif (how == (1 : Int)) then
    ((cl_ 65 [.pv (.str e_Text)]).bind retPV).bind fun r =>
      (bif (Sh.bool).fits r then
        some (.pv (.bool r.toBool), [])
      else none)
  else bif (how == (2 : Int)) then
    ((cl_ 105 [.pv (.str e_Text)]).bind retPV).bind fun r1 =>
      (bif (Sh.bool).fits r1 then
        some (.pv (.bool r1.toBool), [])
      else none)
  else bif (how == (3 : Int)) then
    some (.pv (.bool true), [])
  else bif (e_Text == ([110, 111, 116] : List UInt8)) then
    some (.pv (.bool ((e_Args.length : Int) == (1 : Int))), [])
  else bif (e_Text == ([43] : List UInt8)) then
    lp_ [1, 1, 0, 1, 4, 1, 3, 1, 6] (st144_110141316 (e_Text == ([43] : List UInt8)) e_Kind e_Num e_Text e_Names e_Types e_Args e_Arms e_At)
  else bif (e_Text == ([45] : List UInt8)) then
    lp_ [1, 1, 0, 1, 4, 1, 3, 1, 6] (st144_110141316 (e_Text == ([45] : List UInt8)) e_Kind e_Num e_Text e_Names e_Types e_Args e_Arms e_At)
  else bif (e_Text == ([42] : List UInt8)) then
    lp_ [1, 1, 0, 1, 4, 1, 3, 1, 6] (st144_110141316 (e_Text == ([42] : List UInt8)) e_Kind e_Num e_Text e_Names e_Types e_Args e_Arms e_At)
  else bif (e_Text == ([47] : List UInt8)) then
    lp_ [1, 1, 0, 1, 4, 1, 3, 1, 6] (st144_110141316 (e_Text == ([47] : List UInt8)) e_Kind e_Num e_Text e_Names e_Types e_Args e_Arms e_At)
  else bif (e_Text == ([37] : List UInt8)) then
    lp_ [1, 1, 0, 1, 4, 1, 3, 1, 6] (st144_110141316 (e_Text == ([37] : List UInt8)) e_Kind e_Num e_Text e_Names e_Types e_Args e_Arms e_At)
  else bif (e_Text == ([60] : List UInt8)) then
    lp_ [1, 1, 0, 1, 4, 1, 3, 1, 6] (st144_110141316 (e_Text == ([60] : List UInt8)) e_Kind e_Num e_Text e_Names e_Types e_Args e_Arms e_At)
  else bif (e_Text == ([61] : List UInt8)) then
    lp_ [1, 1, 0, 1, 4, 1, 3, 1, 6] (st144_110141316 (e_Text == ([61] : List UInt8)) e_Kind e_Num e_Text e_Names e_Types e_Args e_Arms e_At)
  else bif (e_Text == ([94] : List UInt8)) then
    lp_ [1, 1, 0, 1, 4, 1, 3, 1, 6] (st144_110141316 (e_Text == ([94] : List UInt8)) e_Kind e_Num e_Text e_Names e_Types e_Args e_Arms e_At)
  else bif (e_Text == ([97, 110, 100] : List UInt8)) then
    lp_ [1, 1, 0, 1, 4, 1, 3, 1, 6] (st144_110141316 (e_Text == ([97, 110, 100] : List UInt8)) e_Kind e_Num e_Text e_Names e_Types e_Args e_Arms e_At)
  else lp_ [1, 1, 0, 1, 4, 1, 3, 1, 6] (st144_110141316 (e_Text == ([111, 114] : List UInt8)) e_Kind e_Num e_Text e_Names e_Types e_Args e_Arms e_At) := by kernel_rfl
theorem e144 (e_Kind : Int) (e_Num : Int) (e_Text : List UInt8) (e_Names : List PV) (e_Types : List PV) (e_Args : List PV) (e_Arms : List PV) (e_At : Int) (how : Int) : V 144 [.pv (.agg [.int .i64 e_Kind, .int .i64 e_Num, .str e_Text, .lst e_Names, .lst e_Types, .lst e_Args, .lst e_Arms, .int .i64 e_At]), .pv (.int .i64 how)] =
  bif (how == (0 : Int)) then
    some (.pv (.bool (e_Text == ([] : List UInt8))), [])
  else bif (how == (1 : Int)) then
    ((V 65 [.pv (.str e_Text)]).bind retPV).bind fun r =>
      (bif (Sh.bool).fits r then
        some (.pv (.bool r.toBool), [])
      else none)
  else bif (how == (2 : Int)) then
    ((V 105 [.pv (.str e_Text)]).bind retPV).bind fun r1 =>
      (bif (Sh.bool).fits r1 then
        some (.pv (.bool r1.toBool), [])
      else none)
  else bif (how == (3 : Int)) then
    some (.pv (.bool true), [])
  else bif (e_Text == ([110, 111, 116] : List UInt8)) then
    some (.pv (.bool ((e_Args.length : Int) == (1 : Int))), [])
  else bif (e_Text == ([43] : List UInt8)) then
    L144_110141316 (e_Text == ([43] : List UInt8)) e_Kind e_Num e_Text e_Names e_Types e_Args e_Arms e_At
  else bif (e_Text == ([45] : List UInt8)) then
    L144_110141316 (e_Text == ([45] : List UInt8)) e_Kind e_Num e_Text e_Names e_Types e_Args e_Arms e_At
  else bif (e_Text == ([42] : List UInt8)) then
    L144_110141316 (e_Text == ([42] : List UInt8)) e_Kind e_Num e_Text e_Names e_Types e_Args e_Arms e_At
  else bif (e_Text == ([47] : List UInt8)) then
    L144_110141316 (e_Text == ([47] : List UInt8)) e_Kind e_Num e_Text e_Names e_Types e_Args e_Arms e_At
  else bif (e_Text == ([37] : List UInt8)) then
    L144_110141316 (e_Text == ([37] : List UInt8)) e_Kind e_Num e_Text e_Names e_Types e_Args e_Arms e_At
  else bif (e_Text == ([60] : List UInt8)) then
    L144_110141316 (e_Text == ([60] : List UInt8)) e_Kind e_Num e_Text e_Names e_Types e_Args e_Arms e_At
  else bif (e_Text == ([61] : List UInt8)) then
    L144_110141316 (e_Text == ([61] : List UInt8)) e_Kind e_Num e_Text e_Names e_Types e_Args e_Arms e_At
  else bif (e_Text == ([94] : List UInt8)) then
    L144_110141316 (e_Text == ([94] : List UInt8)) e_Kind e_Num e_Text e_Names e_Types e_Args e_Arms e_At
  else bif (e_Text == ([97, 110, 100] : List UInt8)) then
    L144_110141316 (e_Text == ([97, 110, 100] : List UInt8)) e_Kind e_Num e_Text e_Names e_Types e_Args e_Arms e_At
  else L144_110141316 (e_Text == ([111, 114] : List UInt8)) e_Kind e_Num e_Text e_Names e_Types e_Args e_Arms e_At :=
  (V_eq pa rfl _).trans (f144 e_Kind e_Num e_Text e_Names e_Types e_Args e_Arms e_At how V (LV Pr T 144))
theorem f144_110141316 (b : Bool) (e_Kind : Int) (e_Num : Int) (e_Text : List UInt8) (e_Names : List PV) (e_Types : List PV) (e_Args : List PV) (e_Arms : List PV) (e_At : Int) (cl_ : FuncId → List Arg → Option Out) (lp_ : List Nat → AS → Option Out) : stepW Pr T cl_ lp_ 144 [1, 1, 0, 1, 4, 1, 3, 1, 6] (st144_110141316 b e_Kind e_Num e_Text e_Names e_Types e_Args e_Arms e_At) =
  bif b then
    some (.pv (.bool ((e_Args.length : Int) == (2 : Int))), [])
  else some (.pv (.bool false), []) := by kernel_rfl
theorem e144_110141316 (b : Bool) (e_Kind : Int) (e_Num : Int) (e_Text : List UInt8) (e_Names : List PV) (e_Types : List PV) (e_Args : List PV) (e_Arms : List PV) (e_At : Int) : L144_110141316 b e_Kind e_Num e_Text e_Names e_Types e_Args e_Arms e_At =
  bif b then
    some (.pv (.bool ((e_Args.length : Int) == (2 : Int))), [])
  else some (.pv (.bool false), []) :=
  (LV_eq pa 144 _ _).trans (f144_110141316 b e_Kind e_Num e_Text e_Names e_Types e_Args e_Arms e_At V (LV Pr T 144))
/-! 145 roadstead/tree.numbered -/
theorem f145 (e_Kind : Int) (e_Num : Int) (e_Text : List UInt8) (e_Names : List PV) (e_Types : List PV) (e_Args : List PV) (e_Arms : List PV) (e_At : Int) (f_text : Int) (f_low : Int) (f_high : Int) (f_num : Bool) (f_arms : Bool) (cl_ : FuncId → List Arg → Option Out) (lp_ : List Nat → AS → Option Out) : runW Pr T cl_ lp_ 145 [.pv (.agg [.int .i64 e_Kind, .int .i64 e_Num, .str e_Text, .lst e_Names, .lst e_Types, .lst e_Args, .lst e_Arms, .int .i64 e_At]), .pv (.agg [.int .i64 f_text, .int .i64 f_low, .int .i64 f_high, .bool f_num, .bool f_arms])] =
  bif (e_Kind == (3 : Int)) then
    bif (e_Num == (0 : Int)) then
      some (.pv (.bool true), [])
    else some (.pv (.bool (e_Num == (1 : Int))), [])
  else bif (e_Kind == (18 : Int)) then
    bif (e_Num == (-1 : Int)) then
      bif ((e_Args.length : Int) == (0 : Int)) then
        some (.pv (.bool true), [])
      else bif decide (e_Num ≥ (0 : Int)) then
        bif decide (e_Num ≤ (1000000 : Int)) then
          some (.pv (.bool ((e_Args.length : Int) == (1 : Int))), [])
        else some (.pv (.bool false), [])
      else some (.pv (.bool false), [])
    else bif decide (e_Num ≥ (0 : Int)) then
      bif decide (e_Num ≤ (1000000 : Int)) then
        some (.pv (.bool ((e_Args.length : Int) == (1 : Int))), [])
      else some (.pv (.bool false), [])
    else some (.pv (.bool false), [])
  else bif f_num then
    some (.pv (.bool true), [])
  else some (.pv (.bool (e_Num == (0 : Int))), []) := by kernel_rfl
theorem e145 (e_Kind : Int) (e_Num : Int) (e_Text : List UInt8) (e_Names : List PV) (e_Types : List PV) (e_Args : List PV) (e_Arms : List PV) (e_At : Int) (f_text : Int) (f_low : Int) (f_high : Int) (f_num : Bool) (f_arms : Bool) : V 145 [.pv (.agg [.int .i64 e_Kind, .int .i64 e_Num, .str e_Text, .lst e_Names, .lst e_Types, .lst e_Args, .lst e_Arms, .int .i64 e_At]), .pv (.agg [.int .i64 f_text, .int .i64 f_low, .int .i64 f_high, .bool f_num, .bool f_arms])] =
  bif (e_Kind == (3 : Int)) then
    bif (e_Num == (0 : Int)) then
      some (.pv (.bool true), [])
    else some (.pv (.bool (e_Num == (1 : Int))), [])
  else bif (e_Kind == (18 : Int)) then
    bif (e_Num == (-1 : Int)) then
      bif ((e_Args.length : Int) == (0 : Int)) then
        some (.pv (.bool true), [])
      else bif decide (e_Num ≥ (0 : Int)) then
        bif decide (e_Num ≤ (1000000 : Int)) then
          some (.pv (.bool ((e_Args.length : Int) == (1 : Int))), [])
        else some (.pv (.bool false), [])
      else some (.pv (.bool false), [])
    else bif decide (e_Num ≥ (0 : Int)) then
      bif decide (e_Num ≤ (1000000 : Int)) then
        some (.pv (.bool ((e_Args.length : Int) == (1 : Int))), [])
      else some (.pv (.bool false), [])
    else some (.pv (.bool false), [])
  else bif f_num then
    some (.pv (.bool true), [])
  else some (.pv (.bool (e_Num == (0 : Int))), []) :=
  (V_eq pa rfl _).trans (f145 e_Kind e_Num e_Text e_Names e_Types e_Args e_Arms e_At f_text f_low f_high f_num f_arms V (LV Pr T 145))
/-! 146 roadstead/tree.pat -/
def st146_116 (b : Bool) (p_Kind : Int) (p_Num : Int) (p_Text : List UInt8) (p_Args : List PV) : AS :=
  ⟨[.any, .box 0 0, .any, .pv (.bool b), .any, .any, .any, .any, .any, .any, .any, .any, .any, .any, .any, .any, .any, .any, .any, .any, .any, .any, .any, .any, .any, .any, .any, .any, .any, .any, .any, .any, .any, .any, .any, .any, .any, .any, .any, .any, .any, .any, .any, .any, .any, .any, .any, .any, .any, .any, .any, .any, .any, .any, .any, .any, .any, .any, .any, .any, .any, .any, .any, .any, .any, .any, .any, .any, .any, .any, .any, .any, .any, .any, .any, .any, .any, .any, .any, .any, .any, .any, .any, .any, .any, .any, .any, .any, .any, .any, .any, .any, .any, .any, .any, .any, .any, .any, .any, .any, .any, .any, .any, .any, .any, .any, .any, .any, .any, .any, .any, .any, .any, .any], ⟨[(false, [.pv (.int .i64 p_Kind), .pv (.int .i64 p_Num), .pv (.str p_Text), .pv (.lst p_Args)])], [], [], 0, 0⟩⟩
noncomputable def L146_116 (b : Bool) (p_Kind : Int) (p_Num : Int) (p_Text : List UInt8) (p_Args : List PV) : Option Out := LV Pr T 146 [1, 1, 6] (st146_116 b p_Kind p_Num p_Text p_Args)
def st146_1116 (b : Bool) (p_Kind : Int) (p_Num : Int) (p_Text : List UInt8) (p_Args : List PV) : AS :=
  ⟨[.any, .box 0 0, .any, .pv (.bool b), .any, .any, .any, .any, .any, .any, .any, .any, .any, .any, .any, .any, .any, .any, .any, .any, .any, .any, .any, .any, .any, .any, .any, .any, .any, .any, .any, .any, .any, .any, .any, .any, .any, .any, .any, .any, .any, .any, .any, .any, .any, .any, .any, .any, .any, .any, .any, .any, .any, .any, .any, .any, .any, .any, .any, .any, .any, .any, .any, .any, .any, .any, .any, .any, .any, .any, .any, .any, .any, .any, .any, .any, .any, .any, .any, .any, .any, .any, .any, .any, .any, .any, .any, .any, .any, .any, .any, .any, .any, .any, .any, .any, .any, .any, .any, .any, .any, .any, .any, .any, .any, .any, .any, .any, .any, .any, .any, .any, .any, .any], ⟨[(false, [.pv (.int .i64 p_Kind), .pv (.int .i64 p_Num), .pv (.str p_Text), .pv (.lst p_Args)])], [], [], 0, 0⟩⟩
noncomputable def L146_1116 (b : Bool) (p_Kind : Int) (p_Num : Int) (p_Text : List UInt8) (p_Args : List PV) : Option Out := LV Pr T 146 [1, 1, 1, 6] (st146_1116 b p_Kind p_Num p_Text p_Args)
def st146_11014131313131216 (b : Bool) (p_Kind : Int) (p_Num : Int) (p_Text : List UInt8) (p_Args : List PV) : AS :=
  ⟨[.any, .box 0 0, .any, .pv (.bool b), .any, .any, .any, .any, .any, .any, .any, .any, .any, .any, .any, .any, .any, .any, .any, .any, .any, .any, .any, .any, .any, .any, .any, .any, .any, .any, .any, .any, .any, .any, .any, .any, .any, .any, .any, .any, .any, .any, .any, .any, .any, .any, .any, .any, .any, .any, .any, .any, .any, .any, .any, .any, .any, .any, .any, .any, .any, .any, .any, .any, .any, .any, .any, .any, .any, .any, .any, .any, .any, .any, .any, .any, .any, .any, .any, .any, .any, .any, .any, .any, .any, .any, .any, .any, .any, .any, .any, .any, .any, .any, .any, .any, .any, .any, .any, .any, .any, .any, .any, .any, .any, .any, .any, .any, .any, .any, .any, .any, .any, .any], ⟨[(false, [.pv (.int .i64 p_Kind), .pv (.int .i64 p_Num), .pv (.str p_Text), .pv (.lst p_Args)])], [], [], 0, 0⟩⟩
noncomputable def L146_11014131313131216 (b : Bool) (p_Kind : Int) (p_Num : Int) (p_Text : List UInt8) (p_Args : List PV) : Option Out := LV Pr T 146 [1, 1, 0, 1, 4, 1, 3, 1, 3, 1, 3, 1, 3, 1, 2, 1, 6] (st146_11014131313131216 b p_Kind p_Num p_Text p_Args)
def st146_11111014 (p_Args : List PV) (i : Int) : AS :=
  ⟨[.any, .any, .any, .any, .any, .any, .any, .any, .any, .any, .any, .any, .any, .any, .any, .any, .any, .any, .any, .any, .any, .any, .any, .any, .any, .any, .any, .any, .any, .any, .any, .any, .any, .any, .any, .any, .any, .any, .any, .any, .any, .any, .any, .any, .any, .any, .any, .any, .any, .any, .any, .any, .any, .any, .any, .any, .any, .any, .any, .any, .any, .any, .any, .any, .any, .any, .any, .any, .any, .any, .any, .any, .any, .any, .any, .any, .any, .any, .any, .any, .any, .any, .any, .any, .any, .any, .any, .any, .any, .any, .any, .any, .any, .any, .any, .any, .any, .any, .any, .any, .any, .any, .pv (.lst p_Args), .pv (.int .i64 (p_Args.length : Int)), .pv (.int .i64 i), .any, .any, .any, .any, .any, .any, .any, .any, .any], ⟨[], [], [], 0, 0⟩⟩
noncomputable def L146_11111014 (p_Args : List PV) (i : Int) : Option Out := LV Pr T 146 [1, 1, 1, 1, 1, 0, 1, 4] (st146_11111014 p_Args i)
theorem f146 (p_Kind : Int) (p_Num : Int) (p_Text : List UInt8) (p_Args : List PV) (cl_ : FuncId → List Arg → Option Out) (lp_ : List Nat → AS → Option Out) : runW Pr T cl_ lp_ 146 [.pv (.agg [.int .i64 p_Kind, .int .i64 p_Num, .str p_Text, .lst p_Args])] =
  bif (p_Kind == (6 : Int)) then
    lp_ [1, 1, 6] (st146_116 true p_Kind p_Num p_Text p_Args)
  else lp_ [1, 1, 6] (st146_116 ((p_Args.length : Int) == (0 : Int)) p_Kind p_Num p_Text p_Args) := by kernel_rfl
theorem e146 (p_Kind : Int) (p_Num : Int) (p_Text : List UInt8) (p_Args : List PV) : V 146 [.pv (.agg [.int .i64 p_Kind, .int .i64 p_Num, .str p_Text, .lst p_Args])] =
  bif (p_Kind == (6 : Int)) then
    L146_116 true p_Kind p_Num p_Text p_Args
  else L146_116 ((p_Args.length : Int) == (0 : Int)) p_Kind p_Num p_Text p_Args :=
  (V_eq pa rfl _).trans (f146 p_Kind p_Num p_Text p_Args V (LV Pr T 146))
theorem f146_116 (b : Bool) (p_Kind : Int) (p_Num : Int) (p_Text : List UInt8) (p_Args : List PV) (cl_ : FuncId → List Arg → Option Out) (lp_ : List Nat → AS → Option Out) : stepW Pr T cl_ lp_ 146 [1, 1, 6] (st146_116 b p_Kind p_Num p_Text p_Args) =
  bif (p_Kind == (1 : Int)) then
    bif b then
      bif (p_Num == (0 : Int)) then
        lp_ [1, 1, 1, 6] (st146_1116 (p_Text == ([] : List UInt8)) p_Kind p_Num p_Text p_Args)
      else lp_ [1, 1, 1, 6] (st146_1116 false p_Kind p_Num p_Text p_Args)
    else lp_ [1, 1, 1, 6] (st146_1116 false p_Kind p_Num p_Text p_Args)
  else bif (p_Kind == (2 : Int)) then
    bif b then
      bif (p_Num == (0 : Int)) then
        ((cl_ 65 [.pv (.str p_Text)]).bind retPV).bind fun r =>
          (bif (Sh.bool).fits r then
            lp_ [1, 1, 1, 6] (st146_1116 r.toBool p_Kind p_Num p_Text p_Args)
          else none)
      else lp_ [1, 1, 1, 6] (st146_1116 false p_Kind p_Num p_Text p_Args)
    else lp_ [1, 1, 1, 6] (st146_1116 false p_Kind p_Num p_Text p_Args)
  else bif (p_Kind == (3 : Int)) then
    bif b then
      lp_ [1, 1, 1, 6] (st146_1116 (p_Text == ([] : List UInt8)) p_Kind p_Num p_Text p_Args)
    else lp_ [1, 1, 1, 6] (st146_1116 false p_Kind p_Num p_Text p_Args)
  else bif (p_Kind == (4 : Int)) then
    bif b then
      bif (p_Num == (0 : Int)) then
        lp_ [1, 1, 1, 6] (st146_1116 (p_Text == ([] : List UInt8)) p_Kind p_Num p_Text p_Args)
      else bif (p_Num == (1 : Int)) then
        lp_ [1, 1, 1, 6] (st146_1116 (p_Text == ([] : List UInt8)) p_Kind p_Num p_Text p_Args)
      else lp_ [1, 1, 1, 6] (st146_1116 false p_Kind p_Num p_Text p_Args)
    else lp_ [1, 1, 1, 6] (st146_1116 false p_Kind p_Num p_Text p_Args)
  else bif (p_Kind == (5 : Int)) then
    bif b then
      lp_ [1, 1, 0, 1, 4, 1, 3, 1, 3, 1, 3, 1, 3, 1, 2, 1, 6] (st146_11014131313131216 (p_Num == (0 : Int)) p_Kind p_Num p_Text p_Args)
    else lp_ [1, 1, 0, 1, 4, 1, 3, 1, 3, 1, 3, 1, 3, 1, 2, 1, 6] (st146_11014131313131216 false p_Kind p_Num p_Text p_Args)
  else bif (p_Kind == (6 : Int)) then
    bif b then
      bif (p_Num == (0 : Int)) then
        ((cl_ 105 [.pv (.str p_Text)]).bind retPV).bind fun r1 =>
          (bif (Sh.bool).fits r1 then
            lp_ [1, 1, 1, 6] (st146_1116 r1.toBool p_Kind p_Num p_Text p_Args)
          else none)
      else lp_ [1, 1, 1, 6] (st146_1116 false p_Kind p_Num p_Text p_Args)
    else lp_ [1, 1, 1, 6] (st146_1116 false p_Kind p_Num p_Text p_Args)
  else lp_ [1, 1, 1, 6] (st146_1116 false p_Kind p_Num p_Text p_Args) := by kernel_rfl
theorem e146_116 (b : Bool) (p_Kind : Int) (p_Num : Int) (p_Text : List UInt8) (p_Args : List PV) : L146_116 b p_Kind p_Num p_Text p_Args =
  bif (p_Kind == (1 : Int)) then
    bif b then
      bif (p_Num == (0 : Int)) then
        L146_1116 (p_Text == ([] : List UInt8)) p_Kind p_Num p_Text p_Args
      else L146_1116 false p_Kind p_Num p_Text p_Args
    else L146_1116 false p_Kind p_Num p_Text p_Args
  else bif (p_Kind == (2 : Int)) then
    bif b then
      bif (p_Num == (0 : Int)) then
        ((V 65 [.pv (.str p_Text)]).bind retPV).bind fun r =>
          (bif (Sh.bool).fits r then
            L146_1116 r.toBool p_Kind p_Num p_Text p_Args
          else none)
      else L146_1116 false p_Kind p_Num p_Text p_Args
    else L146_1116 false p_Kind p_Num p_Text p_Args
  else bif (p_Kind == (3 : Int)) then
    bif b then
      L146_1116 (p_Text == ([] : List UInt8)) p_Kind p_Num p_Text p_Args
    else L146_1116 false p_Kind p_Num p_Text p_Args
  else bif (p_Kind == (4 : Int)) then
    bif b then
      bif (p_Num == (0 : Int)) then
        L146_1116 (p_Text == ([] : List UInt8)) p_Kind p_Num p_Text p_Args
      else bif (p_Num == (1 : Int)) then
        L146_1116 (p_Text == ([] : List UInt8)) p_Kind p_Num p_Text p_Args
      else L146_1116 false p_Kind p_Num p_Text p_Args
    else L146_1116 false p_Kind p_Num p_Text p_Args
  else bif (p_Kind == (5 : Int)) then
    bif b then
      L146_11014131313131216 (p_Num == (0 : Int)) p_Kind p_Num p_Text p_Args
    else L146_11014131313131216 false p_Kind p_Num p_Text p_Args
  else bif (p_Kind == (6 : Int)) then
    bif b then
      bif (p_Num == (0 : Int)) then
        ((V 105 [.pv (.str p_Text)]).bind retPV).bind fun r1 =>
          (bif (Sh.bool).fits r1 then
            L146_1116 r1.toBool p_Kind p_Num p_Text p_Args
          else none)
      else L146_1116 false p_Kind p_Num p_Text p_Args
    else L146_1116 false p_Kind p_Num p_Text p_Args
  else L146_1116 false p_Kind p_Num p_Text p_Args :=
  (LV_eq pa 146 _ _).trans (f146_116 b p_Kind p_Num p_Text p_Args V (LV Pr T 146))
theorem f146_1116 (b : Bool) (p_Kind : Int) (p_Num : Int) (p_Text : List UInt8) (p_Args : List PV) (cl_ : FuncId → List Arg → Option Out) (lp_ : List Nat → AS → Option Out) : stepW Pr T cl_ lp_ 146 [1, 1, 1, 6] (st146_1116 b p_Kind p_Num p_Text p_Args) =
  bif (!b) then
    some (.pv (.int .i64 3), [])
  else bif decide ((p_Args.length : Int) > (6 : Int)) then
    some (.pv (.int .i64 2), [])
  else lp_ [1, 1, 1, 1, 1, 0, 1, 4] (st146_11111014 p_Args 0) := by kernel_rfl
theorem e146_1116 (b : Bool) (p_Kind : Int) (p_Num : Int) (p_Text : List UInt8) (p_Args : List PV) : L146_1116 b p_Kind p_Num p_Text p_Args =
  bif (!b) then
    some (.pv (.int .i64 3), [])
  else bif decide ((p_Args.length : Int) > (6 : Int)) then
    some (.pv (.int .i64 2), [])
  else L146_11111014 p_Args 0 :=
  (LV_eq pa 146 _ _).trans (f146_1116 b p_Kind p_Num p_Text p_Args V (LV Pr T 146))
theorem f146_11014131313131216 (b : Bool) (p_Kind : Int) (p_Num : Int) (p_Text : List UInt8) (p_Args : List PV) (cl_ : FuncId → List Arg → Option Out) (lp_ : List Nat → AS → Option Out) : stepW Pr T cl_ lp_ 146 [1, 1, 0, 1, 4, 1, 3, 1, 3, 1, 3, 1, 3, 1, 2, 1, 6] (st146_11014131313131216 b p_Kind p_Num p_Text p_Args) =
  bif decide ((p_Text.length : Int) > (64 : Int)) then
    some (.pv (.int .i64 2), [])
  else lp_ [1, 1, 1, 6] (st146_1116 b p_Kind p_Num p_Text p_Args) := by kernel_rfl
theorem e146_11014131313131216 (b : Bool) (p_Kind : Int) (p_Num : Int) (p_Text : List UInt8) (p_Args : List PV) : L146_11014131313131216 b p_Kind p_Num p_Text p_Args =
  bif decide ((p_Text.length : Int) > (64 : Int)) then
    some (.pv (.int .i64 2), [])
  else L146_1116 b p_Kind p_Num p_Text p_Args :=
  (LV_eq pa 146 _ _).trans (f146_11014131313131216 b p_Kind p_Num p_Text p_Args V (LV Pr T 146))
theorem f146_11111014 (p_Args : List PV) (i : Int) (cl_ : FuncId → List Arg → Option Out) (lp_ : List Nat → AS → Option Out) : stepW Pr T cl_ lp_ 146 [1, 1, 1, 1, 1, 0, 1, 4] (st146_11111014 p_Args i) =
  bif decide (i < (p_Args.length : Int)) then
    bif decide (0 ≤ i) then
      (p_Args[i.toNat]?).bind fun x =>
        (bif (Sh.agg [Sh.int .i64, Sh.int .i64, Sh.str, Sh.lst]).fits x then
          ((cl_ 146 [.pv (.agg [.int .i64 ((x.c 0).toInt), .int .i64 ((x.c 1).toInt), .str ((x.c 2).toStr), .lst ((x.c 3).toLst)])]).bind retPV).bind fun r =>
            (bif (Sh.int .i64).fits r then
              bif ((r.toInt) != (0 : Int)) then
                some (.pv (.int .i64 r.toInt), [])
              else lp_ [1, 1, 1, 1, 1, 0, 1, 4] (st146_11111014 p_Args (IntKind.i64.wrap (i + (1 : Int))))
            else none)
        else none)
    else none
  else some (.pv (.int .i64 0), []) := by kernel_rfl
theorem e146_11111014 (p_Args : List PV) (i : Int) : L146_11111014 p_Args i =
  bif decide (i < (p_Args.length : Int)) then
    bif decide (0 ≤ i) then
      (p_Args[i.toNat]?).bind fun x =>
        (bif (Sh.agg [Sh.int .i64, Sh.int .i64, Sh.str, Sh.lst]).fits x then
          ((V 146 [.pv (.agg [.int .i64 ((x.c 0).toInt), .int .i64 ((x.c 1).toInt), .str ((x.c 2).toStr), .lst ((x.c 3).toLst)])]).bind retPV).bind fun r =>
            (bif (Sh.int .i64).fits r then
              bif ((r.toInt) != (0 : Int)) then
                some (.pv (.int .i64 r.toInt), [])
              else L146_11111014 p_Args (IntKind.i64.wrap (i + (1 : Int)))
            else none)
        else none)
    else none
  else some (.pv (.int .i64 0), []) :=
  (LV_eq pa 146 _ _).trans (f146_11111014 p_Args i V (LV Pr T 146))
/-! 16 roadstead/tree.SameExpr -/
theorem f16 (a_Kind : Int) (a_Num : Int) (a_Text : List UInt8) (a_Names : List PV) (a_Types : List PV) (a_Args : List PV) (a_Arms : List PV) (a_At : Int) (b_Kind : Int) (b_Num : Int) (b_Text : List UInt8) (b_Names : List PV) (b_Types : List PV) (b_Args : List PV) (b_Arms : List PV) (b_At : Int) (cl_ : FuncId → List Arg → Option Out) (lp_ : List Nat → AS → Option Out) : runW Pr T cl_ lp_ 16 [.pv (.agg [.int .i64 a_Kind, .int .i64 a_Num, .str a_Text, .lst a_Names, .lst a_Types, .lst a_Args, .lst a_Arms, .int .i64 a_At]), .pv (.agg [.int .i64 b_Kind, .int .i64 b_Num, .str b_Text, .lst b_Names, .lst b_Types, .lst b_Args, .lst b_Arms, .int .i64 b_At])] =
  bif (a_Kind == b_Kind) then
    bif (a_Num == b_Num) then
      bif (a_Text == b_Text) then
        ((cl_ 40 [.pv (.lst a_Names), .pv (.lst b_Names)]).bind retPV).bind fun r =>
          (bif (Sh.bool).fits r then
            bif r.toBool then
              ((cl_ 45 [.pv (.lst a_Types), .pv (.lst b_Types), .pv (.fn 21 [])]).bind retPV).bind fun r1 =>
                (bif (Sh.bool).fits r1 then
                  bif r1.toBool then
                    ((cl_ 46 [.pv (.lst a_Args), .pv (.lst b_Args), .pv (.fn 16 [])]).bind retPV).bind fun r2 =>
                      (bif (Sh.bool).fits r2 then
                        bif r2.toBool then
                          ((cl_ 47 [.pv (.lst a_Arms), .pv (.lst b_Arms), .pv (.fn 48 [])]).bind retPV).bind fun r3 =>
                            (bif (Sh.bool).fits r3 then
                              some (.pv (.bool r3.toBool), [])
                            else none)
                        else some (.pv (.bool false), [])
                      else none)
                  else some (.pv (.bool false), [])
                else none)
            else some (.pv (.bool false), [])
          else none)
      else some (.pv (.bool false), [])
    else some (.pv (.bool false), [])
  else some (.pv (.bool false), []) := by kernel_rfl
theorem e16 (a_Kind : Int) (a_Num : Int) (a_Text : List UInt8) (a_Names : List PV) (a_Types : List PV) (a_Args : List PV) (a_Arms : List PV) (a_At : Int) (b_Kind : Int) (b_Num : Int) (b_Text : List UInt8) (b_Names : List PV) (b_Types : List PV) (b_Args : List PV) (b_Arms : List PV) (b_At : Int) : V 16 [.pv (.agg [.int .i64 a_Kind, .int .i64 a_Num, .str a_Text, .lst a_Names, .lst a_Types, .lst a_Args, .lst a_Arms, .int .i64 a_At]), .pv (.agg [.int .i64 b_Kind, .int .i64 b_Num, .str b_Text, .lst b_Names, .lst b_Types, .lst b_Args, .lst b_Arms, .int .i64 b_At])] =
  bif (a_Kind == b_Kind) then
    bif (a_Num == b_Num) then
      bif (a_Text == b_Text) then
        ((V 40 [.pv (.lst a_Names), .pv (.lst b_Names)]).bind retPV).bind fun r =>
          (bif (Sh.bool).fits r then
            bif r.toBool then
              ((V 45 [.pv (.lst a_Types), .pv (.lst b_Types), .pv (.fn 21 [])]).bind retPV).bind fun r1 =>
                (bif (Sh.bool).fits r1 then
                  bif r1.toBool then
                    ((V 46 [.pv (.lst a_Args), .pv (.lst b_Args), .pv (.fn 16 [])]).bind retPV).bind fun r2 =>
                      (bif (Sh.bool).fits r2 then
                        bif r2.toBool then
                          ((V 47 [.pv (.lst a_Arms), .pv (.lst b_Arms), .pv (.fn 48 [])]).bind retPV).bind fun r3 =>
                            (bif (Sh.bool).fits r3 then
                              some (.pv (.bool r3.toBool), [])
                            else none)
                        else some (.pv (.bool false), [])
                      else none)
                  else some (.pv (.bool false), [])
                else none)
            else some (.pv (.bool false), [])
          else none)
      else some (.pv (.bool false), [])
    else some (.pv (.bool false), [])
  else some (.pv (.bool false), []) :=
  (V_eq pa rfl _).trans (f16 a_Kind a_Num a_Text a_Names a_Types a_Args a_Arms a_At b_Kind b_Num b_Text b_Names b_Types b_Args b_Arms b_At V (LV Pr T 16))
/-! 45 slices.EqualFunc[[]roadstead/api.Type,[]roadstead/api.Type,roadstead/api.Type,roadstead/api.Type] -/
def st45_11014 (s2 : List PV) (eq_f : FuncId) (eq_c : List PV) (s1 : List PV) (i : Int) : AS :=
  ⟨[.any, .pv (.lst s2), .pv (.fn eq_f eq_c), .any, .any, .any, .any, .any, .any, .any, .any, .any, .any, .any, .any, .pv (.lst s1), .pv (.int .i64 (s1.length : Int)), .pv (.int .i64 i), .any, .any, .any, .any, .any, .any, .any, .any, .any, .any, .any, .any, .any, .any], ⟨[], [], [], 0, 0⟩⟩
noncomputable def L45_11014 (s2 : List PV) (eq_f : FuncId) (eq_c : List PV) (s1 : List PV) (i : Int) : Option Out := LV Pr T 45 [1, 1, 0, 1, 4] (st45_11014 s2 eq_f eq_c s1 i)
theorem f45 (s1 : List PV) (s2 : List PV) (eq_f : FuncId) (eq_c : List PV) (cl_ : FuncId → List Arg → Option Out) (lp_ : List Nat → AS → Option Out) : runW Pr T cl_ lp_ 45 [.pv (.lst s1), .pv (.lst s2), .pv (.fn eq_f eq_c)] =
  bif ((s1.length : Int) != (s2.length : Int)) then
    some (.pv (.bool false), [])
  else lp_ [1, 1, 0, 1, 4] (st45_11014 s2 eq_f eq_c s1 0) := by kernel_rfl
theorem e45 (s1 : List PV) (s2 : List PV) (eq_f : FuncId) (eq_c : List PV) : V 45 [.pv (.lst s1), .pv (.lst s2), .pv (.fn eq_f eq_c)] =
  bif ((s1.length : Int) != (s2.length : Int)) then
    some (.pv (.bool false), [])
  else L45_11014 s2 eq_f eq_c s1 0 :=
  (V_eq pa rfl _).trans (f45 s1 s2 eq_f eq_c V (LV Pr T 45))
theorem f45_11014 (s2 : List PV) (eq_f : FuncId) (eq_c : List PV) (s1 : List PV) (i : Int) (cl_ : FuncId → List Arg → Option Out) (lp_ : List Nat → AS → Option Out) : stepW Pr T cl_ lp_ 45 [1, 1, 0, 1, 4] (st45_11014 s2 eq_f eq_c s1 i) =
  bif decide (i < (s1.length : Int)) then
    bif decide (0 ≤ i) then
      (s1[i.toNat]?).bind fun x =>
        (bif (Sh.agg [Sh.int .i64, Sh.str, Sh.lst]).fits x then
          bif decide (0 ≤ i) then
            (s2[i.toNat]?).bind fun x1 =>
              (bif (Sh.agg [Sh.int .i64, Sh.str, Sh.lst]).fits x1 then
                ((cl_ eq_f ((([.agg [.int .i64 ((x.c 0).toInt), .str ((x.c 1).toStr), .lst ((x.c 2).toLst)], .agg [.int .i64 ((x1.c 0).toInt), .str ((x1.c 1).toStr), .lst ((x1.c 2).toLst)]] : List PV) ++ eq_c).map .pv)).bind retPV).bind fun r =>
                  (bif (Sh.bool).fits r then
                    bif (!r.toBool) then
                      some (.pv (.bool false), [])
                    else lp_ [1, 1, 0, 1, 4] (st45_11014 s2 eq_f eq_c s1 (IntKind.i64.wrap (i + (1 : Int))))
                  else none)
              else none)
          else none
        else none)
    else none
  else some (.pv (.bool true), []) := by kernel_rfl
theorem e45_11014 (s2 : List PV) (eq_f : FuncId) (eq_c : List PV) (s1 : List PV) (i : Int) : L45_11014 s2 eq_f eq_c s1 i =
  bif decide (i < (s1.length : Int)) then
    bif decide (0 ≤ i) then
      (s1[i.toNat]?).bind fun x =>
        (bif (Sh.agg [Sh.int .i64, Sh.str, Sh.lst]).fits x then
          bif decide (0 ≤ i) then
            (s2[i.toNat]?).bind fun x1 =>
              (bif (Sh.agg [Sh.int .i64, Sh.str, Sh.lst]).fits x1 then
                ((V eq_f ((([.agg [.int .i64 ((x.c 0).toInt), .str ((x.c 1).toStr), .lst ((x.c 2).toLst)], .agg [.int .i64 ((x1.c 0).toInt), .str ((x1.c 1).toStr), .lst ((x1.c 2).toLst)]] : List PV) ++ eq_c).map .pv)).bind retPV).bind fun r =>
                  (bif (Sh.bool).fits r then
                    bif (!r.toBool) then
                      some (.pv (.bool false), [])
                    else L45_11014 s2 eq_f eq_c s1 (IntKind.i64.wrap (i + (1 : Int)))
                  else none)
              else none)
          else none
        else none)
    else none
  else some (.pv (.bool true), []) :=
  (LV_eq pa 45 _ _).trans (f45_11014 s2 eq_f eq_c s1 i V (LV Pr T 45))
/-! 46 slices.EqualFunc[[]roadstead/api.Expr,[]roadstead/api.Expr,roadstead/api.Expr,roadstead/api.Expr] -/
def st46_11014 (s2 : List PV) (eq_f : FuncId) (eq_c : List PV) (s1 : List PV) (i : Int) : AS :=
  ⟨[.any, .pv (.lst s2), .pv (.fn eq_f eq_c), .any, .any, .any, .any, .any, .any, .any, .any, .any, .any, .any, .any, .pv (.lst s1), .pv (.int .i64 (s1.length : Int)), .pv (.int .i64 i), .any, .any, .any, .any, .any, .any, .any, .any, .any, .any, .any, .any, .any, .any], ⟨[], [], [], 0, 0⟩⟩
noncomputable def L46_11014 (s2 : List PV) (eq_f : FuncId) (eq_c : List PV) (s1 : List PV) (i : Int) : Option Out := LV Pr T 46 [1, 1, 0, 1, 4] (st46_11014 s2 eq_f eq_c s1 i)
theorem f46 (s1 : List PV) (s2 : List PV) (eq_f : FuncId) (eq_c : List PV) (cl_ : FuncId → List Arg → Option Out) (lp_ : List Nat → AS → Option Out) : runW Pr T cl_ lp_ 46 [.pv (.lst s1), .pv (.lst s2), .pv (.fn eq_f eq_c)] =
  bif ((s1.length : Int) != (s2.length : Int)) then
    some (.pv (.bool false), [])
  else lp_ [1, 1, 0, 1, 4] (st46_11014 s2 eq_f eq_c s1 0) := by kernel_rfl
theorem e46 (s1 : List PV) (s2 : List PV) (eq_f : FuncId) (eq_c : List PV) : V 46 [.pv (.lst s1), .pv (.lst s2), .pv (.fn eq_f eq_c)] =
  bif ((s1.length : Int) != (s2.length : Int)) then
    some (.pv (.bool false), [])
  else L46_11014 s2 eq_f eq_c s1 0 :=
  (V_eq pa rfl _).trans (f46 s1 s2 eq_f eq_c V (LV Pr T 46))
theorem f46_11014 (s2 : List PV) (eq_f : FuncId) (eq_c : List PV) (s1 : List PV) (i : Int) (cl_ : FuncId → List Arg → Option Out) (lp_ : List Nat → AS → Option Out) : stepW Pr T cl_ lp_ 46 [1, 1, 0, 1, 4] (st46_11014 s2 eq_f eq_c s1 i) =
  bif decide (i < (s1.length : Int)) then
    bif decide (0 ≤ i) then
      (s1[i.toNat]?).bind fun x =>
        (bif (Sh.agg [Sh.int .i64, Sh.int .i64, Sh.str, Sh.lst, Sh.lst, Sh.lst, Sh.lst, Sh.int .i64]).fits x then
          bif decide (0 ≤ i) then
            (s2[i.toNat]?).bind fun x1 =>
              (bif (Sh.agg [Sh.int .i64, Sh.int .i64, Sh.str, Sh.lst, Sh.lst, Sh.lst, Sh.lst, Sh.int .i64]).fits x1 then
                ((cl_ eq_f ((([.agg [.int .i64 ((x.c 0).toInt), .int .i64 ((x.c 1).toInt), .str ((x.c 2).toStr), .lst ((x.c 3).toLst), .lst ((x.c 4).toLst), .lst ((x.c 5).toLst), .lst ((x.c 6).toLst), .int .i64 ((x.c 7).toInt)], .agg [.int .i64 ((x1.c 0).toInt), .int .i64 ((x1.c 1).toInt), .str ((x1.c 2).toStr), .lst ((x1.c 3).toLst), .lst ((x1.c 4).toLst), .lst ((x1.c 5).toLst), .lst ((x1.c 6).toLst), .int .i64 ((x1.c 7).toInt)]] : List PV) ++ eq_c).map .pv)).bind retPV).bind fun r =>
                  (bif (Sh.bool).fits r then
                    bif (!r.toBool) then
                      some (.pv (.bool false), [])
                    else lp_ [1, 1, 0, 1, 4] (st46_11014 s2 eq_f eq_c s1 (IntKind.i64.wrap (i + (1 : Int))))
                  else none)
              else none)
          else none
        else none)
    else none
  else some (.pv (.bool true), []) := by kernel_rfl
theorem e46_11014 (s2 : List PV) (eq_f : FuncId) (eq_c : List PV) (s1 : List PV) (i : Int) : L46_11014 s2 eq_f eq_c s1 i =
  bif decide (i < (s1.length : Int)) then
    bif decide (0 ≤ i) then
      (s1[i.toNat]?).bind fun x =>
        (bif (Sh.agg [Sh.int .i64, Sh.int .i64, Sh.str, Sh.lst, Sh.lst, Sh.lst, Sh.lst, Sh.int .i64]).fits x then
          bif decide (0 ≤ i) then
            (s2[i.toNat]?).bind fun x1 =>
              (bif (Sh.agg [Sh.int .i64, Sh.int .i64, Sh.str, Sh.lst, Sh.lst, Sh.lst, Sh.lst, Sh.int .i64]).fits x1 then
                ((V eq_f ((([.agg [.int .i64 ((x.c 0).toInt), .int .i64 ((x.c 1).toInt), .str ((x.c 2).toStr), .lst ((x.c 3).toLst), .lst ((x.c 4).toLst), .lst ((x.c 5).toLst), .lst ((x.c 6).toLst), .int .i64 ((x.c 7).toInt)], .agg [.int .i64 ((x1.c 0).toInt), .int .i64 ((x1.c 1).toInt), .str ((x1.c 2).toStr), .lst ((x1.c 3).toLst), .lst ((x1.c 4).toLst), .lst ((x1.c 5).toLst), .lst ((x1.c 6).toLst), .int .i64 ((x1.c 7).toInt)]] : List PV) ++ eq_c).map .pv)).bind retPV).bind fun r =>
                  (bif (Sh.bool).fits r then
                    bif (!r.toBool) then
                      some (.pv (.bool false), [])
                    else L46_11014 s2 eq_f eq_c s1 (IntKind.i64.wrap (i + (1 : Int)))
                  else none)
              else none)
          else none
        else none)
    else none
  else some (.pv (.bool true), []) :=
  (LV_eq pa 46 _ _).trans (f46_11014 s2 eq_f eq_c s1 i V (LV Pr T 46))
/-! 47 slices.EqualFunc[[]roadstead/api.Arm,[]roadstead/api.Arm,roadstead/api.Arm,roadstead/api.Arm] -/
def st47_11014 (s2 : List PV) (eq_f : FuncId) (eq_c : List PV) (s1 : List PV) (i : Int) : AS :=
  ⟨[.any, .pv (.lst s2), .pv (.fn eq_f eq_c), .any, .any, .any, .any, .any, .any, .any, .any, .any, .any, .any, .any, .pv (.lst s1), .pv (.int .i64 (s1.length : Int)), .pv (.int .i64 i), .any, .any, .any, .any, .any, .any, .any, .any, .any, .any, .any, .any, .any, .any], ⟨[], [], [], 0, 0⟩⟩
noncomputable def L47_11014 (s2 : List PV) (eq_f : FuncId) (eq_c : List PV) (s1 : List PV) (i : Int) : Option Out := LV Pr T 47 [1, 1, 0, 1, 4] (st47_11014 s2 eq_f eq_c s1 i)
theorem f47 (s1 : List PV) (s2 : List PV) (eq_f : FuncId) (eq_c : List PV) (cl_ : FuncId → List Arg → Option Out) (lp_ : List Nat → AS → Option Out) : runW Pr T cl_ lp_ 47 [.pv (.lst s1), .pv (.lst s2), .pv (.fn eq_f eq_c)] =
  bif ((s1.length : Int) != (s2.length : Int)) then
    some (.pv (.bool false), [])
  else lp_ [1, 1, 0, 1, 4] (st47_11014 s2 eq_f eq_c s1 0) := by kernel_rfl
theorem e47 (s1 : List PV) (s2 : List PV) (eq_f : FuncId) (eq_c : List PV) : V 47 [.pv (.lst s1), .pv (.lst s2), .pv (.fn eq_f eq_c)] =
  bif ((s1.length : Int) != (s2.length : Int)) then
    some (.pv (.bool false), [])
  else L47_11014 s2 eq_f eq_c s1 0 :=
  (V_eq pa rfl _).trans (f47 s1 s2 eq_f eq_c V (LV Pr T 47))
theorem f47_11014 (s2 : List PV) (eq_f : FuncId) (eq_c : List PV) (s1 : List PV) (i : Int) (cl_ : FuncId → List Arg → Option Out) (lp_ : List Nat → AS → Option Out) : stepW Pr T cl_ lp_ 47 [1, 1, 0, 1, 4] (st47_11014 s2 eq_f eq_c s1 i) =
  bif decide (i < (s1.length : Int)) then
    bif decide (0 ≤ i) then
      (s1[i.toNat]?).bind fun x =>
        (bif (Sh.agg [Sh.int .i64, Sh.int .i64, Sh.str, Sh.lst, Sh.int .i64, Sh.int .i64, Sh.str, Sh.lst, Sh.lst, Sh.lst, Sh.lst, Sh.int .i64]).fits x then
          bif decide (0 ≤ i) then
            (s2[i.toNat]?).bind fun x1 =>
              (bif (Sh.agg [Sh.int .i64, Sh.int .i64, Sh.str, Sh.lst, Sh.int .i64, Sh.int .i64, Sh.str, Sh.lst, Sh.lst, Sh.lst, Sh.lst, Sh.int .i64]).fits x1 then
                ((cl_ eq_f ((([.agg [.int .i64 ((x.c 0).toInt), .int .i64 ((x.c 1).toInt), .str ((x.c 2).toStr), .lst ((x.c 3).toLst), .int .i64 ((x.c 4).toInt), .int .i64 ((x.c 5).toInt), .str ((x.c 6).toStr), .lst ((x.c 7).toLst), .lst ((x.c 8).toLst), .lst ((x.c 9).toLst), .lst ((x.c 10).toLst), .int .i64 ((x.c 11).toInt)], .agg [.int .i64 ((x1.c 0).toInt), .int .i64 ((x1.c 1).toInt), .str ((x1.c 2).toStr), .lst ((x1.c 3).toLst), .int .i64 ((x1.c 4).toInt), .int .i64 ((x1.c 5).toInt), .str ((x1.c 6).toStr), .lst ((x1.c 7).toLst), .lst ((x1.c 8).toLst), .lst ((x1.c 9).toLst), .lst ((x1.c 10).toLst), .int .i64 ((x1.c 11).toInt)]] : List PV) ++ eq_c).map .pv)).bind retPV).bind fun r =>
                  (bif (Sh.bool).fits r then
                    bif (!r.toBool) then
                      some (.pv (.bool false), [])
                    else lp_ [1, 1, 0, 1, 4] (st47_11014 s2 eq_f eq_c s1 (IntKind.i64.wrap (i + (1 : Int))))
                  else none)
              else none)
          else none
        else none)
    else none
  else some (.pv (.bool true), []) := by kernel_rfl
theorem e47_11014 (s2 : List PV) (eq_f : FuncId) (eq_c : List PV) (s1 : List PV) (i : Int) : L47_11014 s2 eq_f eq_c s1 i =
  bif decide (i < (s1.length : Int)) then
    bif decide (0 ≤ i) then
      (s1[i.toNat]?).bind fun x =>
        (bif (Sh.agg [Sh.int .i64, Sh.int .i64, Sh.str, Sh.lst, Sh.int .i64, Sh.int .i64, Sh.str, Sh.lst, Sh.lst, Sh.lst, Sh.lst, Sh.int .i64]).fits x then
          bif decide (0 ≤ i) then
            (s2[i.toNat]?).bind fun x1 =>
              (bif (Sh.agg [Sh.int .i64, Sh.int .i64, Sh.str, Sh.lst, Sh.int .i64, Sh.int .i64, Sh.str, Sh.lst, Sh.lst, Sh.lst, Sh.lst, Sh.int .i64]).fits x1 then
                ((V eq_f ((([.agg [.int .i64 ((x.c 0).toInt), .int .i64 ((x.c 1).toInt), .str ((x.c 2).toStr), .lst ((x.c 3).toLst), .int .i64 ((x.c 4).toInt), .int .i64 ((x.c 5).toInt), .str ((x.c 6).toStr), .lst ((x.c 7).toLst), .lst ((x.c 8).toLst), .lst ((x.c 9).toLst), .lst ((x.c 10).toLst), .int .i64 ((x.c 11).toInt)], .agg [.int .i64 ((x1.c 0).toInt), .int .i64 ((x1.c 1).toInt), .str ((x1.c 2).toStr), .lst ((x1.c 3).toLst), .int .i64 ((x1.c 4).toInt), .int .i64 ((x1.c 5).toInt), .str ((x1.c 6).toStr), .lst ((x1.c 7).toLst), .lst ((x1.c 8).toLst), .lst ((x1.c 9).toLst), .lst ((x1.c 10).toLst), .int .i64 ((x1.c 11).toInt)]] : List PV) ++ eq_c).map .pv)).bind retPV).bind fun r =>
                  (bif (Sh.bool).fits r then
                    bif (!r.toBool) then
                      some (.pv (.bool false), [])
                    else L47_11014 s2 eq_f eq_c s1 (IntKind.i64.wrap (i + (1 : Int)))
                  else none)
              else none)
          else none
        else none)
    else none
  else some (.pv (.bool true), []) :=
  (LV_eq pa 47 _ _).trans (f47_11014 s2 eq_f eq_c s1 i V (LV Pr T 47))
/-! 48 roadstead/tree.sameArm -/
theorem f48 (a_Pat_Kind : Int) (a_Pat_Num : Int) (a_Pat_Text : List UInt8) (a_Pat_Args : List PV) (a_Body_Kind : Int) (a_Body_Num : Int) (a_Body_Text : List UInt8) (a_Body_Names : List PV) (a_Body_Types : List PV) (a_Body_Args : List PV) (a_Body_Arms : List PV) (a_Body_At : Int) (b_Pat_Kind : Int) (b_Pat_Num : Int) (b_Pat_Text : List UInt8) (b_Pat_Args : List PV) (b_Body_Kind : Int) (b_Body_Num : Int) (b_Body_Text : List UInt8) (b_Body_Names : List PV) (b_Body_Types : List PV) (b_Body_Args : List PV) (b_Body_Arms : List PV) (b_Body_At : Int) (cl_ : FuncId → List Arg → Option Out) (lp_ : List Nat → AS → Option Out) : runW Pr T cl_ lp_ 48 [.pv (.agg [.int .i64 a_Pat_Kind, .int .i64 a_Pat_Num, .str a_Pat_Text, .lst a_Pat_Args, .int .i64 a_Body_Kind, .int .i64 a_Body_Num, .str a_Body_Text, .lst a_Body_Names, .lst a_Body_Types, .lst a_Body_Args, .lst a_Body_Arms, .int .i64 a_Body_At]), .pv (.agg [.int .i64 b_Pat_Kind, .int .i64 b_Pat_Num, .str b_Pat_Text, .lst b_Pat_Args, .int .i64 b_Body_Kind, .int .i64 b_Body_Num, .str b_Body_Text, .lst b_Body_Names, .lst b_Body_Types, .lst b_Body_Args, .lst b_Body_Arms, .int .i64 b_Body_At])] =
  ((cl_ 78 [.pv (.agg [.int .i64 a_Pat_Kind, .int .i64 a_Pat_Num, .str a_Pat_Text, .lst a_Pat_Args]), .pv (.agg [.int .i64 b_Pat_Kind, .int .i64 b_Pat_Num, .str b_Pat_Text, .lst b_Pat_Args])]).bind retPV).bind fun r =>
    (bif (Sh.bool).fits r then
      bif r.toBool then
        ((cl_ 16 [.pv (.agg [.int .i64 a_Body_Kind, .int .i64 a_Body_Num, .str a_Body_Text, .lst a_Body_Names, .lst a_Body_Types, .lst a_Body_Args, .lst a_Body_Arms, .int .i64 a_Body_At]), .pv (.agg [.int .i64 b_Body_Kind, .int .i64 b_Body_Num, .str b_Body_Text, .lst b_Body_Names, .lst b_Body_Types, .lst b_Body_Args, .lst b_Body_Arms, .int .i64 b_Body_At])]).bind retPV).bind fun r1 =>
          (bif (Sh.bool).fits r1 then
            some (.pv (.bool r1.toBool), [])
          else none)
      else some (.pv (.bool false), [])
    else none) := by kernel_rfl
theorem e48 (a_Pat_Kind : Int) (a_Pat_Num : Int) (a_Pat_Text : List UInt8) (a_Pat_Args : List PV) (a_Body_Kind : Int) (a_Body_Num : Int) (a_Body_Text : List UInt8) (a_Body_Names : List PV) (a_Body_Types : List PV) (a_Body_Args : List PV) (a_Body_Arms : List PV) (a_Body_At : Int) (b_Pat_Kind : Int) (b_Pat_Num : Int) (b_Pat_Text : List UInt8) (b_Pat_Args : List PV) (b_Body_Kind : Int) (b_Body_Num : Int) (b_Body_Text : List UInt8) (b_Body_Names : List PV) (b_Body_Types : List PV) (b_Body_Args : List PV) (b_Body_Arms : List PV) (b_Body_At : Int) : V 48 [.pv (.agg [.int .i64 a_Pat_Kind, .int .i64 a_Pat_Num, .str a_Pat_Text, .lst a_Pat_Args, .int .i64 a_Body_Kind, .int .i64 a_Body_Num, .str a_Body_Text, .lst a_Body_Names, .lst a_Body_Types, .lst a_Body_Args, .lst a_Body_Arms, .int .i64 a_Body_At]), .pv (.agg [.int .i64 b_Pat_Kind, .int .i64 b_Pat_Num, .str b_Pat_Text, .lst b_Pat_Args, .int .i64 b_Body_Kind, .int .i64 b_Body_Num, .str b_Body_Text, .lst b_Body_Names, .lst b_Body_Types, .lst b_Body_Args, .lst b_Body_Arms, .int .i64 b_Body_At])] =
  ((V 78 [.pv (.agg [.int .i64 a_Pat_Kind, .int .i64 a_Pat_Num, .str a_Pat_Text, .lst a_Pat_Args]), .pv (.agg [.int .i64 b_Pat_Kind, .int .i64 b_Pat_Num, .str b_Pat_Text, .lst b_Pat_Args])]).bind retPV).bind fun r =>
    (bif (Sh.bool).fits r then
      bif r.toBool then
        ((V 16 [.pv (.agg [.int .i64 a_Body_Kind, .int .i64 a_Body_Num, .str a_Body_Text, .lst a_Body_Names, .lst a_Body_Types, .lst a_Body_Args, .lst a_Body_Arms, .int .i64 a_Body_At]), .pv (.agg [.int .i64 b_Body_Kind, .int .i64 b_Body_Num, .str b_Body_Text, .lst b_Body_Names, .lst b_Body_Types, .lst b_Body_Args, .lst b_Body_Arms, .int .i64 b_Body_At])]).bind retPV).bind fun r1 =>
          (bif (Sh.bool).fits r1 then
            some (.pv (.bool r1.toBool), [])
          else none)
      else some (.pv (.bool false), [])
    else none) :=
  (V_eq pa rfl _).trans (f48 a_Pat_Kind a_Pat_Num a_Pat_Text a_Pat_Args a_Body_Kind a_Body_Num a_Body_Text a_Body_Names a_Body_Types a_Body_Args a_Body_Arms a_Body_At b_Pat_Kind b_Pat_Num b_Pat_Text b_Pat_Args b_Body_Kind b_Body_Num b_Body_Text b_Body_Names b_Body_Types b_Body_Args b_Body_Arms b_Body_At V (LV Pr T 48))
/-! 21 roadstead/tree.SameType -/
theorem f21 (a_Kind : Int) (a_Name : List UInt8) (a_Args : List PV) (b_Kind : Int) (b_Name : List UInt8) (b_Args : List PV) (cl_ : FuncId → List Arg → Option Out) (lp_ : List Nat → AS → Option Out) : runW Pr T cl_ lp_ 21 [.pv (.agg [.int .i64 a_Kind, .str a_Name, .lst a_Args]), .pv (.agg [.int .i64 b_Kind, .str b_Name, .lst b_Args])] =
  bif (a_Kind == b_Kind) then
    bif (a_Name == b_Name) then
      ((cl_ 45 [.pv (.lst a_Args), .pv (.lst b_Args), .pv (.fn 21 [])]).bind retPV).bind fun r =>
        (bif (Sh.bool).fits r then
          some (.pv (.bool r.toBool), [])
        else none)
    else some (.pv (.bool false), [])
  else some (.pv (.bool false), []) := by kernel_rfl
theorem e21 (a_Kind : Int) (a_Name : List UInt8) (a_Args : List PV) (b_Kind : Int) (b_Name : List UInt8) (b_Args : List PV) : V 21 [.pv (.agg [.int .i64 a_Kind, .str a_Name, .lst a_Args]), .pv (.agg [.int .i64 b_Kind, .str b_Name, .lst b_Args])] =
  bif (a_Kind == b_Kind) then
    bif (a_Name == b_Name) then
      ((V 45 [.pv (.lst a_Args), .pv (.lst b_Args), .pv (.fn 21 [])]).bind retPV).bind fun r =>
        (bif (Sh.bool).fits r then
          some (.pv (.bool r.toBool), [])
        else none)
    else some (.pv (.bool false), [])
  else some (.pv (.bool false), []) :=
  (V_eq pa rfl _).trans (f21 a_Kind a_Name a_Args b_Kind b_Name b_Args V (LV Pr T 21))
/-! 75 roadstead/tree.patSize -/
def st75_11014 (i : Int) (p_Args : List PV) (i1 : Int) : AS :=
  ⟨[.any, .any, .any, .pv (.int .i64 i), .any, .any, .any, .pv (.lst p_Args), .pv (.int .i64 (p_Args.length : Int)), .pv (.int .i64 i1), .any, .any, .any, .any, .any, .any, .any, .any, .any], ⟨[], [], [], 0, 0⟩⟩
noncomputable def L75_11014 (i : Int) (p_Args : List PV) (i1 : Int) : Option Out := LV Pr T 75 [1, 1, 0, 1, 4] (st75_11014 i p_Args i1)
theorem f75 (p_Kind : Int) (p_Num : Int) (p_Text : List UInt8) (p_Args : List PV) (cl_ : FuncId → List Arg → Option Out) (lp_ : List Nat → AS → Option Out) : runW Pr T cl_ lp_ 75 [.pv (.agg [.int .i64 p_Kind, .int .i64 p_Num, .str p_Text, .lst p_Args])] =
  lp_ [1, 1, 0, 1, 4] (st75_11014 1 p_Args 0) := by kernel_rfl
theorem e75 (p_Kind : Int) (p_Num : Int) (p_Text : List UInt8) (p_Args : List PV) : V 75 [.pv (.agg [.int .i64 p_Kind, .int .i64 p_Num, .str p_Text, .lst p_Args])] =
  L75_11014 1 p_Args 0 :=
  (V_eq pa rfl _).trans (f75 p_Kind p_Num p_Text p_Args V (LV Pr T 75))
theorem f75_11014 (i : Int) (p_Args : List PV) (i1 : Int) (cl_ : FuncId → List Arg → Option Out) (lp_ : List Nat → AS → Option Out) : stepW Pr T cl_ lp_ 75 [1, 1, 0, 1, 4] (st75_11014 i p_Args i1) =
  bif decide (i1 < (p_Args.length : Int)) then
    bif decide (0 ≤ i1) then
      (p_Args[i1.toNat]?).bind fun x =>
        (bif (Sh.agg [Sh.int .i64, Sh.int .i64, Sh.str, Sh.lst]).fits x then
          ((cl_ 75 [.pv (.agg [.int .i64 ((x.c 0).toInt), .int .i64 ((x.c 1).toInt), .str ((x.c 2).toStr), .lst ((x.c 3).toLst)])]).bind retPV).bind fun r =>
            (bif (Sh.int .i64).fits r then
              lp_ [1, 1, 0, 1, 4] (st75_11014 (IntKind.i64.wrap (i + (r.toInt))) p_Args (IntKind.i64.wrap (i1 + (1 : Int))))
            else none)
        else none)
    else none
  else some (.pv (.int .i64 i), []) := by kernel_rfl
theorem e75_11014 (i : Int) (p_Args : List PV) (i1 : Int) : L75_11014 i p_Args i1 =
  bif decide (i1 < (p_Args.length : Int)) then
    bif decide (0 ≤ i1) then
      (p_Args[i1.toNat]?).bind fun x =>
        (bif (Sh.agg [Sh.int .i64, Sh.int .i64, Sh.str, Sh.lst]).fits x then
          ((V 75 [.pv (.agg [.int .i64 ((x.c 0).toInt), .int .i64 ((x.c 1).toInt), .str ((x.c 2).toStr), .lst ((x.c 3).toLst)])]).bind retPV).bind fun r =>
            (bif (Sh.int .i64).fits r then
              L75_11014 (IntKind.i64.wrap (i + (r.toInt))) p_Args (IntKind.i64.wrap (i1 + (1 : Int)))
            else none)
        else none)
    else none
  else some (.pv (.int .i64 i), []) :=
  (LV_eq pa 75 _ _).trans (f75_11014 i p_Args i1 V (LV Pr T 75))
/-! 76 roadstead/tree.Parts -/
def st76_11014 (l : List PV) (e_Arms : List PV) (i : Int) : AS :=
  ⟨[.any, .any, .any, .bld 0 0 l, .any, .any, .any, .any, .any, .any, .pv (.lst e_Arms), .pv (.int .i64 (e_Arms.length : Int)), .pv (.int .i64 i), .any, .any, .any, .any, .any, .any, .any, .any, .any, .any], ⟨[], [], [(0, 8)], 0, 0⟩⟩
noncomputable def L76_11014 (l : List PV) (e_Arms : List PV) (i : Int) : Option Out := LV Pr T 76 [1, 1, 0, 1, 4] (st76_11014 l e_Arms i)
theorem f76 (e_Kind : Int) (e_Num : Int) (e_Text : List UInt8) (e_Names : List PV) (e_Types : List PV) (e_Args : List PV) (e_Arms : List PV) (e_At : Int) (cl_ : FuncId → List Arg → Option Out) (lp_ : List Nat → AS → Option Out) : runW Pr T cl_ lp_ 76 [.pv (.agg [.int .i64 e_Kind, .int .i64 e_Num, .str e_Text, .lst e_Names, .lst e_Types, .lst e_Args, .lst e_Arms, .int .i64 e_At])] =
  (cl_ 110 [.pv (.lst e_Args)]).bind fun r =>
    ((retB 8 r).bind fun l =>
      (lp_ [1, 1, 0, 1, 4] (st76_11014 l e_Arms 0))) := by kernel_rfl
theorem e76 (e_Kind : Int) (e_Num : Int) (e_Text : List UInt8) (e_Names : List PV) (e_Types : List PV) (e_Args : List PV) (e_Arms : List PV) (e_At : Int) : V 76 [.pv (.agg [.int .i64 e_Kind, .int .i64 e_Num, .str e_Text, .lst e_Names, .lst e_Types, .lst e_Args, .lst e_Arms, .int .i64 e_At])] =
  (V 110 [.pv (.lst e_Args)]).bind fun r =>
    ((retB 8 r).bind fun l =>
      (L76_11014 l e_Arms 0)) :=
  (V_eq pa rfl _).trans (f76 e_Kind e_Num e_Text e_Names e_Types e_Args e_Arms e_At V (LV Pr T 76))
theorem f76_11014 (l : List PV) (e_Arms : List PV) (i : Int) (cl_ : FuncId → List Arg → Option Out) (lp_ : List Nat → AS → Option Out) : stepW Pr T cl_ lp_ 76 [1, 1, 0, 1, 4] (st76_11014 l e_Arms i) =
  bif decide (i < (e_Arms.length : Int)) then
    bif decide (0 ≤ i) then
      (e_Arms[i.toNat]?).bind fun x =>
        (bif (Sh.agg [Sh.int .i64, Sh.int .i64, Sh.str, Sh.lst, Sh.int .i64, Sh.int .i64, Sh.str, Sh.lst, Sh.lst, Sh.lst, Sh.lst, Sh.int .i64]).fits x then
          bif small (l.length) 1 136 then
            lp_ [1, 1, 0, 1, 4] (st76_11014 (l ++ ([.agg [.int .i64 ((x.c 4).toInt), .int .i64 ((x.c 5).toInt), .str ((x.c 6).toStr), .lst ((x.c 7).toLst), .lst ((x.c 8).toLst), .lst ((x.c 9).toLst), .lst ((x.c 10).toLst), .int .i64 ((x.c 11).toInt)]] : List PV)) e_Arms (IntKind.i64.wrap (i + (1 : Int))))
          else none
        else none)
    else none
  else some (.bld 8 l, []) := by kernel_rfl
theorem e76_11014 (l : List PV) (e_Arms : List PV) (i : Int) : L76_11014 l e_Arms i =
  bif decide (i < (e_Arms.length : Int)) then
    bif decide (0 ≤ i) then
      (e_Arms[i.toNat]?).bind fun x =>
        (bif (Sh.agg [Sh.int .i64, Sh.int .i64, Sh.str, Sh.lst, Sh.int .i64, Sh.int .i64, Sh.str, Sh.lst, Sh.lst, Sh.lst, Sh.lst, Sh.int .i64]).fits x then
          bif small (l.length) 1 136 then
            L76_11014 (l ++ ([.agg [.int .i64 ((x.c 4).toInt), .int .i64 ((x.c 5).toInt), .str ((x.c 6).toStr), .lst ((x.c 7).toLst), .lst ((x.c 8).toLst), .lst ((x.c 9).toLst), .lst ((x.c 10).toLst), .int .i64 ((x.c 11).toInt)]] : List PV)) e_Arms (IntKind.i64.wrap (i + (1 : Int)))
          else none
        else none)
    else none
  else some (.bld 8 l, []) :=
  (LV_eq pa 76 _ _).trans (f76_11014 l e_Arms i V (LV Pr T 76))
end Go.AL.S6
