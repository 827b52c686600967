/- Equations of functions in the abstract machine: printed by gen.py. -/
import Derived.Test.YtlmodlihiglnhaaDoorS9T
set_option linter.unusedVariables false
set_option maxRecDepth 100000
namespace Go.AL.S9
open Go Go.AL
/-! 95 (*roadstead/roadref2.judge).expr -/
def st95_11116 (actor : Bool) (v : Int) (v1 : Int) (v2 : Int) (e_Kind : Int) (e_Num : Int) (e_Text : List UInt8) (e_Names : List PV) (e_Types : List PV) (e_Args : List PV) (e_Arms : List PV) (e_At : Int) : AS :=
  ⟨[.box 0 0, .any, .pv (.bool actor), .any, .box 1 0, .any, .pv (.int .i64 v), .pv (.int .i64 v1), .any, .any, .any, .any, .any, .any, .any, .any, .any, .any, .any, .any, .any, .any, .any, .any, .any, .any, .any, .any, .any, .any, .any, .any, .any, .any, .any, .any, .any, .any, .any, .any, .any, .any, .any, .any, .any, .any, .any, .any, .any, .any, .any, .any, .any, .any, .any, .any, .any, .any, .any, .any, .any, .any, .any, .any, .any, .any, .any, .any, .any, .any, .any, .any, .any, .any, .any, .any, .any, .any, .any, .any, .any, .any, .any, .any, .any, .any, .any, .any, .any, .any, .any, .any, .any, .any, .any, .any, .any, .any, .any, .any, .any, .any, .any, .any, .any, .any, .any, .any, .any, .any, .any, .any, .any, .any, .any, .any, .any, .any, .any, .any, .any, .any, .any, .any, .any, .any, .any, .any, .any, .any, .any, .any, .any, .any, .any, .any, .any, .any, .any, .any, .any, .any, .any, .any, .any, .any, .any, .any, .any, .any, .any, .any, .any, .any, .any, .any, .any, .any, .any, .any, .any, .any, .any, .any, .any, .any, .any, .any, .any, .any, .any, .any], ⟨[(false, [.pv (.int .i64 v2)]), (false, [.pv (.int .i64 e_Kind), .pv (.int .i64 e_Num), .pv (.str e_Text), .pv (.lst e_Names), .pv (.lst e_Types), .pv (.lst e_Args), .pv (.lst e_Arms), .pv (.int .i64 e_At)])], [], [], 1, 0⟩⟩
noncomputable def L95_11116 (actor : Bool) (v : Int) (v1 : Int) (v2 : Int) (e_Kind : Int) (e_Num : Int) (e_Text : List UInt8) (e_Names : List PV) (e_Types : List PV) (e_Args : List PV) (e_Arms : List PV) (e_At : Int) : Option Out := LV Pr T 95 [1, 1, 1, 1, 6] (st95_11116 actor v v1 v2 e_Kind e_Num e_Text e_Names e_Types e_Args e_Arms e_At)
def st95_111116 (actor : Bool) (v : Int) (e_Kind : Int) (e_Num : Int) (e_Text : List UInt8) (e_Names : List PV) (e_Types : List PV) (e_Args : List PV) (e_Arms : List PV) (e_At : Int) : AS :=
  ⟨[.box 0 0, .any, .pv (.bool actor), .any, .box 1 0, .any, .any, .any, .any, .any, .any, .any, .any, .any, .any, .any, .any, .any, .any, .any, .any, .any, .any, .any, .any, .any, .any, .any, .any, .any, .any, .any, .any, .any, .any, .any, .any, .any, .any, .any, .any, .any, .any, .any, .any, .any, .any, .any, .any, .any, .any, .any, .any, .any, .any, .any, .any, .any, .any, .any, .any, .any, .any, .any, .any, .any, .any, .any, .any, .any, .any, .any, .any, .any, .any, .any, .any, .any, .any, .any, .any, .any, .any, .any, .any, .any, .any, .any, .any, .any, .any, .any, .any, .any, .any, .any, .any, .any, .any, .any, .any, .any, .any, .any, .any, .any, .any, .any, .any, .any, .any, .any, .any, .any, .any, .any, .any, .any, .any, .any, .any, .any, .any, .any, .any, .any, .any, .any, .any, .any, .any, .any, .any, .any, .any, .any, .any, .any, .any, .any, .any, .any, .any, .any, .any, .any, .any, .any, .any, .any, .any, .any, .any, .any, .any, .any, .any, .any, .any, .any, .any, .any, .any, .any, .any, .any, .any, .any, .any, .any, .any, .any], ⟨[(false, [.pv (.int .i64 v)]), (false, [.pv (.int .i64 e_Kind), .pv (.int .i64 e_Num), .pv (.str e_Text), .pv (.lst e_Names), .pv (.lst e_Types), .pv (.lst e_Args), .pv (.lst e_Arms), .pv (.int .i64 e_At)])], [], [], 1, 0⟩⟩
noncomputable def L95_111116 (actor : Bool) (v : Int) (e_Kind : Int) (e_Num : Int) (e_Text : List UInt8) (e_Names : List PV) (e_Types : List PV) (e_Args : List PV) (e_Arms : List PV) (e_At : Int) : Option Out := LV Pr T 95 [1, 1, 1, 1, 1, 6] (st95_111116 actor v e_Kind e_Num e_Text e_Names e_Types e_Args e_Arms e_At)
def st95_1111116 (actor : Bool) (b : Bool) (v : Int) (e_Kind : Int) (e_Num : Int) (e_Text : List UInt8) (e_Names : List PV) (e_Types : List PV) (e_Args : List PV) (e_Arms : List PV) (e_At : Int) : AS :=
  ⟨[.box 0 0, .any, .pv (.bool actor), .any, .box 1 0, .any, .any, .any, .pv (.bool b), .any, .any, .any, .any, .any, .any, .any, .any, .any, .any, .any, .any, .any, .any, .any, .any, .any, .any, .any, .any, .any, .any, .any, .any, .any, .any, .any, .any, .any, .any, .any, .any, .any, .any, .any, .any, .any, .any, .any, .any, .any, .any, .any, .any, .any, .any, .any, .any, .any, .any, .any, .any, .any, .any, .any, .any, .any, .any, .any, .any, .any, .any, .any, .any, .any, .any, .any, .any, .any, .any, .any, .any, .any, .any, .any, .any, .any, .any, .any, .any, .any, .any, .any, .any, .any, .any, .any, .any, .any, .any, .any, .any, .any, .any, .any, .any, .any, .any, .any, .any, .any, .any, .any, .any, .any, .any, .any, .any, .any, .any, .any, .any, .any, .any, .any, .any, .any, .any, .any, .any, .any, .any, .any, .any, .any, .any, .any, .any, .any, .any, .any, .any, .any, .any, .any, .any, .any, .any, .any, .any, .any, .any, .any, .any, .any, .any, .any, .any, .any, .any, .any, .any, .any, .any, .any, .any, .any, .any, .any, .any, .any, .any, .any], ⟨[(false, [.pv (.int .i64 v)]), (false, [.pv (.int .i64 e_Kind), .pv (.int .i64 e_Num), .pv (.str e_Text), .pv (.lst e_Names), .pv (.lst e_Types), .pv (.lst e_Args), .pv (.lst e_Arms), .pv (.int .i64 e_At)])], [], [], 1, 0⟩⟩
noncomputable def L95_1111116 (actor : Bool) (b : Bool) (v : Int) (e_Kind : Int) (e_Num : Int) (e_Text : List UInt8) (e_Names : List PV) (e_Types : List PV) (e_Args : List PV) (e_Arms : List PV) (e_At : Int) : Option Out := LV Pr T 95 [1, 1, 1, 1, 1, 1, 6] (st95_1111116 actor b v e_Kind e_Num e_Text e_Names e_Types e_Args e_Arms e_At)
def st95_11111116 (actor : Bool) (v : Int) (e_Kind : Int) (e_Num : Int) (e_Text : List UInt8) (e_Names : List PV) (e_Types : List PV) (e_Args : List PV) (e_Arms : List PV) (e_At : Int) : AS :=
  ⟨[.box 0 0, .any, .pv (.bool actor), .any, .box 1 0, .any, .any, .any, .any, .any, .any, .any, .any, .any, .any, .any, .any, .any, .any, .any, .any, .any, .any, .any, .any, .any, .any, .any, .any, .any, .any, .any, .any, .any, .any, .any, .any, .any, .any, .any, .any, .any, .any, .any, .any, .any, .any, .any, .any, .any, .any, .any, .any, .any, .any, .any, .any, .any, .any, .any, .any, .any, .any, .any, .any, .any, .any, .any, .any, .any, .any, .any, .any, .any, .any, .any, .any, .any, .any, .any, .any, .any, .any, .any, .any, .any, .any, .any, .any, .any, .any, .any, .any, .any, .any, .any, .any, .any, .any, .any, .any, .any, .any, .any, .any, .any, .any, .any, .any, .any, .any, .any, .any, .any, .any, .any, .any, .any, .any, .any, .any, .any, .any, .any, .any, .any, .any, .any, .any, .any, .any, .any, .any, .any, .any, .any, .any, .any, .any, .any, .any, .any, .any, .any, .any, .any, .any, .any, .any, .any, .any, .any, .any, .any, .any, .any, .any, .any, .any, .any, .any, .any, .any, .any, .any, .any, .any, .any, .any, .any, .any, .any], ⟨[(false, [.pv (.int .i64 v)]), (false, [.pv (.int .i64 e_Kind), .pv (.int .i64 e_Num), .pv (.str e_Text), .pv (.lst e_Names), .pv (.lst e_Types), .pv (.lst e_Args), .pv (.lst e_Arms), .pv (.int .i64 e_At)])], [], [], 1, 0⟩⟩
noncomputable def L95_11111116 (actor : Bool) (v : Int) (e_Kind : Int) (e_Num : Int) (e_Text : List UInt8) (e_Names : List PV) (e_Types : List PV) (e_Args : List PV) (e_Arms : List PV) (e_At : Int) : Option Out := LV Pr T 95 [1, 1, 1, 1, 1, 1, 1, 6] (st95_11111116 actor v e_Kind e_Num e_Text e_Names e_Types e_Args e_Arms e_At)
def st95_1111111116 (actor : Bool) (v : Int) (e_Kind : Int) (e_Num : Int) (e_Text : List UInt8) (e_Names : List PV) (e_Types : List PV) (e_Args : List PV) (e_Arms : List PV) (e_At : Int) : AS :=
  ⟨[.box 0 0, .any, .pv (.bool actor), .any, .box 1 0, .any, .any, .any, .any, .any, .any, .any, .any, .any, .any, .any, .any, .any, .any, .any, .any, .any, .any, .any, .any, .any, .any, .any, .any, .any, .any, .any, .any, .any, .any, .any, .any, .any, .any, .any, .any, .any, .any, .any, .any, .any, .any, .any, .any, .any, .any, .any, .any, .any, .any, .any, .any, .any, .any, .any, .any, .any, .any, .any, .any, .any, .any, .any, .any, .any, .any, .any, .any, .any, .any, .any, .any, .any, .any, .any, .any, .any, .any, .any, .any, .any, .any, .any, .any, .any, .any, .any, .any, .any, .any, .any, .any, .any, .any, .any, .any, .any, .any, .any, .any, .any, .any, .any, .any, .any, .any, .any, .any, .any, .any, .any, .any, .any, .any, .any, .any, .any, .any, .any, .any, .any, .any, .any, .any, .any, .any, .any, .any, .any, .any, .any, .any, .any, .any, .any, .any, .any, .any, .any, .any, .any, .any, .any, .any, .any, .any, .any, .any, .any, .any, .any, .any, .any, .any, .any, .any, .any, .any, .any, .any, .any, .any, .any, .any, .any, .any, .any], ⟨[(false, [.pv (.int .i64 v)]), (false, [.pv (.int .i64 e_Kind), .pv (.int .i64 e_Num), .pv (.str e_Text), .pv (.lst e_Names), .pv (.lst e_Types), .pv (.lst e_Args), .pv (.lst e_Arms), .pv (.int .i64 e_At)])], [], [], 1, 0⟩⟩
noncomputable def L95_1111111116 (actor : Bool) (v : Int) (e_Kind : Int) (e_Num : Int) (e_Text : List UInt8) (e_Names : List PV) (e_Types : List PV) (e_Args : List PV) (e_Arms : List PV) (e_At : Int) : Option Out := LV Pr T 95 [1, 1, 1, 1, 1, 1, 1, 1, 1, 6] (st95_1111111116 actor v e_Kind e_Num e_Text e_Names e_Types e_Args e_Arms e_At)
def st95_111111111014 (actor : Bool) (e_Args : List PV) (i : Int) (v : Int) (e_Kind : Int) (e_Num : Int) (e_Text : List UInt8) (e_Names : List PV) (e_Types : List PV) (e_Arms : List PV) (e_At : Int) : AS :=
  ⟨[.box 0 0, .any, .pv (.bool actor), .any, .box 1 0, .any, .any, .any, .any, .any, .any, .any, .any, .any, .any, .any, .any, .any, .any, .any, .any, .any, .any, .any, .any, .any, .any, .any, .any, .any, .any, .any, .any, .any, .any, .any, .any, .any, .any, .any, .any, .any, .any, .any, .any, .any, .any, .any, .any, .any, .any, .any, .any, .any, .any, .any, .any, .any, .any, .any, .any, .any, .any, .any, .any, .any, .any, .any, .any, .any, .any, .any, .any, .any, .any, .any, .any, .any, .any, .any, .any, .any, .any, .any, .any, .any, .any, .any, .any, .any, .any, .any, .any, .any, .any, .any, .any, .any, .any, .any, .any, .any, .any, .any, .any, .any, .any, .any, .any, .any, .any, .any, .any, .any, .any, .any, .any, .any, .any, .any, .any, .any, .any, .any, .any, .any, .any, .any, .any, .any, .any, .any, .any, .any, .any, .any, .any, .any, .any, .pv (.lst e_Args), .pv (.int .i64 (e_Args.length : Int)), .pv (.int .i64 i), .any, .any, .any, .any, .any, .any, .any, .any, .any, .any, .any, .any, .any, .any, .any, .any, .any, .any, .any, .any, .any, .any, .any, .any, .any, .any, .any, .any, .any, .any], ⟨[(false, [.pv (.int .i64 v)]), (false, [.pv (.int .i64 e_Kind), .pv (.int .i64 e_Num), .pv (.str e_Text), .pv (.lst e_Names), .pv (.lst e_Types), .pv (.lst e_Args), .pv (.lst e_Arms), .pv (.int .i64 e_At)])], [], [], 1, 0⟩⟩
noncomputable def L95_111111111014 (actor : Bool) (e_Args : List PV) (i : Int) (v : Int) (e_Kind : Int) (e_Num : Int) (e_Text : List UInt8) (e_Names : List PV) (e_Types : List PV) (e_Arms : List PV) (e_At : Int) : Option Out := LV Pr T 95 [1, 1, 1, 1, 1, 1, 1, 1, 1, 0, 1, 4] (st95_111111111014 actor e_Args i v e_Kind e_Num e_Text e_Names e_Types e_Arms e_At)
def st95_111111111114 (actor : Bool) (e_Arms : List PV) (i : Int) (v : Int) : AS :=
  ⟨[.box 0 0, .any, .pv (.bool actor), .any, .any, .any, .any, .any, .any, .any, .any, .any, .any, .any, .any, .any, .any, .any, .any, .any, .any, .any, .any, .any, .any, .any, .any, .any, .any, .any, .any, .any, .any, .any, .any, .any, .any, .any, .any, .any, .any, .any, .any, .any, .any, .any, .any, .any, .any, .any, .any, .any, .any, .any, .any, .any, .any, .any, .any, .any, .any, .any, .any, .any, .any, .any, .any, .any, .any, .any, .any, .any, .any, .any, .any, .any, .any, .any, .any, .any, .any, .any, .any, .any, .any, .any, .any, .any, .any, .any, .any, .any, .any, .any, .any, .any, .any, .any, .any, .any, .any, .any, .any, .any, .any, .any, .any, .any, .any, .any, .any, .any, .any, .any, .any, .any, .any, .any, .any, .any, .any, .any, .any, .any, .any, .any, .any, .any, .any, .any, .any, .any, .any, .any, .any, .any, .any, .any, .any, .any, .any, .any, .any, .any, .any, .any, .any, .any, .any, .any, .any, .any, .any, .any, .any, .any, .pv (.lst e_Arms), .pv (.int .i64 (e_Arms.length : Int)), .pv (.int .i64 i), .any, .any, .any, .any, .any, .any, .any, .any, .any, .any, .any, .any, .any], ⟨[(false, [.pv (.int .i64 v)])], [], [], 1, 0⟩⟩
noncomputable def L95_111111111114 (actor : Bool) (e_Arms : List PV) (i : Int) (v : Int) : Option Out := LV Pr T 95 [1, 1, 1, 1, 1, 1, 1, 1, 1, 1, 1, 4] (st95_111111111114 actor e_Arms i v)
theorem f95 (j_e : Int) (e_Kind : Int) (e_Num : Int) (e_Text : List UInt8) (e_Names : List PV) (e_Types : List PV) (e_Args : List PV) (e_Arms : List PV) (e_At : Int) (actor : Bool) (cl_ : FuncId → List Arg → Option Out) (lp_ : List Nat → AS → Option Out) : runW Pr T cl_ lp_ 95 [.box [.int .i64 j_e], .pv (.agg [.int .i64 e_Kind, .int .i64 e_Num, .str e_Text, .lst e_Names, .lst e_Types, .lst e_Args, .lst e_Arms, .int .i64 e_At]), .pv (.bool actor)] =
  ((cl_ 119 [.pv (.agg [.int .i64 e_Kind, .int .i64 e_Num, .str e_Text, .lst e_Names, .lst e_Types, .lst e_Args, .lst e_Arms, .int .i64 e_At])]).bind retPV).bind fun r =>
    (bif (Sh.tup [Sh.int .i64, Sh.int .i64]).fits r then
      (cl_ 53 [.box [.int .i64 j_e], .pv (.bool (decide (((r.r 0).toInt) ≥ (0 : Int))))]).bind fun r1 =>
        (bif refFits [(0, some (Sh.agg [Sh.int .i64]))] [] r1.2 then
          (retPV (r1.1, [])).bind fun r2 =>
            (bif (Sh.tup []).fits r2 then
              bif decide (((r.r 1).toInt) < (6 : Int)) then
                bif decide ((e_Arms.length : Int) ≤ (12 : Int)) then
                  (cl_ 52 [.box [.int .i64 (((Out.b r1 0).c 0).toInt)], .pv (.bool (decide ((e_Text.length : Int) ≤ (64 : Int))))]).bind fun r3 =>
                    (bif refFits [(0, some (Sh.agg [Sh.int .i64]))] [] r3.2 then
                      (retPV (r3.1, [])).bind fun r4 =>
                        (bif (Sh.tup []).fits r4 then
                          lp_ [1, 1, 1, 1, 6] (st95_11116 actor ((r.r 0).toInt) ((r.r 1).toInt) (((Out.b r3 0).c 0).toInt) e_Kind e_Num e_Text e_Names e_Types e_Args e_Arms e_At)
                        else none)
                    else none)
                else (cl_ 52 [.box [.int .i64 (((Out.b r1 0).c 0).toInt)], .pv (.bool false)]).bind fun r5 =>
                  (bif refFits [(0, some (Sh.agg [Sh.int .i64]))] [] r5.2 then
                    (retPV (r5.1, [])).bind fun r6 =>
                      (bif (Sh.tup []).fits r6 then
                        lp_ [1, 1, 1, 1, 6] (st95_11116 actor ((r.r 0).toInt) ((r.r 1).toInt) (((Out.b r5 0).c 0).toInt) e_Kind e_Num e_Text e_Names e_Types e_Args e_Arms e_At)
                      else none)
                  else none)
              else bif decide ((e_Args.length : Int) ≤ ((r.r 1).toInt)) then
                bif decide ((e_Arms.length : Int) ≤ (12 : Int)) then
                  (cl_ 52 [.box [.int .i64 (((Out.b r1 0).c 0).toInt)], .pv (.bool (decide ((e_Text.length : Int) ≤ (64 : Int))))]).bind fun r7 =>
                    (bif refFits [(0, some (Sh.agg [Sh.int .i64]))] [] r7.2 then
                      (retPV (r7.1, [])).bind fun r8 =>
                        (bif (Sh.tup []).fits r8 then
                          lp_ [1, 1, 1, 1, 6] (st95_11116 actor ((r.r 0).toInt) ((r.r 1).toInt) (((Out.b r7 0).c 0).toInt) e_Kind e_Num e_Text e_Names e_Types e_Args e_Arms e_At)
                        else none)
                    else none)
                else (cl_ 52 [.box [.int .i64 (((Out.b r1 0).c 0).toInt)], .pv (.bool false)]).bind fun r9 =>
                  (bif refFits [(0, some (Sh.agg [Sh.int .i64]))] [] r9.2 then
                    (retPV (r9.1, [])).bind fun r10 =>
                      (bif (Sh.tup []).fits r10 then
                        lp_ [1, 1, 1, 1, 6] (st95_11116 actor ((r.r 0).toInt) ((r.r 1).toInt) (((Out.b r9 0).c 0).toInt) e_Kind e_Num e_Text e_Names e_Types e_Args e_Arms e_At)
                      else none)
                  else none)
              else (cl_ 52 [.box [.int .i64 (((Out.b r1 0).c 0).toInt)], .pv (.bool false)]).bind fun r11 =>
                (bif refFits [(0, some (Sh.agg [Sh.int .i64]))] [] r11.2 then
                  (retPV (r11.1, [])).bind fun r12 =>
                    (bif (Sh.tup []).fits r12 then
                      lp_ [1, 1, 1, 1, 6] (st95_11116 actor ((r.r 0).toInt) ((r.r 1).toInt) (((Out.b r11 0).c 0).toInt) e_Kind e_Num e_Text e_Names e_Types e_Args e_Arms e_At)
                    else none)
                else none)
            else none)
        else none)
    else none) := by kernel_rfl
theorem e95 (j_e : Int) (e_Kind : Int) (e_Num : Int) (e_Text : List UInt8) (e_Names : List PV) (e_Types : List PV) (e_Args : List PV) (e_Arms : List PV) (e_At : Int) (actor : Bool) : V 95 [.box [.int .i64 j_e], .pv (.agg [.int .i64 e_Kind, .int .i64 e_Num, .str e_Text, .lst e_Names, .lst e_Types, .lst e_Args, .lst e_Arms, .int .i64 e_At]), .pv (.bool actor)] =
  ((V 119 [.pv (.agg [.int .i64 e_Kind, .int .i64 e_Num, .str e_Text, .lst e_Names, .lst e_Types, .lst e_Args, .lst e_Arms, .int .i64 e_At])]).bind retPV).bind fun r =>
    (bif (Sh.tup [Sh.int .i64, Sh.int .i64]).fits r then
      (V 53 [.box [.int .i64 j_e], .pv (.bool (decide (((r.r 0).toInt) ≥ (0 : Int))))]).bind fun r1 =>
        (bif refFits [(0, some (Sh.agg [Sh.int .i64]))] [] r1.2 then
          (retPV (r1.1, [])).bind fun r2 =>
            (bif (Sh.tup []).fits r2 then
              bif decide (((r.r 1).toInt) < (6 : Int)) then
                bif decide ((e_Arms.length : Int) ≤ (12 : Int)) then
                  (V 52 [.box [.int .i64 (((Out.b r1 0).c 0).toInt)], .pv (.bool (decide ((e_Text.length : Int) ≤ (64 : Int))))]).bind fun r3 =>
                    (bif refFits [(0, some (Sh.agg [Sh.int .i64]))] [] r3.2 then
                      (retPV (r3.1, [])).bind fun r4 =>
                        (bif (Sh.tup []).fits r4 then
                          L95_11116 actor ((r.r 0).toInt) ((r.r 1).toInt) (((Out.b r3 0).c 0).toInt) e_Kind e_Num e_Text e_Names e_Types e_Args e_Arms e_At
                        else none)
                    else none)
                else (V 52 [.box [.int .i64 (((Out.b r1 0).c 0).toInt)], .pv (.bool false)]).bind fun r5 =>
                  (bif refFits [(0, some (Sh.agg [Sh.int .i64]))] [] r5.2 then
                    (retPV (r5.1, [])).bind fun r6 =>
                      (bif (Sh.tup []).fits r6 then
                        L95_11116 actor ((r.r 0).toInt) ((r.r 1).toInt) (((Out.b r5 0).c 0).toInt) e_Kind e_Num e_Text e_Names e_Types e_Args e_Arms e_At
                      else none)
                  else none)
              else bif decide ((e_Args.length : Int) ≤ ((r.r 1).toInt)) then
                bif decide ((e_Arms.length : Int) ≤ (12 : Int)) then
                  (V 52 [.box [.int .i64 (((Out.b r1 0).c 0).toInt)], .pv (.bool (decide ((e_Text.length : Int) ≤ (64 : Int))))]).bind fun r7 =>
                    (bif refFits [(0, some (Sh.agg [Sh.int .i64]))] [] r7.2 then
                      (retPV (r7.1, [])).bind fun r8 =>
                        (bif (Sh.tup []).fits r8 then
                          L95_11116 actor ((r.r 0).toInt) ((r.r 1).toInt) (((Out.b r7 0).c 0).toInt) e_Kind e_Num e_Text e_Names e_Types e_Args e_Arms e_At
                        else none)
                    else none)
                else (V 52 [.box [.int .i64 (((Out.b r1 0).c 0).toInt)], .pv (.bool false)]).bind fun r9 =>
                  (bif refFits [(0, some (Sh.agg [Sh.int .i64]))] [] r9.2 then
                    (retPV (r9.1, [])).bind fun r10 =>
                      (bif (Sh.tup []).fits r10 then
                        L95_11116 actor ((r.r 0).toInt) ((r.r 1).toInt) (((Out.b r9 0).c 0).toInt) e_Kind e_Num e_Text e_Names e_Types e_Args e_Arms e_At
                      else none)
                  else none)
              else (V 52 [.box [.int .i64 (((Out.b r1 0).c 0).toInt)], .pv (.bool false)]).bind fun r11 =>
                (bif refFits [(0, some (Sh.agg [Sh.int .i64]))] [] r11.2 then
                  (retPV (r11.1, [])).bind fun r12 =>
                    (bif (Sh.tup []).fits r12 then
                      L95_11116 actor ((r.r 0).toInt) ((r.r 1).toInt) (((Out.b r11 0).c 0).toInt) e_Kind e_Num e_Text e_Names e_Types e_Args e_Arms e_At
                    else none)
                else none)
            else none)
        else none)
    else none) :=
  (V_eq pa rfl _).trans (f95 j_e e_Kind e_Num e_Text e_Names e_Types e_Args e_Arms e_At actor V (LV Pr T 95))
theorem f95_11116 (actor : Bool) (v : Int) (v1 : Int) (v2 : Int) (e_Kind : Int) (e_Num : Int) (e_Text : List UInt8) (e_Names : List PV) (e_Types : List PV) (e_Args : List PV) (e_Arms : List PV) (e_At : Int) (cl_ : FuncId → List Arg → Option Out) (lp_ : List Nat → AS → Option Out) : stepW Pr T cl_ lp_ 95 [1, 1, 1, 1, 6] (st95_11116 actor v v1 v2 e_Kind e_Num e_Text e_Names e_Types e_Args e_Arms e_At) =
  bif decide ((e_Args.length : Int) ≥ v) then
    bif decide ((e_Args.length : Int) ≤ v1) then
      ((cl_ 120 [.pv (.agg [.int .i64 e_Kind, .int .i64 e_Num, .str e_Text, .lst e_Names, .lst e_Types, .lst e_Args, .lst e_Arms, .int .i64 e_At])]).bind retPV).bind fun r =>
        (bif (Sh.bool).fits r then
          bif r.toBool then
            ((cl_ 121 [.pv (.agg [.int .i64 e_Kind, .int .i64 e_Num, .str e_Text, .lst e_Names, .lst e_Types, .lst e_Args, .lst e_Arms, .int .i64 e_At])]).bind retPV).bind fun r1 =>
              (bif (Sh.bool).fits r1 then
                (cl_ 53 [.box [.int .i64 v2], .pv (.bool r1.toBool)]).bind fun r2 =>
                  (bif refFits [(0, some (Sh.agg [Sh.int .i64]))] [] r2.2 then
                    (retPV (r2.1, [])).bind fun r3 =>
                      (bif (Sh.tup []).fits r3 then
                        lp_ [1, 1, 1, 1, 1, 6] (st95_111116 actor (((Out.b r2 0).c 0).toInt) e_Kind e_Num e_Text e_Names e_Types e_Args e_Arms e_At)
                      else none)
                  else none)
              else none)
          else (cl_ 53 [.box [.int .i64 v2], .pv (.bool false)]).bind fun r4 =>
            (bif refFits [(0, some (Sh.agg [Sh.int .i64]))] [] r4.2 then
              (retPV (r4.1, [])).bind fun r5 =>
                (bif (Sh.tup []).fits r5 then
                  lp_ [1, 1, 1, 1, 1, 6] (st95_111116 actor (((Out.b r4 0).c 0).toInt) e_Kind e_Num e_Text e_Names e_Types e_Args e_Arms e_At)
                else none)
            else none)
        else none)
    else (cl_ 53 [.box [.int .i64 v2], .pv (.bool false)]).bind fun r6 =>
      (bif refFits [(0, some (Sh.agg [Sh.int .i64]))] [] r6.2 then
        (retPV (r6.1, [])).bind fun r7 =>
          (bif (Sh.tup []).fits r7 then
            lp_ [1, 1, 1, 1, 1, 6] (st95_111116 actor (((Out.b r6 0).c 0).toInt) e_Kind e_Num e_Text e_Names e_Types e_Args e_Arms e_At)
          else none)
      else none)
  else (cl_ 53 [.box [.int .i64 v2], .pv (.bool false)]).bind fun r8 =>
    (bif refFits [(0, some (Sh.agg [Sh.int .i64]))] [] r8.2 then
      (retPV (r8.1, [])).bind fun r9 =>
        (bif (Sh.tup []).fits r9 then
          lp_ [1, 1, 1, 1, 1, 6] (st95_111116 actor (((Out.b r8 0).c 0).toInt) e_Kind e_Num e_Text e_Names e_Types e_Args e_Arms e_At)
        else none)
    else none) := by kernel_rfl
theorem e95_11116 (actor : Bool) (v : Int) (v1 : Int) (v2 : Int) (e_Kind : Int) (e_Num : Int) (e_Text : List UInt8) (e_Names : List PV) (e_Types : List PV) (e_Args : List PV) (e_Arms : List PV) (e_At : Int) : L95_11116 actor v v1 v2 e_Kind e_Num e_Text e_Names e_Types e_Args e_Arms e_At =
  bif decide ((e_Args.length : Int) ≥ v) then
    bif decide ((e_Args.length : Int) ≤ v1) then
      ((V 120 [.pv (.agg [.int .i64 e_Kind, .int .i64 e_Num, .str e_Text, .lst e_Names, .lst e_Types, .lst e_Args, .lst e_Arms, .int .i64 e_At])]).bind retPV).bind fun r =>
        (bif (Sh.bool).fits r then
          bif r.toBool then
            ((V 121 [.pv (.agg [.int .i64 e_Kind, .int .i64 e_Num, .str e_Text, .lst e_Names, .lst e_Types, .lst e_Args, .lst e_Arms, .int .i64 e_At])]).bind retPV).bind fun r1 =>
              (bif (Sh.bool).fits r1 then
                (V 53 [.box [.int .i64 v2], .pv (.bool r1.toBool)]).bind fun r2 =>
                  (bif refFits [(0, some (Sh.agg [Sh.int .i64]))] [] r2.2 then
                    (retPV (r2.1, [])).bind fun r3 =>
                      (bif (Sh.tup []).fits r3 then
                        L95_111116 actor (((Out.b r2 0).c 0).toInt) e_Kind e_Num e_Text e_Names e_Types e_Args e_Arms e_At
                      else none)
                  else none)
              else none)
          else (V 53 [.box [.int .i64 v2], .pv (.bool false)]).bind fun r4 =>
            (bif refFits [(0, some (Sh.agg [Sh.int .i64]))] [] r4.2 then
              (retPV (r4.1, [])).bind fun r5 =>
                (bif (Sh.tup []).fits r5 then
                  L95_111116 actor (((Out.b r4 0).c 0).toInt) e_Kind e_Num e_Text e_Names e_Types e_Args e_Arms e_At
                else none)
            else none)
        else none)
    else (V 53 [.box [.int .i64 v2], .pv (.bool false)]).bind fun r6 =>
      (bif refFits [(0, some (Sh.agg [Sh.int .i64]))] [] r6.2 then
        (retPV (r6.1, [])).bind fun r7 =>
          (bif (Sh.tup []).fits r7 then
            L95_111116 actor (((Out.b r6 0).c 0).toInt) e_Kind e_Num e_Text e_Names e_Types e_Args e_Arms e_At
          else none)
      else none)
  else (V 53 [.box [.int .i64 v2], .pv (.bool false)]).bind fun r8 =>
    (bif refFits [(0, some (Sh.agg [Sh.int .i64]))] [] r8.2 then
      (retPV (r8.1, [])).bind fun r9 =>
        (bif (Sh.tup []).fits r9 then
          L95_111116 actor (((Out.b r8 0).c 0).toInt) e_Kind e_Num e_Text e_Names e_Types e_Args e_Arms e_At
        else none)
    else none) :=
  (LV_eq pa 95 _ _).trans (f95_11116 actor v v1 v2 e_Kind e_Num e_Text e_Names e_Types e_Args e_Arms e_At V (LV Pr T 95))
theorem f95_111116 (actor : Bool) (v : Int) (e_Kind : Int) (e_Num : Int) (e_Text : List UInt8) (e_Names : List PV) (e_Types : List PV) (e_Args : List PV) (e_Arms : List PV) (e_At : Int) (cl_ : FuncId → List Arg → Option Out) (lp_ : List Nat → AS → Option Out) : stepW Pr T cl_ lp_ 95 [1, 1, 1, 1, 1, 6] (st95_111116 actor v e_Kind e_Num e_Text e_Names e_Types e_Args e_Arms e_At) =
  bif (e_Kind == (13 : Int)) then
    lp_ [1, 1, 1, 1, 1, 1, 6] (st95_1111116 actor true v e_Kind e_Num e_Text e_Names e_Types e_Args e_Arms e_At)
  else lp_ [1, 1, 1, 1, 1, 1, 6] (st95_1111116 actor (e_Kind == (18 : Int)) v e_Kind e_Num e_Text e_Names e_Types e_Args e_Arms e_At) := by kernel_rfl
theorem e95_111116 (actor : Bool) (v : Int) (e_Kind : Int) (e_Num : Int) (e_Text : List UInt8) (e_Names : List PV) (e_Types : List PV) (e_Args : List PV) (e_Arms : List PV) (e_At : Int) : L95_111116 actor v e_Kind e_Num e_Text e_Names e_Types e_Args e_Arms e_At =
  bif (e_Kind == (13 : Int)) then
    L95_1111116 actor true v e_Kind e_Num e_Text e_Names e_Types e_Args e_Arms e_At
  else L95_1111116 actor (e_Kind == (18 : Int)) v e_Kind e_Num e_Text e_Names e_Types e_Args e_Arms e_At :=
  (LV_eq pa 95 _ _).trans (f95_111116 actor v e_Kind e_Num e_Text e_Names e_Types e_Args e_Arms e_At V (LV Pr T 95))
theorem f95_1111116 (actor : Bool) (b : Bool) (v : Int) (e_Kind : Int) (e_Num : Int) (e_Text : List UInt8) (e_Names : List PV) (e_Types : List PV) (e_Args : List PV) (e_Arms : List PV) (e_At : Int) (cl_ : FuncId → List Arg → Option Out) (lp_ : List Nat → AS → Option Out) : stepW Pr T cl_ lp_ 95 [1, 1, 1, 1, 1, 1, 6] (st95_1111116 actor b v e_Kind e_Num e_Text e_Names e_Types e_Args e_Arms e_At) =
  bif b then
    bif (e_Kind != (13 : Int)) then
      bif (e_Kind != (17 : Int)) then
        (cl_ 53 [.box [.int .i64 v], .pv (.bool true)]).bind fun r =>
          (bif refFits [(0, some (Sh.agg [Sh.int .i64]))] [] r.2 then
            (retPV (r.1, [])).bind fun r1 =>
              (bif (Sh.tup []).fits r1 then
                lp_ [1, 1, 1, 1, 1, 1, 1, 6] (st95_11111116 actor (((Out.b r 0).c 0).toInt) e_Kind e_Num e_Text e_Names e_Types e_Args e_Arms e_At)
              else none)
          else none)
      else (cl_ 53 [.box [.int .i64 v], .pv (.bool actor)]).bind fun r2 =>
        (bif refFits [(0, some (Sh.agg [Sh.int .i64]))] [] r2.2 then
          (retPV (r2.1, [])).bind fun r3 =>
            (bif (Sh.tup []).fits r3 then
              lp_ [1, 1, 1, 1, 1, 1, 1, 6] (st95_11111116 actor (((Out.b r2 0).c 0).toInt) e_Kind e_Num e_Text e_Names e_Types e_Args e_Arms e_At)
            else none)
        else none)
    else bif decide ((e_Arms.length : Int) > (0 : Int)) then
      bif (e_Kind != (17 : Int)) then
        (cl_ 53 [.box [.int .i64 v], .pv (.bool true)]).bind fun r4 =>
          (bif refFits [(0, some (Sh.agg [Sh.int .i64]))] [] r4.2 then
            (retPV (r4.1, [])).bind fun r5 =>
              (bif (Sh.tup []).fits r5 then
                lp_ [1, 1, 1, 1, 1, 1, 1, 6] (st95_11111116 actor (((Out.b r4 0).c 0).toInt) e_Kind e_Num e_Text e_Names e_Types e_Args e_Arms e_At)
              else none)
          else none)
      else (cl_ 53 [.box [.int .i64 v], .pv (.bool actor)]).bind fun r6 =>
        (bif refFits [(0, some (Sh.agg [Sh.int .i64]))] [] r6.2 then
          (retPV (r6.1, [])).bind fun r7 =>
            (bif (Sh.tup []).fits r7 then
              lp_ [1, 1, 1, 1, 1, 1, 1, 6] (st95_11111116 actor (((Out.b r6 0).c 0).toInt) e_Kind e_Num e_Text e_Names e_Types e_Args e_Arms e_At)
            else none)
        else none)
    else (cl_ 53 [.box [.int .i64 v], .pv (.bool false)]).bind fun r8 =>
      (bif refFits [(0, some (Sh.agg [Sh.int .i64]))] [] r8.2 then
        (retPV (r8.1, [])).bind fun r9 =>
          (bif (Sh.tup []).fits r9 then
            lp_ [1, 1, 1, 1, 1, 1, 1, 6] (st95_11111116 actor (((Out.b r8 0).c 0).toInt) e_Kind e_Num e_Text e_Names e_Types e_Args e_Arms e_At)
          else none)
      else none)
  else bif ((e_Arms.length : Int) == (0 : Int)) then
    bif (e_Kind != (13 : Int)) then
      bif (e_Kind != (17 : Int)) then
        (cl_ 53 [.box [.int .i64 v], .pv (.bool true)]).bind fun r10 =>
          (bif refFits [(0, some (Sh.agg [Sh.int .i64]))] [] r10.2 then
            (retPV (r10.1, [])).bind fun r11 =>
              (bif (Sh.tup []).fits r11 then
                lp_ [1, 1, 1, 1, 1, 1, 1, 6] (st95_11111116 actor (((Out.b r10 0).c 0).toInt) e_Kind e_Num e_Text e_Names e_Types e_Args e_Arms e_At)
              else none)
          else none)
      else (cl_ 53 [.box [.int .i64 v], .pv (.bool actor)]).bind fun r12 =>
        (bif refFits [(0, some (Sh.agg [Sh.int .i64]))] [] r12.2 then
          (retPV (r12.1, [])).bind fun r13 =>
            (bif (Sh.tup []).fits r13 then
              lp_ [1, 1, 1, 1, 1, 1, 1, 6] (st95_11111116 actor (((Out.b r12 0).c 0).toInt) e_Kind e_Num e_Text e_Names e_Types e_Args e_Arms e_At)
            else none)
        else none)
    else bif decide ((e_Arms.length : Int) > (0 : Int)) then
      bif (e_Kind != (17 : Int)) then
        (cl_ 53 [.box [.int .i64 v], .pv (.bool true)]).bind fun r14 =>
          (bif refFits [(0, some (Sh.agg [Sh.int .i64]))] [] r14.2 then
            (retPV (r14.1, [])).bind fun r15 =>
              (bif (Sh.tup []).fits r15 then
                lp_ [1, 1, 1, 1, 1, 1, 1, 6] (st95_11111116 actor (((Out.b r14 0).c 0).toInt) e_Kind e_Num e_Text e_Names e_Types e_Args e_Arms e_At)
              else none)
          else none)
      else (cl_ 53 [.box [.int .i64 v], .pv (.bool actor)]).bind fun r16 =>
        (bif refFits [(0, some (Sh.agg [Sh.int .i64]))] [] r16.2 then
          (retPV (r16.1, [])).bind fun r17 =>
            (bif (Sh.tup []).fits r17 then
              lp_ [1, 1, 1, 1, 1, 1, 1, 6] (st95_11111116 actor (((Out.b r16 0).c 0).toInt) e_Kind e_Num e_Text e_Names e_Types e_Args e_Arms e_At)
            else none)
        else none)
    else (cl_ 53 [.box [.int .i64 v], .pv (.bool false)]).bind fun r18 =>
      (bif refFits [(0, some (Sh.agg [Sh.int .i64]))] [] r18.2 then
        (retPV (r18.1, [])).bind fun r19 =>
          (bif (Sh.tup []).fits r19 then
            lp_ [1, 1, 1, 1, 1, 1, 1, 6] (st95_11111116 actor (((Out.b r18 0).c 0).toInt) e_Kind e_Num e_Text e_Names e_Types e_Args e_Arms e_At)
          else none)
      else none)
  else (cl_ 53 [.box [.int .i64 v], .pv (.bool false)]).bind fun r20 =>
    (bif refFits [(0, some (Sh.agg [Sh.int .i64]))] [] r20.2 then
      (retPV (r20.1, [])).bind fun r21 =>
        (bif (Sh.tup []).fits r21 then
          lp_ [1, 1, 1, 1, 1, 1, 1, 6] (st95_11111116 actor (((Out.b r20 0).c 0).toInt) e_Kind e_Num e_Text e_Names e_Types e_Args e_Arms e_At)
        else none)
    else none) := by kernel_rfl
theorem e95_1111116 (actor : Bool) (b : Bool) (v : Int) (e_Kind : Int) (e_Num : Int) (e_Text : List UInt8) (e_Names : List PV) (e_Types : List PV) (e_Args : List PV) (e_Arms : List PV) (e_At : Int) : L95_1111116 actor b v e_Kind e_Num e_Text e_Names e_Types e_Args e_Arms e_At =
  bif b then
    bif (e_Kind != (13 : Int)) then
      bif (e_Kind != (17 : Int)) then
        (V 53 [.box [.int .i64 v], .pv (.bool true)]).bind fun r =>
          (bif refFits [(0, some (Sh.agg [Sh.int .i64]))] [] r.2 then
            (retPV (r.1, [])).bind fun r1 =>
              (bif (Sh.tup []).fits r1 then
                L95_11111116 actor (((Out.b r 0).c 0).toInt) e_Kind e_Num e_Text e_Names e_Types e_Args e_Arms e_At
              else none)
          else none)
      else (V 53 [.box [.int .i64 v], .pv (.bool actor)]).bind fun r2 =>
        (bif refFits [(0, some (Sh.agg [Sh.int .i64]))] [] r2.2 then
          (retPV (r2.1, [])).bind fun r3 =>
            (bif (Sh.tup []).fits r3 then
              L95_11111116 actor (((Out.b r2 0).c 0).toInt) e_Kind e_Num e_Text e_Names e_Types e_Args e_Arms e_At
            else none)
        else none)
    else bif decide ((e_Arms.length : Int) > (0 : Int)) then
      bif (e_Kind != (17 : Int)) then
        (V 53 [.box [.int .i64 v], .pv (.bool true)]).bind fun r4 =>
          (bif refFits [(0, some (Sh.agg [Sh.int .i64]))] [] r4.2 then
            (retPV (r4.1, [])).bind fun r5 =>
              (bif (Sh.tup []).fits r5 then
                L95_11111116 actor (((Out.b r4 0).c 0).toInt) e_Kind e_Num e_Text e_Names e_Types e_Args e_Arms e_At
              else none)
          else none)
      else (V 53 [.box [.int .i64 v], .pv (.bool actor)]).bind fun r6 =>
        (bif refFits [(0, some (Sh.agg [Sh.int .i64]))] [] r6.2 then
          (retPV (r6.1, [])).bind fun r7 =>
            (bif (Sh.tup []).fits r7 then
              L95_11111116 actor (((Out.b r6 0).c 0).toInt) e_Kind e_Num e_Text e_Names e_Types e_Args e_Arms e_At
            else none)
        else none)
    else (V 53 [.box [.int .i64 v], .pv (.bool false)]).bind fun r8 =>
      (bif refFits [(0, some (Sh.agg [Sh.int .i64]))] [] r8.2 then
        (retPV (r8.1, [])).bind fun r9 =>
          (bif (Sh.tup []).fits r9 then
            L95_11111116 actor (((Out.b r8 0).c 0).toInt) e_Kind e_Num e_Text e_Names e_Types e_Args e_Arms e_At
          else none)
      else none)
  else bif ((e_Arms.length : Int) == (0 : Int)) then
    bif (e_Kind != (13 : Int)) then
      bif (e_Kind != (17 : Int)) then
        (V 53 [.box [.int .i64 v], .pv (.bool true)]).bind fun r10 =>
          (bif refFits [(0, some (Sh.agg [Sh.int .i64]))] [] r10.2 then
            (retPV (r10.1, [])).bind fun r11 =>
              (bif (Sh.tup []).fits r11 then
                L95_11111116 actor (((Out.b r10 0).c 0).toInt) e_Kind e_Num e_Text e_Names e_Types e_Args e_Arms e_At
              else none)
          else none)
      else (V 53 [.box [.int .i64 v], .pv (.bool actor)]).bind fun r12 =>
        (bif refFits [(0, some (Sh.agg [Sh.int .i64]))] [] r12.2 then
          (retPV (r12.1, [])).bind fun r13 =>
            (bif (Sh.tup []).fits r13 then
              L95_11111116 actor (((Out.b r12 0).c 0).toInt) e_Kind e_Num e_Text e_Names e_Types e_Args e_Arms e_At
            else none)
        else none)
    else bif decide ((e_Arms.length : Int) > (0 : Int)) then
      bif (e_Kind != (17 : Int)) then
        (V 53 [.box [.int .i64 v], .pv (.bool true)]).bind fun r14 =>
          (bif refFits [(0, some (Sh.agg [Sh.int .i64]))] [] r14.2 then
            (retPV (r14.1, [])).bind fun r15 =>
              (bif (Sh.tup []).fits r15 then
                L95_11111116 actor (((Out.b r14 0).c 0).toInt) e_Kind e_Num e_Text e_Names e_Types e_Args e_Arms e_At
              else none)
          else none)
      else (V 53 [.box [.int .i64 v], .pv (.bool actor)]).bind fun r16 =>
        (bif refFits [(0, some (Sh.agg [Sh.int .i64]))] [] r16.2 then
          (retPV (r16.1, [])).bind fun r17 =>
            (bif (Sh.tup []).fits r17 then
              L95_11111116 actor (((Out.b r16 0).c 0).toInt) e_Kind e_Num e_Text e_Names e_Types e_Args e_Arms e_At
            else none)
        else none)
    else (V 53 [.box [.int .i64 v], .pv (.bool false)]).bind fun r18 =>
      (bif refFits [(0, some (Sh.agg [Sh.int .i64]))] [] r18.2 then
        (retPV (r18.1, [])).bind fun r19 =>
          (bif (Sh.tup []).fits r19 then
            L95_11111116 actor (((Out.b r18 0).c 0).toInt) e_Kind e_Num e_Text e_Names e_Types e_Args e_Arms e_At
          else none)
      else none)
  else (V 53 [.box [.int .i64 v], .pv (.bool false)]).bind fun r20 =>
    (bif refFits [(0, some (Sh.agg [Sh.int .i64]))] [] r20.2 then
      (retPV (r20.1, [])).bind fun r21 =>
        (bif (Sh.tup []).fits r21 then
          L95_11111116 actor (((Out.b r20 0).c 0).toInt) e_Kind e_Num e_Text e_Names e_Types e_Args e_Arms e_At
        else none)
    else none) :=
  (LV_eq pa 95 _ _).trans (f95_1111116 actor b v e_Kind e_Num e_Text e_Names e_Types e_Args e_Arms e_At V (LV Pr T 95))
theorem f95_11111116 (actor : Bool) (v : Int) (e_Kind : Int) (e_Num : Int) (e_Text : List UInt8) (e_Names : List PV) (e_Types : List PV) (e_Args : List PV) (e_Arms : List PV) (e_At : Int) (cl_ : FuncId → List Arg → Option Out) (lp_ : List Nat → AS → Option Out) : stepW Pr T cl_ lp_ 95 [1, 1, 1, 1, 1, 1, 1, 6] (st95_11111116 actor v e_Kind e_Num e_Text e_Names e_Types e_Args e_Arms e_At) =
  bif (v != (0 : Int)) then
    some (.pv (.tup []), [.box [.int .i64 v]])
  else bif (e_Kind == (10 : Int)) then
    (cl_ 53 [.box [.int .i64 v], .pv (.bool ((e_Names.length : Int) == (e_Types.length : Int)))]).bind fun r =>
      (bif refFits [(0, some (Sh.agg [Sh.int .i64]))] [] r.2 then
        (retPV (r.1, [])).bind fun r1 =>
          (bif (Sh.tup []).fits r1 then
            (cl_ 57 [.box [.int .i64 (((Out.b r 0).c 0).toInt)], .pv (.lst e_Names)]).bind fun r2 =>
              (bif refFits [(0, some (Sh.agg [Sh.int .i64]))] [] r2.2 then
                (retPV (r2.1, [])).bind fun r3 =>
                  (bif (Sh.tup []).fits r3 then
                    (cl_ 59 [.box [.int .i64 (((Out.b r2 0).c 0).toInt)], .pv (.lst e_Types)]).bind fun r4 =>
                      (bif refFits [(0, some (Sh.agg [Sh.int .i64]))] [] r4.2 then
                        (retPV (r4.1, [])).bind fun r5 =>
                          (bif (Sh.tup []).fits r5 then
                            lp_ [1, 1, 1, 1, 1, 1, 1, 1, 1, 6] (st95_1111111116 actor (((Out.b r4 0).c 0).toInt) e_Kind e_Num e_Text e_Names e_Types e_Args e_Arms e_At)
                          else none)
                      else none)
                  else none)
              else none)
          else none)
      else none)
  else (cl_ 53 [.box [.int .i64 v], .pv (.bool ((IntKind.i64.wrap ((e_Names.length : Int) + (e_Types.length : Int))) == (0 : Int)))]).bind fun r6 =>
    (bif refFits [(0, some (Sh.agg [Sh.int .i64]))] [] r6.2 then
      (retPV (r6.1, [])).bind fun r7 =>
        (bif (Sh.tup []).fits r7 then
          lp_ [1, 1, 1, 1, 1, 1, 1, 1, 1, 6] (st95_1111111116 actor (((Out.b r6 0).c 0).toInt) e_Kind e_Num e_Text e_Names e_Types e_Args e_Arms e_At)
        else none)
    else none) := by kernel_rfl
theorem e95_11111116 (actor : Bool) (v : Int) (e_Kind : Int) (e_Num : Int) (e_Text : List UInt8) (e_Names : List PV) (e_Types : List PV) (e_Args : List PV) (e_Arms : List PV) (e_At : Int) : L95_11111116 actor v e_Kind e_Num e_Text e_Names e_Types e_Args e_Arms e_At =
  bif (v != (0 : Int)) then
    some (.pv (.tup []), [.box [.int .i64 v]])
  else bif (e_Kind == (10 : Int)) then
    (V 53 [.box [.int .i64 v], .pv (.bool ((e_Names.length : Int) == (e_Types.length : Int)))]).bind fun r =>
      (bif refFits [(0, some (Sh.agg [Sh.int .i64]))] [] r.2 then
        (retPV (r.1, [])).bind fun r1 =>
          (bif (Sh.tup []).fits r1 then
            (V 57 [.box [.int .i64 (((Out.b r 0).c 0).toInt)], .pv (.lst e_Names)]).bind fun r2 =>
              (bif refFits [(0, some (Sh.agg [Sh.int .i64]))] [] r2.2 then
                (retPV (r2.1, [])).bind fun r3 =>
                  (bif (Sh.tup []).fits r3 then
                    (V 59 [.box [.int .i64 (((Out.b r2 0).c 0).toInt)], .pv (.lst e_Types)]).bind fun r4 =>
                      (bif refFits [(0, some (Sh.agg [Sh.int .i64]))] [] r4.2 then
                        (retPV (r4.1, [])).bind fun r5 =>
                          (bif (Sh.tup []).fits r5 then
                            L95_1111111116 actor (((Out.b r4 0).c 0).toInt) e_Kind e_Num e_Text e_Names e_Types e_Args e_Arms e_At
                          else none)
                      else none)
                  else none)
              else none)
          else none)
      else none)
  else (V 53 [.box [.int .i64 v], .pv (.bool ((IntKind.i64.wrap ((e_Names.length : Int) + (e_Types.length : Int))) == (0 : Int)))]).bind fun r6 =>
    (bif refFits [(0, some (Sh.agg [Sh.int .i64]))] [] r6.2 then
      (retPV (r6.1, [])).bind fun r7 =>
        (bif (Sh.tup []).fits r7 then
          L95_1111111116 actor (((Out.b r6 0).c 0).toInt) e_Kind e_Num e_Text e_Names e_Types e_Args e_Arms e_At
        else none)
    else none) :=
  (LV_eq pa 95 _ _).trans (f95_11111116 actor v e_Kind e_Num e_Text e_Names e_Types e_Args e_Arms e_At V (LV Pr T 95))
theorem f95_1111111116 (actor : Bool) (v : Int) (e_Kind : Int) (e_Num : Int) (e_Text : List UInt8) (e_Names : List PV) (e_Types : List PV) (e_Args : List PV) (e_Arms : List PV) (e_At : Int) (cl_ : FuncId → List Arg → Option Out) (lp_ : List Nat → AS → Option Out) : stepW Pr T cl_ lp_ 95 [1, 1, 1, 1, 1, 1, 1, 1, 1, 6] (st95_1111111116 actor v e_Kind e_Num e_Text e_Names e_Types e_Args e_Arms e_At) =
  lp_ [1, 1, 1, 1, 1, 1, 1, 1, 1, 0, 1, 4] (st95_111111111014 actor e_Args 0 v e_Kind e_Num e_Text e_Names e_Types e_Arms e_At) := by kernel_rfl
theorem e95_1111111116 (actor : Bool) (v : Int) (e_Kind : Int) (e_Num : Int) (e_Text : List UInt8) (e_Names : List PV) (e_Types : List PV) (e_Args : List PV) (e_Arms : List PV) (e_At : Int) : L95_1111111116 actor v e_Kind e_Num e_Text e_Names e_Types e_Args e_Arms e_At =
  L95_111111111014 actor e_Args 0 v e_Kind e_Num e_Text e_Names e_Types e_Arms e_At :=
  (LV_eq pa 95 _ _).trans (f95_1111111116 actor v e_Kind e_Num e_Text e_Names e_Types e_Args e_Arms e_At V (LV Pr T 95))
theorem f95_111111111014 (actor : Bool) (e_Args : List PV) (i : Int) (v : Int) (e_Kind : Int) (e_Num : Int) (e_Text : List UInt8) (e_Names : List PV) (e_Types : List PV) (e_Arms : List PV) (e_At : Int) (cl_ : FuncId → List Arg → Option Out) (lp_ : List Nat → AS → Option Out) : stepW Pr T cl_ lp_ 95 [1, 1, 1, 1, 1, 1, 1, 1, 1, 0, 1, 4] (st95_111111111014 actor e_Args i v e_Kind e_Num e_Text e_Names e_Types e_Arms e_At) =
  bif decide (i < (e_Args.length : Int)) then
    bif decide (0 ≤ i) then
      (e_Args[i.toNat]?).bind fun x =>
        (bif (Sh.agg [Sh.int .i64, Sh.int .i64, Sh.str, Sh.lst, Sh.lst, Sh.lst, Sh.lst, Sh.int .i64]).fits x then
          bif actor then
            (cl_ 95 [.box [.int .i64 v], .pv (.agg [.int .i64 ((x.c 0).toInt), .int .i64 ((x.c 1).toInt), .str ((x.c 2).toStr), .lst ((x.c 3).toLst), .lst ((x.c 4).toLst), .lst ((x.c 5).toLst), .lst ((x.c 6).toLst), .int .i64 ((x.c 7).toInt)]), .pv (.bool (e_Kind != (10 : Int)))]).bind fun r =>
              (bif refFits [(0, some (Sh.agg [Sh.int .i64]))] [] r.2 then
                (retPV (r.1, [])).bind fun r1 =>
                  (bif (Sh.tup []).fits r1 then
                    lp_ [1, 1, 1, 1, 1, 1, 1, 1, 1, 0, 1, 4] (st95_111111111014 actor e_Args (IntKind.i64.wrap (i + (1 : Int))) (((Out.b r 0).c 0).toInt) e_Kind e_Num e_Text e_Names e_Types e_Arms e_At)
                  else none)
              else none)
          else (cl_ 95 [.box [.int .i64 v], .pv (.agg [.int .i64 ((x.c 0).toInt), .int .i64 ((x.c 1).toInt), .str ((x.c 2).toStr), .lst ((x.c 3).toLst), .lst ((x.c 4).toLst), .lst ((x.c 5).toLst), .lst ((x.c 6).toLst), .int .i64 ((x.c 7).toInt)]), .pv (.bool false)]).bind fun r2 =>
            (bif refFits [(0, some (Sh.agg [Sh.int .i64]))] [] r2.2 then
              (retPV (r2.1, [])).bind fun r3 =>
                (bif (Sh.tup []).fits r3 then
                  lp_ [1, 1, 1, 1, 1, 1, 1, 1, 1, 0, 1, 4] (st95_111111111014 actor e_Args (IntKind.i64.wrap (i + (1 : Int))) (((Out.b r2 0).c 0).toInt) e_Kind e_Num e_Text e_Names e_Types e_Arms e_At)
                else none)
            else none)
        else none)
    else none
  else lp_ [1, 1, 1, 1, 1, 1, 1, 1, 1, 1, 1, 4] (st95_111111111114 actor e_Arms 0 v) := by kernel_rfl
theorem e95_111111111014 (actor : Bool) (e_Args : List PV) (i : Int) (v : Int) (e_Kind : Int) (e_Num : Int) (e_Text : List UInt8) (e_Names : List PV) (e_Types : List PV) (e_Arms : List PV) (e_At : Int) : L95_111111111014 actor e_Args i v e_Kind e_Num e_Text e_Names e_Types e_Arms e_At =
  bif decide (i < (e_Args.length : Int)) then
    bif decide (0 ≤ i) then
      (e_Args[i.toNat]?).bind fun x =>
        (bif (Sh.agg [Sh.int .i64, Sh.int .i64, Sh.str, Sh.lst, Sh.lst, Sh.lst, Sh.lst, Sh.int .i64]).fits x then
          bif actor then
            (V 95 [.box [.int .i64 v], .pv (.agg [.int .i64 ((x.c 0).toInt), .int .i64 ((x.c 1).toInt), .str ((x.c 2).toStr), .lst ((x.c 3).toLst), .lst ((x.c 4).toLst), .lst ((x.c 5).toLst), .lst ((x.c 6).toLst), .int .i64 ((x.c 7).toInt)]), .pv (.bool (e_Kind != (10 : Int)))]).bind fun r =>
              (bif refFits [(0, some (Sh.agg [Sh.int .i64]))] [] r.2 then
                (retPV (r.1, [])).bind fun r1 =>
                  (bif (Sh.tup []).fits r1 then
                    L95_111111111014 actor e_Args (IntKind.i64.wrap (i + (1 : Int))) (((Out.b r 0).c 0).toInt) e_Kind e_Num e_Text e_Names e_Types e_Arms e_At
                  else none)
              else none)
          else (V 95 [.box [.int .i64 v], .pv (.agg [.int .i64 ((x.c 0).toInt), .int .i64 ((x.c 1).toInt), .str ((x.c 2).toStr), .lst ((x.c 3).toLst), .lst ((x.c 4).toLst), .lst ((x.c 5).toLst), .lst ((x.c 6).toLst), .int .i64 ((x.c 7).toInt)]), .pv (.bool false)]).bind fun r2 =>
            (bif refFits [(0, some (Sh.agg [Sh.int .i64]))] [] r2.2 then
              (retPV (r2.1, [])).bind fun r3 =>
                (bif (Sh.tup []).fits r3 then
                  L95_111111111014 actor e_Args (IntKind.i64.wrap (i + (1 : Int))) (((Out.b r2 0).c 0).toInt) e_Kind e_Num e_Text e_Names e_Types e_Arms e_At
                else none)
            else none)
        else none)
    else none
  else L95_111111111114 actor e_Arms 0 v :=
  (LV_eq pa 95 _ _).trans (f95_111111111014 actor e_Args i v e_Kind e_Num e_Text e_Names e_Types e_Arms e_At V (LV Pr T 95))
theorem f95_111111111114 (actor : Bool) (e_Arms : List PV) (i : Int) (v : Int) (cl_ : FuncId → List Arg → Option Out) (lp_ : List Nat → AS → Option Out) : stepW Pr T cl_ lp_ 95 [1, 1, 1, 1, 1, 1, 1, 1, 1, 1, 1, 4] (st95_111111111114 actor e_Arms i v) =
  bif decide (i < (e_Arms.length : Int)) then
    bif decide (0 ≤ i) then
      (e_Arms[i.toNat]?).bind fun x =>
        (bif (Sh.agg [Sh.int .i64, Sh.int .i64, Sh.str, Sh.lst, Sh.int .i64, Sh.int .i64, Sh.str, Sh.lst, Sh.lst, Sh.lst, Sh.lst, Sh.int .i64]).fits x then
          (cl_ 122 [.box [.int .i64 v], .pv (.agg [.int .i64 ((x.c 0).toInt), .int .i64 ((x.c 1).toInt), .str ((x.c 2).toStr), .lst ((x.c 3).toLst)])]).bind fun r =>
            (bif refFits [(0, some (Sh.agg [Sh.int .i64]))] [] r.2 then
              (retPV (r.1, [])).bind fun r1 =>
                (bif (Sh.tup []).fits r1 then
                  (cl_ 95 [.box [.int .i64 (((Out.b r 0).c 0).toInt)], .pv (.agg [.int .i64 ((x.c 4).toInt), .int .i64 ((x.c 5).toInt), .str ((x.c 6).toStr), .lst ((x.c 7).toLst), .lst ((x.c 8).toLst), .lst ((x.c 9).toLst), .lst ((x.c 10).toLst), .int .i64 ((x.c 11).toInt)]), .pv (.bool actor)]).bind fun r2 =>
                    (bif refFits [(0, some (Sh.agg [Sh.int .i64]))] [] r2.2 then
                      (retPV (r2.1, [])).bind fun r3 =>
                        (bif (Sh.tup []).fits r3 then
                          lp_ [1, 1, 1, 1, 1, 1, 1, 1, 1, 1, 1, 4] (st95_111111111114 actor e_Arms (IntKind.i64.wrap (i + (1 : Int))) (((Out.b r2 0).c 0).toInt))
                        else none)
                    else none)
                else none)
            else none)
        else none)
    else none
  else some (.pv (.tup []), [.box [.int .i64 v]]) := by kernel_rfl
theorem e95_111111111114 (actor : Bool) (e_Arms : List PV) (i : Int) (v : Int) : L95_111111111114 actor e_Arms i v =
  bif decide (i < (e_Arms.length : Int)) then
    bif decide (0 ≤ i) then
      (e_Arms[i.toNat]?).bind fun x =>
        (bif (Sh.agg [Sh.int .i64, Sh.int .i64, Sh.str, Sh.lst, Sh.int .i64, Sh.int .i64, Sh.str, Sh.lst, Sh.lst, Sh.lst, Sh.lst, Sh.int .i64]).fits x then
          (V 122 [.box [.int .i64 v], .pv (.agg [.int .i64 ((x.c 0).toInt), .int .i64 ((x.c 1).toInt), .str ((x.c 2).toStr), .lst ((x.c 3).toLst)])]).bind fun r =>
            (bif refFits [(0, some (Sh.agg [Sh.int .i64]))] [] r.2 then
              (retPV (r.1, [])).bind fun r1 =>
                (bif (Sh.tup []).fits r1 then
                  (V 95 [.box [.int .i64 (((Out.b r 0).c 0).toInt)], .pv (.agg [.int .i64 ((x.c 4).toInt), .int .i64 ((x.c 5).toInt), .str ((x.c 6).toStr), .lst ((x.c 7).toLst), .lst ((x.c 8).toLst), .lst ((x.c 9).toLst), .lst ((x.c 10).toLst), .int .i64 ((x.c 11).toInt)]), .pv (.bool actor)]).bind fun r2 =>
                    (bif refFits [(0, some (Sh.agg [Sh.int .i64]))] [] r2.2 then
                      (retPV (r2.1, [])).bind fun r3 =>
                        (bif (Sh.tup []).fits r3 then
                          L95_111111111114 actor e_Arms (IntKind.i64.wrap (i + (1 : Int))) (((Out.b r2 0).c 0).toInt)
                        else none)
                    else none)
                else none)
            else none)
        else none)
    else none
  else some (.pv (.tup []), [.box [.int .i64 v]]) :=
  (LV_eq pa 95 _ _).trans (f95_111111111114 actor e_Arms i v V (LV Pr T 95))
end Go.AL.S9
