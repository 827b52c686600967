/- Equations of functions in the abstract machine: printed by gen.py. -/
import Derived.Test.YtlmodlihiglnhaaDoorS9T
set_option linter.unusedVariables false
set_option maxRecDepth 100000
namespace Go.AL.S9
open Go Go.AL
/-! 7 roadstead/roadkeep2.CapableOnce -/
theorem f7 (e_Kind : Int) (e_Num : Int) (e_Text : List UInt8) (e_Names : List PV) (e_Types : List PV) (e_Args : List PV) (e_Arms : List PV) (e_At : Int) (x_Kind : Int) (x_Num : Int) (x_Text : List UInt8) (x_Names : List PV) (x_Types : List PV) (x_Args : List PV) (x_Arms : List PV) (x_At : Int) (y_Kind : Int) (y_Num : Int) (y_Text : List UInt8) (y_Names : List PV) (y_Types : List PV) (y_Args : List PV) (y_Arms : List PV) (y_At : Int) (name : List UInt8) (cl_ : FuncId → List Arg → Option Out) (lp_ : List Nat → AS → Option Out) : runW Pr T cl_ lp_ 7 [.pv (.agg [.int .i64 e_Kind, .int .i64 e_Num, .str e_Text, .lst e_Names, .lst e_Types, .lst e_Args, .lst e_Arms, .int .i64 e_At]), .pv (.agg [.int .i64 x_Kind, .int .i64 x_Num, .str x_Text, .lst x_Names, .lst x_Types, .lst x_Args, .lst x_Arms, .int .i64 x_At]), .pv (.agg [.int .i64 y_Kind, .int .i64 y_Num, .str y_Text, .lst y_Names, .lst y_Types, .lst y_Args, .lst y_Arms, .int .i64 y_At]), .pv (.str name)] =
  ((cl_ 23 [.pv (.agg [.str [120], .int .i64 0, .lst [], .lst [], .lst [], .lst [], .lst [], .lst [.agg [.str [88], .lst [], .lst [], .int .i64 1, .str [], .lst [], .int .i64 7, .int .i64 0, .str [], .lst [], .lst [], .lst [.agg [.int .i64 e_Kind, .int .i64 e_Num, .str e_Text, .lst e_Names, .lst e_Types, .lst e_Args, .lst e_Arms, .int .i64 e_At], .agg [.int .i64 x_Kind, .int .i64 x_Num, .str x_Text, .lst x_Names, .lst x_Types, .lst x_Args, .lst x_Arms, .int .i64 x_At], .agg [.int .i64 y_Kind, .int .i64 y_Num, .str y_Text, .lst y_Names, .lst y_Types, .lst y_Args, .lst y_Arms, .int .i64 y_At]], .lst [], .int .i64 0]]])]).bind retPV).bind fun r =>
    (bif (Sh.int .i64).fits r then
      bif ((r.toInt) != (0 : Int)) then
        some (.pv (.bool true), [])
      else ((cl_ 24 [.pv (.str name), .pv (.agg [.int .i64 e_Kind, .int .i64 e_Num, .str e_Text, .lst e_Names, .lst e_Types, .lst e_Args, .lst e_Arms, .int .i64 e_At])]).bind retPV).bind fun r1 =>
        (bif (Sh.int .i64).fits r1 then
          ((cl_ 24 [.pv (.str name), .pv (.agg [.int .i64 7, .int .i64 0, .str [], .lst [], .lst [], .lst [.agg [.int .i64 e_Kind, .int .i64 e_Num, .str e_Text, .lst e_Names, .lst e_Types, .lst e_Args, .lst e_Arms, .int .i64 e_At], .agg [.int .i64 x_Kind, .int .i64 x_Num, .str x_Text, .lst x_Names, .lst x_Types, .lst x_Args, .lst x_Arms, .int .i64 x_At], .agg [.int .i64 y_Kind, .int .i64 y_Num, .str y_Text, .lst y_Names, .lst y_Types, .lst y_Args, .lst y_Arms, .int .i64 y_At]], .lst [], .int .i64 0])]).bind retPV).bind fun r2 =>
            (bif (Sh.int .i64).fits r2 then
              bif decide ((r1.toInt) ≥ (0 : Int)) then
                ((cl_ 26 [.pv (.agg [.int .i64 e_Kind, .int .i64 e_Num, .str e_Text, .lst e_Names, .lst e_Types, .lst e_Args, .lst e_Arms, .int .i64 e_At])]).bind retPV).bind fun r3 =>
                  (bif (Sh.lst).fits r3 then
                    ((cl_ 25 [.pv (.lst r3.toLst), .pv (.str name)]).bind retPV).bind fun r4 =>
                      (bif (Sh.bool).fits r4 then
                        bif (((r1.toInt) == (0 : Int)) == (!r4.toBool)) then
                          ((cl_ 24 [.pv (.str name), .pv (.agg [.int .i64 6, .int .i64 0, .str name, .lst [], .lst [], .lst [.agg [.int .i64 1, .int .i64 0, .str [], .lst [], .lst [], .lst [], .lst [], .int .i64 0], .agg [.int .i64 e_Kind, .int .i64 e_Num, .str e_Text, .lst e_Names, .lst e_Types, .lst e_Args, .lst e_Arms, .int .i64 e_At]], .lst [], .int .i64 0])]).bind retPV).bind fun r5 =>
                            (bif (Sh.int .i64).fits r5 then
                              bif ((r5.toInt) == (0 : Int)) then
                                ((cl_ 24 [.pv (.str name), .pv (.agg [.int .i64 x_Kind, .int .i64 x_Num, .str x_Text, .lst x_Names, .lst x_Types, .lst x_Args, .lst x_Arms, .int .i64 x_At])]).bind retPV).bind fun r6 =>
                                  (bif (Sh.int .i64).fits r6 then
                                    ((cl_ 24 [.pv (.str name), .pv (.agg [.int .i64 y_Kind, .int .i64 y_Num, .str y_Text, .lst y_Names, .lst y_Types, .lst y_Args, .lst y_Arms, .int .i64 y_At])]).bind retPV).bind fun r7 =>
                                      (bif (Sh.int .i64).fits r7 then
                                        bif ((r2.toInt) == (IntKind.i64.wrap ((r1.toInt) + (bif decide ((r7.toInt) > (r6.toInt)) then (r7.toInt) else (r6.toInt))))) then
                                          ((cl_ 24 [.pv (.str [120]), .pv (.agg [.int .i64 5, .int .i64 0, .str [120], .lst [], .lst [], .lst [], .lst [], .int .i64 0])]).bind retPV).bind fun r8 =>
                                            (bif (Sh.int .i64).fits r8 then
                                              some (.pv (.bool ((r8.toInt) == (1 : Int))), [])
                                            else none)
                                        else some (.pv (.bool false), [])
                                      else none)
                                  else none)
                              else some (.pv (.bool false), [])
                            else none)
                        else some (.pv (.bool false), [])
                      else none)
                  else none)
              else some (.pv (.bool false), [])
            else none)
        else none)
    else none) := by kernel_rfl
theorem e7 (e_Kind : Int) (e_Num : Int) (e_Text : List UInt8) (e_Names : List PV) (e_Types : List PV) (e_Args : List PV) (e_Arms : List PV) (e_At : Int) (x_Kind : Int) (x_Num : Int) (x_Text : List UInt8) (x_Names : List PV) (x_Types : List PV) (x_Args : List PV) (x_Arms : List PV) (x_At : Int) (y_Kind : Int) (y_Num : Int) (y_Text : List UInt8) (y_Names : List PV) (y_Types : List PV) (y_Args : List PV) (y_Arms : List PV) (y_At : Int) (name : List UInt8) : V 7 [.pv (.agg [.int .i64 e_Kind, .int .i64 e_Num, .str e_Text, .lst e_Names, .lst e_Types, .lst e_Args, .lst e_Arms, .int .i64 e_At]), .pv (.agg [.int .i64 x_Kind, .int .i64 x_Num, .str x_Text, .lst x_Names, .lst x_Types, .lst x_Args, .lst x_Arms, .int .i64 x_At]), .pv (.agg [.int .i64 y_Kind, .int .i64 y_Num, .str y_Text, .lst y_Names, .lst y_Types, .lst y_Args, .lst y_Arms, .int .i64 y_At]), .pv (.str name)] =
  ((V 23 [.pv (.agg [.str [120], .int .i64 0, .lst [], .lst [], .lst [], .lst [], .lst [], .lst [.agg [.str [88], .lst [], .lst [], .int .i64 1, .str [], .lst [], .int .i64 7, .int .i64 0, .str [], .lst [], .lst [], .lst [.agg [.int .i64 e_Kind, .int .i64 e_Num, .str e_Text, .lst e_Names, .lst e_Types, .lst e_Args, .lst e_Arms, .int .i64 e_At], .agg [.int .i64 x_Kind, .int .i64 x_Num, .str x_Text, .lst x_Names, .lst x_Types, .lst x_Args, .lst x_Arms, .int .i64 x_At], .agg [.int .i64 y_Kind, .int .i64 y_Num, .str y_Text, .lst y_Names, .lst y_Types, .lst y_Args, .lst y_Arms, .int .i64 y_At]], .lst [], .int .i64 0]]])]).bind retPV).bind fun r =>
    (bif (Sh.int .i64).fits r then
      bif ((r.toInt) != (0 : Int)) then
        some (.pv (.bool true), [])
      else ((V 24 [.pv (.str name), .pv (.agg [.int .i64 e_Kind, .int .i64 e_Num, .str e_Text, .lst e_Names, .lst e_Types, .lst e_Args, .lst e_Arms, .int .i64 e_At])]).bind retPV).bind fun r1 =>
        (bif (Sh.int .i64).fits r1 then
          ((V 24 [.pv (.str name), .pv (.agg [.int .i64 7, .int .i64 0, .str [], .lst [], .lst [], .lst [.agg [.int .i64 e_Kind, .int .i64 e_Num, .str e_Text, .lst e_Names, .lst e_Types, .lst e_Args, .lst e_Arms, .int .i64 e_At], .agg [.int .i64 x_Kind, .int .i64 x_Num, .str x_Text, .lst x_Names, .lst x_Types, .lst x_Args, .lst x_Arms, .int .i64 x_At], .agg [.int .i64 y_Kind, .int .i64 y_Num, .str y_Text, .lst y_Names, .lst y_Types, .lst y_Args, .lst y_Arms, .int .i64 y_At]], .lst [], .int .i64 0])]).bind retPV).bind fun r2 =>
            (bif (Sh.int .i64).fits r2 then
              bif decide ((r1.toInt) ≥ (0 : Int)) then
                ((V 26 [.pv (.agg [.int .i64 e_Kind, .int .i64 e_Num, .str e_Text, .lst e_Names, .lst e_Types, .lst e_Args, .lst e_Arms, .int .i64 e_At])]).bind retPV).bind fun r3 =>
                  (bif (Sh.lst).fits r3 then
                    ((V 25 [.pv (.lst r3.toLst), .pv (.str name)]).bind retPV).bind fun r4 =>
                      (bif (Sh.bool).fits r4 then
                        bif (((r1.toInt) == (0 : Int)) == (!r4.toBool)) then
                          ((V 24 [.pv (.str name), .pv (.agg [.int .i64 6, .int .i64 0, .str name, .lst [], .lst [], .lst [.agg [.int .i64 1, .int .i64 0, .str [], .lst [], .lst [], .lst [], .lst [], .int .i64 0], .agg [.int .i64 e_Kind, .int .i64 e_Num, .str e_Text, .lst e_Names, .lst e_Types, .lst e_Args, .lst e_Arms, .int .i64 e_At]], .lst [], .int .i64 0])]).bind retPV).bind fun r5 =>
                            (bif (Sh.int .i64).fits r5 then
                              bif ((r5.toInt) == (0 : Int)) then
                                ((V 24 [.pv (.str name), .pv (.agg [.int .i64 x_Kind, .int .i64 x_Num, .str x_Text, .lst x_Names, .lst x_Types, .lst x_Args, .lst x_Arms, .int .i64 x_At])]).bind retPV).bind fun r6 =>
                                  (bif (Sh.int .i64).fits r6 then
                                    ((V 24 [.pv (.str name), .pv (.agg [.int .i64 y_Kind, .int .i64 y_Num, .str y_Text, .lst y_Names, .lst y_Types, .lst y_Args, .lst y_Arms, .int .i64 y_At])]).bind retPV).bind fun r7 =>
                                      (bif (Sh.int .i64).fits r7 then
                                        bif ((r2.toInt) == (IntKind.i64.wrap ((r1.toInt) + (bif decide ((r7.toInt) > (r6.toInt)) then (r7.toInt) else (r6.toInt))))) then
                                          ((V 24 [.pv (.str [120]), .pv (.agg [.int .i64 5, .int .i64 0, .str [120], .lst [], .lst [], .lst [], .lst [], .int .i64 0])]).bind retPV).bind fun r8 =>
                                            (bif (Sh.int .i64).fits r8 then
                                              some (.pv (.bool ((r8.toInt) == (1 : Int))), [])
                                            else none)
                                        else some (.pv (.bool false), [])
                                      else none)
                                  else none)
                              else some (.pv (.bool false), [])
                            else none)
                        else some (.pv (.bool false), [])
                      else none)
                  else none)
              else some (.pv (.bool false), [])
            else none)
        else none)
    else none) :=
  (V_eq pa rfl _).trans (f7 e_Kind e_Num e_Text e_Names e_Types e_Args e_Arms e_At x_Kind x_Num x_Text x_Names x_Types x_Args x_Arms x_At y_Kind y_Num y_Text y_Names y_Types y_Args y_Arms y_At name V (LV Pr T 7))
/-! 23 roadstead/roadref2.RightOf -/
def st23_11014 (p_Uses : List PV) (p_Datas : List PV) (p_Traits : List PV) (p_Impls : List PV) (p_Funcs : List PV) (p_Actors : List PV) (i : Int) (p_Name : List UInt8) (p_Version : Int) (i1 : Int) : AS :=
  ⟨[.any, .box 0 0, .any, .box 1 0, .any, .any, .any, .any, .any, .any, .any, .any, .any, .any, .any, .any, .any, .any, .any, .any, .any, .any, .any, .any, .any, .any, .any, .any, .any, .any, .any, .any, .any, .any, .any, .any, .any, .any, .any, .any, .any, .any, .any, .any, .pv (.lst [.int .i64 (p_Uses.length : Int), .int .i64 (p_Datas.length : Int), .int .i64 (p_Traits.length : Int), .int .i64 (p_Impls.length : Int), .int .i64 (p_Funcs.length : Int), .int .i64 (p_Actors.length : Int)]), .pv (.int .i64 6), .pv (.int .i64 i), .any, .any, .any, .any, .any, .any, .any, .any, .any, .any, .any, .any, .any, .any, .any, .any, .any, .any, .any, .any, .any, .any, .any, .any, .any, .any, .any, .any, .any, .any, .any, .any, .any, .any, .any, .any, .any, .any, .any, .any, .any, .any, .any, .any, .any, .any, .any, .any, .any, .any, .any, .any, .any, .any, .any, .any, .any, .any, .any, .any, .any, .any, .any, .any, .any, .any, .any, .any, .any, .any, .any, .any, .any, .any, .any, .any, .any, .any, .any, .any, .any, .any, .any, .any, .any, .any, .any, .any, .any, .any, .any, .any, .any, .any, .any, .any, .any, .any, .any, .any, .any, .any, .any, .any, .any, .any, .any, .any, .any, .any, .any, .any, .any, .any, .any, .any, .any, .any, .any, .any, .any, .any, .any, .any, .any, .any, .any, .any, .any, .any, .any, .any, .any, .any, .any, .any, .any, .any, .any, .any, .any, .any, .any, .any, .any, .any, .any, .any, .any, .any, .any, .any, .any, .any, .any, .any, .any, .any, .any, .any, .any, .any, .any, .any, .any, .any, .any, .any, .any, .any, .any, .any, .any, .any, .any, .any, .any, .any, .any, .any, .any, .any, .any, .any, .any, .any, .any, .any, .any, .any, .any, .any, .any, .any, .any, .any, .any, .any, .any, .any, .any, .any, .any, .any, .any, .any, .any, .any, .any, .any, .any, .any, .any, .any, .any, .any, .any, .any, .any, .any, .any, .any, .any, .any, .any], ⟨[(false, [.pv (.str p_Name), .pv (.int .i64 p_Version), .pv (.lst p_Uses), .pv (.lst p_Datas), .pv (.lst p_Traits), .pv (.lst p_Impls), .pv (.lst p_Funcs), .pv (.lst p_Actors)]), (false, [.pv (.int .i64 i1)])], [], [], 0, 0⟩⟩
noncomputable def L23_11014 (p_Uses : List PV) (p_Datas : List PV) (p_Traits : List PV) (p_Impls : List PV) (p_Funcs : List PV) (p_Actors : List PV) (i : Int) (p_Name : List UInt8) (p_Version : Int) (i1 : Int) : Option Out := LV Pr T 23 [1, 1, 0, 1, 4] (st23_11014 p_Uses p_Datas p_Traits p_Impls p_Funcs p_Actors i p_Name p_Version i1)
def st23_11116 (p_Name : List UInt8) (p_Version : Int) (p_Uses : List PV) (p_Datas : List PV) (p_Traits : List PV) (p_Impls : List PV) (p_Funcs : List PV) (p_Actors : List PV) (v : Int) : AS :=
  ⟨[.any, .box 0 0, .any, .box 1 0, .any, .any, .any, .any, .any, .any, .any, .any, .any, .any, .any, .any, .any, .any, .any, .any, .any, .any, .any, .any, .any, .any, .any, .any, .any, .any, .any, .any, .any, .any, .any, .any, .any, .any, .any, .any, .any, .any, .any, .any, .any, .any, .any, .any, .any, .any, .any, .any, .any, .any, .any, .any, .any, .any, .any, .any, .any, .any, .any, .any, .any, .any, .any, .any, .any, .any, .any, .any, .any, .any, .any, .any, .any, .any, .any, .any, .any, .any, .any, .any, .any, .any, .any, .any, .any, .any, .any, .any, .any, .any, .any, .any, .any, .any, .any, .any, .any, .any, .any, .any, .any, .any, .any, .any, .any, .any, .any, .any, .any, .any, .any, .any, .any, .any, .any, .any, .any, .any, .any, .any, .any, .any, .any, .any, .any, .any, .any, .any, .any, .any, .any, .any, .any, .any, .any, .any, .any, .any, .any, .any, .any, .any, .any, .any, .any, .any, .any, .any, .any, .any, .any, .any, .any, .any, .any, .any, .any, .any, .any, .any, .any, .any, .any, .any, .any, .any, .any, .any, .any, .any, .any, .any, .any, .any, .any, .any, .any, .any, .any, .any, .any, .any, .any, .any, .any, .any, .any, .any, .any, .any, .any, .any, .any, .any, .any, .any, .any, .any, .any, .any, .any, .any, .any, .any, .any, .any, .any, .any, .any, .any, .any, .any, .any, .any, .any, .any, .any, .any, .any, .any, .any, .any, .any, .any, .any, .any, .any, .any, .any, .any, .any, .any, .any, .any, .any, .any, .any, .any, .any, .any, .any, .any, .any, .any, .any, .any, .any, .any, .any, .any, .any, .any, .any, .any, .any, .any, .any, .any, .any, .any, .any, .any, .any, .any, .any, .any, .any, .any], ⟨[(false, [.pv (.str p_Name), .pv (.int .i64 p_Version), .pv (.lst p_Uses), .pv (.lst p_Datas), .pv (.lst p_Traits), .pv (.lst p_Impls), .pv (.lst p_Funcs), .pv (.lst p_Actors)]), (false, [.pv (.int .i64 v)])], [], [], 0, 0⟩⟩
noncomputable def L23_11116 (p_Name : List UInt8) (p_Version : Int) (p_Uses : List PV) (p_Datas : List PV) (p_Traits : List PV) (p_Impls : List PV) (p_Funcs : List PV) (p_Actors : List PV) (v : Int) : Option Out := LV Pr T 23 [1, 1, 1, 1, 6] (st23_11116 p_Name p_Version p_Uses p_Datas p_Traits p_Impls p_Funcs p_Actors v)
def st23_1111014 (p_Uses : List PV) (i : Int) (p_Name : List UInt8) (p_Version : Int) (p_Datas : List PV) (p_Traits : List PV) (p_Impls : List PV) (p_Funcs : List PV) (p_Actors : List PV) (v : Int) : AS :=
  ⟨[.any, .box 0 0, .any, .box 1 0, .any, .any, .any, .any, .any, .any, .any, .any, .any, .any, .any, .any, .any, .any, .any, .any, .any, .any, .any, .any, .any, .any, .any, .any, .any, .any, .any, .any, .any, .any, .any, .any, .any, .any, .any, .any, .any, .any, .any, .any, .any, .any, .any, .any, .any, .any, .any, .any, .any, .any, .any, .any, .any, .any, .any, .any, .any, .any, .any, .any, .any, .any, .pv (.lst p_Uses), .pv (.int .i64 (p_Uses.length : Int)), .pv (.int .i64 i), .any, .any, .any, .any, .any, .any, .any, .any, .any, .any, .any, .any, .any, .any, .any, .any, .any, .any, .any, .any, .any, .any, .any, .any, .any, .any, .any, .any, .any, .any, .any, .any, .any, .any, .any, .any, .any, .any, .any, .any, .any, .any, .any, .any, .any, .any, .any, .any, .any, .any, .any, .any, .any, .any, .any, .any, .any, .any, .any, .any, .any, .any, .any, .any, .any, .any, .any, .any, .any, .any, .any, .any, .any, .any, .any, .any, .any, .any, .any, .any, .any, .any, .any, .any, .any, .any, .any, .any, .any, .any, .any, .any, .any, .any, .any, .any, .any, .any, .any, .any, .any, .any, .any, .any, .any, .any, .any, .any, .any, .any, .any, .any, .any, .any, .any, .any, .any, .any, .any, .any, .any, .any, .any, .any, .any, .any, .any, .any, .any, .any, .any, .any, .any, .any, .any, .any, .any, .any, .any, .any, .any, .any, .any, .any, .any, .any, .any, .any, .any, .any, .any, .any, .any, .any, .any, .any, .any, .any, .any, .any, .any, .any, .any, .any, .any, .any, .any, .any, .any, .any, .any, .any, .any, .any, .any, .any, .any, .any, .any, .any, .any, .any, .any, .any, .any, .any, .any, .any, .any, .any, .any, .any, .any, .any, .any, .any, .any, .any, .any, .any, .any, .any, .any], ⟨[(false, [.pv (.str p_Name), .pv (.int .i64 p_Version), .pv (.lst p_Uses), .pv (.lst p_Datas), .pv (.lst p_Traits), .pv (.lst p_Impls), .pv (.lst p_Funcs), .pv (.lst p_Actors)]), (false, [.pv (.int .i64 v)])], [], [], 0, 0⟩⟩
noncomputable def L23_1111014 (p_Uses : List PV) (i : Int) (p_Name : List UInt8) (p_Version : Int) (p_Datas : List PV) (p_Traits : List PV) (p_Impls : List PV) (p_Funcs : List PV) (p_Actors : List PV) (v : Int) : Option Out := LV Pr T 23 [1, 1, 1, 1, 0, 1, 4] (st23_1111014 p_Uses i p_Name p_Version p_Datas p_Traits p_Impls p_Funcs p_Actors v)
def st23_11111014 (p_Datas : List PV) (i : Int) (p_Name : List UInt8) (p_Version : Int) (p_Uses : List PV) (p_Traits : List PV) (p_Impls : List PV) (p_Funcs : List PV) (p_Actors : List PV) (v : Int) : AS :=
  ⟨[.any, .box 0 0, .any, .box 1 0, .any, .any, .any, .any, .any, .any, .any, .any, .any, .any, .any, .any, .any, .any, .any, .any, .any, .any, .any, .any, .any, .any, .any, .any, .any, .any, .any, .any, .any, .any, .any, .any, .any, .any, .any, .any, .any, .any, .any, .any, .any, .any, .any, .any, .any, .any, .any, .any, .any, .any, .any, .any, .any, .any, .any, .any, .any, .any, .any, .any, .any, .any, .any, .any, .any, .any, .any, .any, .any, .any, .any, .any, .any, .any, .any, .any, .any, .any, .any, .any, .any, .any, .any, .any, .any, .any, .any, .any, .any, .any, .any, .any, .pv (.lst p_Datas), .pv (.int .i64 (p_Datas.length : Int)), .pv (.int .i64 i), .any, .any, .any, .any, .any, .any, .any, .any, .any, .any, .any, .any, .any, .any, .any, .any, .any, .any, .any, .any, .any, .any, .any, .any, .any, .any, .any, .any, .any, .any, .any, .any, .any, .any, .any, .any, .any, .any, .any, .any, .any, .any, .any, .any, .any, .any, .any, .any, .any, .any, .any, .any, .any, .any, .any, .any, .any, .any, .any, .any, .any, .any, .any, .any, .any, .any, .any, .any, .any, .any, .any, .any, .any, .any, .any, .any, .any, .any, .any, .any, .any, .any, .any, .any, .any, .any, .any, .any, .any, .any, .any, .any, .any, .any, .any, .any, .any, .any, .any, .any, .any, .any, .any, .any, .any, .any, .any, .any, .any, .any, .any, .any, .any, .any, .any, .any, .any, .any, .any, .any, .any, .any, .any, .any, .any, .any, .any, .any, .any, .any, .any, .any, .any, .any, .any, .any, .any, .any, .any, .any, .any, .any, .any, .any, .any, .any, .any, .any, .any, .any, .any, .any, .any, .any, .any, .any, .any, .any, .any, .any, .any, .any, .any, .any, .any, .any, .any, .any, .any, .any, .any, .any, .any], ⟨[(false, [.pv (.str p_Name), .pv (.int .i64 p_Version), .pv (.lst p_Uses), .pv (.lst p_Datas), .pv (.lst p_Traits), .pv (.lst p_Impls), .pv (.lst p_Funcs), .pv (.lst p_Actors)]), (false, [.pv (.int .i64 v)])], [], [], 0, 0⟩⟩
noncomputable def L23_11111014 (p_Datas : List PV) (i : Int) (p_Name : List UInt8) (p_Version : Int) (p_Uses : List PV) (p_Traits : List PV) (p_Impls : List PV) (p_Funcs : List PV) (p_Actors : List PV) (v : Int) : Option Out := LV Pr T 23 [1, 1, 1, 1, 1, 0, 1, 4] (st23_11111014 p_Datas i p_Name p_Version p_Uses p_Traits p_Impls p_Funcs p_Actors v)
def st23_1111101451104116 (p_Datas : List PV) (i1 : Int) (p_Name : List UInt8) (p_Version : Int) (p_Uses : List PV) (p_Traits : List PV) (p_Impls : List PV) (p_Funcs : List PV) (p_Actors : List PV) (v : Int) (v1 : List UInt8) (v2 : List PV) (v3 : List PV) : AS :=
  ⟨[.any, .box 0 0, .any, .box 1 0, .any, .any, .any, .any, .any, .box 2 0, .any, .any, .any, .any, .any, .any, .any, .any, .any, .any, .any, .any, .any, .any, .any, .any, .any, .any, .any, .any, .any, .any, .any, .any, .any, .any, .any, .any, .any, .any, .any, .any, .any, .any, .any, .any, .any, .any, .any, .any, .any, .any, .any, .any, .any, .any, .any, .any, .any, .any, .any, .any, .any, .any, .any, .any, .any, .any, .any, .any, .any, .any, .any, .any, .any, .any, .any, .any, .any, .any, .any, .any, .any, .any, .any, .any, .any, .any, .any, .any, .any, .any, .any, .any, .any, .any, .pv (.lst p_Datas), .pv (.int .i64 (p_Datas.length : Int)), .pv (.int .i64 i1), .any, .any, .any, .any, .any, .any, .any, .any, .any, .any, .any, .any, .any, .any, .any, .any, .any, .any, .any, .any, .any, .any, .any, .any, .any, .any, .any, .any, .any, .any, .any, .any, .any, .any, .any, .any, .any, .any, .any, .any, .any, .any, .any, .any, .any, .any, .any, .any, .any, .any, .any, .any, .any, .any, .any, .any, .any, .any, .any, .any, .any, .any, .any, .any, .any, .any, .any, .any, .any, .any, .any, .any, .any, .any, .any, .any, .any, .any, .any, .any, .any, .any, .any, .any, .any, .any, .any, .any, .any, .any, .any, .any, .any, .any, .any, .any, .any, .any, .any, .any, .any, .any, .any, .any, .any, .any, .any, .any, .any, .any, .any, .any, .any, .any, .any, .any, .any, .any, .any, .any, .any, .any, .any, .any, .any, .any, .any, .any, .any, .any, .any, .any, .any, .any, .any, .any, .any, .any, .any, .any, .any, .any, .any, .any, .any, .any, .any, .any, .any, .any, .any, .any, .any, .any, .any, .any, .any, .any, .any, .any, .any, .any, .any, .any, .any, .any, .any, .any, .any, .any, .any, .any, .any], ⟨[(false, [.pv (.str p_Name), .pv (.int .i64 p_Version), .pv (.lst p_Uses), .pv (.lst p_Datas), .pv (.lst p_Traits), .pv (.lst p_Impls), .pv (.lst p_Funcs), .pv (.lst p_Actors)]), (false, [.pv (.int .i64 v)]), (false, [.pv (.str v1), .pv (.lst v2), .pv (.lst v3)])], [], [], 0, 0⟩⟩
noncomputable def L23_1111101451104116 (p_Datas : List PV) (i1 : Int) (p_Name : List UInt8) (p_Version : Int) (p_Uses : List PV) (p_Traits : List PV) (p_Impls : List PV) (p_Funcs : List PV) (p_Actors : List PV) (v : Int) (v1 : List UInt8) (v2 : List PV) (v3 : List PV) : Option Out := LV Pr T 23 [1, 1, 1, 1, 1, 0, 1, 4, 5, 1, 1, 0, 4, 1, 1, 6] (st23_1111101451104116 p_Datas i1 p_Name p_Version p_Uses p_Traits p_Impls p_Funcs p_Actors v v1 v2 v3)
def st23_111111014 (p_Traits : List PV) (i : Int) (p_Name : List UInt8) (p_Version : Int) (p_Uses : List PV) (p_Datas : List PV) (p_Impls : List PV) (p_Funcs : List PV) (p_Actors : List PV) (v : Int) : AS :=
  ⟨[.any, .box 0 0, .any, .box 1 0, .any, .any, .any, .any, .any, .any, .any, .any, .any, .any, .any, .any, .any, .any, .any, .any, .any, .any, .any, .any, .any, .any, .any, .any, .any, .any, .any, .any, .any, .any, .any, .any, .any, .any, .any, .any, .any, .any, .any, .any, .any, .any, .any, .any, .any, .any, .any, .any, .any, .any, .any, .any, .any, .any, .any, .any, .any, .any, .any, .any, .any, .any, .any, .any, .any, .any, .any, .any, .any, .any, .any, .any, .any, .any, .any, .any, .any, .any, .any, .any, .any, .any, .any, .any, .any, .any, .any, .any, .any, .any, .any, .any, .any, .any, .any, .any, .any, .any, .any, .any, .any, .any, .any, .any, .any, .any, .any, .any, .any, .any, .any, .any, .any, .any, .any, .any, .any, .any, .any, .any, .any, .any, .any, .any, .any, .any, .any, .any, .any, .any, .any, .any, .any, .any, .any, .any, .any, .any, .any, .any, .any, .any, .any, .any, .pv (.lst p_Traits), .pv (.int .i64 (p_Traits.length : Int)), .pv (.int .i64 i), .any, .any, .any, .any, .any, .any, .any, .any, .any, .any, .any, .any, .any, .any, .any, .any, .any, .any, .any, .any, .any, .any, .any, .any, .any, .any, .any, .any, .any, .any, .any, .any, .any, .any, .any, .any, .any, .any, .any, .any, .any, .any, .any, .any, .any, .any, .any, .any, .any, .any, .any, .any, .any, .any, .any, .any, .any, .any, .any, .any, .any, .any, .any, .any, .any, .any, .any, .any, .any, .any, .any, .any, .any, .any, .any, .any, .any, .any, .any, .any, .any, .any, .any, .any, .any, .any, .any, .any, .any, .any, .any, .any, .any, .any, .any, .any, .any, .any, .any, .any, .any, .any, .any, .any, .any, .any, .any, .any, .any, .any, .any, .any, .any, .any, .any, .any, .any, .any, .any, .any, .any], ⟨[(false, [.pv (.str p_Name), .pv (.int .i64 p_Version), .pv (.lst p_Uses), .pv (.lst p_Datas), .pv (.lst p_Traits), .pv (.lst p_Impls), .pv (.lst p_Funcs), .pv (.lst p_Actors)]), (false, [.pv (.int .i64 v)])], [], [], 0, 0⟩⟩
noncomputable def L23_111111014 (p_Traits : List PV) (i : Int) (p_Name : List UInt8) (p_Version : Int) (p_Uses : List PV) (p_Datas : List PV) (p_Impls : List PV) (p_Funcs : List PV) (p_Actors : List PV) (v : Int) : Option Out := LV Pr T 23 [1, 1, 1, 1, 1, 1, 0, 1, 4] (st23_111111014 p_Traits i p_Name p_Version p_Uses p_Datas p_Impls p_Funcs p_Actors v)
def st23_1111101451104111114 (p_Datas : List PV) (i2 : Int) (v3 : List PV) (i : Int) (p_Name : List UInt8) (p_Version : Int) (p_Uses : List PV) (p_Traits : List PV) (p_Impls : List PV) (p_Funcs : List PV) (p_Actors : List PV) (v : Int) : AS :=
  ⟨[.any, .box 0 0, .any, .box 1 0, .any, .any, .any, .any, .any, .any, .any, .any, .any, .any, .any, .any, .any, .any, .any, .any, .any, .any, .any, .any, .any, .any, .any, .any, .any, .any, .any, .any, .any, .any, .any, .any, .any, .any, .any, .any, .any, .any, .any, .any, .any, .any, .any, .any, .any, .any, .any, .any, .any, .any, .any, .any, .any, .any, .any, .any, .any, .any, .any, .any, .any, .any, .any, .any, .any, .any, .any, .any, .any, .any, .any, .any, .any, .any, .any, .any, .any, .any, .any, .any, .any, .any, .any, .any, .any, .any, .any, .any, .any, .any, .any, .any, .pv (.lst p_Datas), .pv (.int .i64 (p_Datas.length : Int)), .pv (.int .i64 i2), .any, .any, .any, .any, .any, .any, .any, .any, .any, .any, .any, .any, .any, .any, .any, .any, .any, .any, .any, .any, .any, .any, .any, .any, .any, .pv (.lst v3), .pv (.int .i64 (v3.length : Int)), .pv (.int .i64 i), .any, .any, .any, .any, .any, .any, .any, .any, .any, .any, .any, .any, .any, .any, .any, .any, .any, .any, .any, .any, .any, .any, .any, .any, .any, .any, .any, .any, .any, .any, .any, .any, .any, .any, .any, .any, .any, .any, .any, .any, .any, .any, .any, .any, .any, .any, .any, .any, .any, .any, .any, .any, .any, .any, .any, .any, .any, .any, .any, .any, .any, .any, .any, .any, .any, .any, .any, .any, .any, .any, .any, .any, .any, .any, .any, .any, .any, .any, .any, .any, .any, .any, .any, .any, .any, .any, .any, .any, .any, .any, .any, .any, .any, .any, .any, .any, .any, .any, .any, .any, .any, .any, .any, .any, .any, .any, .any, .any, .any, .any, .any, .any, .any, .any, .any, .any, .any, .any, .any, .any, .any, .any, .any, .any, .any, .any, .any, .any, .any, .any, .any, .any, .any, .any, .any, .any, .any, .any, .any, .any, .any, .any, .any, .any, .any], ⟨[(false, [.pv (.str p_Name), .pv (.int .i64 p_Version), .pv (.lst p_Uses), .pv (.lst p_Datas), .pv (.lst p_Traits), .pv (.lst p_Impls), .pv (.lst p_Funcs), .pv (.lst p_Actors)]), (false, [.pv (.int .i64 v)])], [], [], 0, 0⟩⟩
noncomputable def L23_1111101451104111114 (p_Datas : List PV) (i2 : Int) (v3 : List PV) (i : Int) (p_Name : List UInt8) (p_Version : Int) (p_Uses : List PV) (p_Traits : List PV) (p_Impls : List PV) (p_Funcs : List PV) (p_Actors : List PV) (v : Int) : Option Out := LV Pr T 23 [1, 1, 1, 1, 1, 0, 1, 4, 5, 1, 1, 0, 4, 1, 1, 1, 1, 1, 4] (st23_1111101451104111114 p_Datas i2 v3 i p_Name p_Version p_Uses p_Traits p_Impls p_Funcs p_Actors v)
def st23_1111110145110411114 (p_Traits : List PV) (i1 : Int) (v : List PV) (i : Int) (p_Name : List UInt8) (p_Version : Int) (p_Uses : List PV) (p_Datas : List PV) (p_Impls : List PV) (p_Funcs : List PV) (p_Actors : List PV) (v1 : Int) : AS :=
  ⟨[.any, .box 0 0, .any, .box 1 0, .any, .any, .any, .any, .any, .any, .any, .any, .any, .any, .any, .any, .any, .any, .any, .any, .any, .any, .any, .any, .any, .any, .any, .any, .any, .any, .any, .any, .any, .any, .any, .any, .any, .any, .any, .any, .any, .any, .any, .any, .any, .any, .any, .any, .any, .any, .any, .any, .any, .any, .any, .any, .any, .any, .any, .any, .any, .any, .any, .any, .any, .any, .any, .any, .any, .any, .any, .any, .any, .any, .any, .any, .any, .any, .any, .any, .any, .any, .any, .any, .any, .any, .any, .any, .any, .any, .any, .any, .any, .any, .any, .any, .any, .any, .any, .any, .any, .any, .any, .any, .any, .any, .any, .any, .any, .any, .any, .any, .any, .any, .any, .any, .any, .any, .any, .any, .any, .any, .any, .any, .any, .any, .any, .any, .any, .any, .any, .any, .any, .any, .any, .any, .any, .any, .any, .any, .any, .any, .any, .any, .any, .any, .any, .any, .pv (.lst p_Traits), .pv (.int .i64 (p_Traits.length : Int)), .pv (.int .i64 i1), .any, .any, .any, .any, .any, .any, .any, .any, .any, .any, .any, .any, .any, .any, .any, .pv (.lst v), .pv (.int .i64 (v.length : Int)), .pv (.int .i64 i), .any, .any, .any, .any, .any, .any, .any, .any, .any, .any, .any, .any, .any, .any, .any, .any, .any, .any, .any, .any, .any, .any, .any, .any, .any, .any, .any, .any, .any, .any, .any, .any, .any, .any, .any, .any, .any, .any, .any, .any, .any, .any, .any, .any, .any, .any, .any, .any, .any, .any, .any, .any, .any, .any, .any, .any, .any, .any, .any, .any, .any, .any, .any, .any, .any, .any, .any, .any, .any, .any, .any, .any, .any, .any, .any, .any, .any, .any, .any, .any, .any, .any, .any, .any, .any, .any, .any, .any, .any, .any, .any, .any, .any, .any, .any, .any, .any, .any, .any, .any, .any, .any, .any], ⟨[(false, [.pv (.str p_Name), .pv (.int .i64 p_Version), .pv (.lst p_Uses), .pv (.lst p_Datas), .pv (.lst p_Traits), .pv (.lst p_Impls), .pv (.lst p_Funcs), .pv (.lst p_Actors)]), (false, [.pv (.int .i64 v1)])], [], [], 0, 0⟩⟩
noncomputable def L23_1111110145110411114 (p_Traits : List PV) (i1 : Int) (v : List PV) (i : Int) (p_Name : List UInt8) (p_Version : Int) (p_Uses : List PV) (p_Datas : List PV) (p_Impls : List PV) (p_Funcs : List PV) (p_Actors : List PV) (v1 : Int) : Option Out := LV Pr T 23 [1, 1, 1, 1, 1, 1, 0, 1, 4, 5, 1, 1, 0, 4, 1, 1, 1, 1, 4] (st23_1111110145110411114 p_Traits i1 v i p_Name p_Version p_Uses p_Datas p_Impls p_Funcs p_Actors v1)
def st23_1111111014 (p_Impls : List PV) (i : Int) (p_Name : List UInt8) (p_Version : Int) (p_Uses : List PV) (p_Datas : List PV) (p_Traits : List PV) (p_Funcs : List PV) (p_Actors : List PV) (v : Int) : AS :=
  ⟨[.any, .box 0 0, .any, .box 1 0, .any, .any, .any, .any, .any, .any, .any, .any, .any, .any, .any, .any, .any, .any, .any, .any, .any, .any, .any, .any, .any, .any, .any, .any, .any, .any, .any, .any, .any, .any, .any, .any, .any, .any, .any, .any, .any, .any, .any, .any, .any, .any, .any, .any, .any, .any, .any, .any, .any, .any, .any, .any, .any, .any, .any, .any, .any, .any, .any, .any, .any, .any, .any, .any, .any, .any, .any, .any, .any, .any, .any, .any, .any, .any, .any, .any, .any, .any, .any, .any, .any, .any, .any, .any, .any, .any, .any, .any, .any, .any, .any, .any, .any, .any, .any, .any, .any, .any, .any, .any, .any, .any, .any, .any, .any, .any, .any, .any, .any, .any, .any, .any, .any, .any, .any, .any, .any, .any, .any, .any, .any, .any, .any, .any, .any, .any, .any, .any, .any, .any, .any, .any, .any, .any, .any, .any, .any, .any, .any, .any, .any, .any, .any, .any, .any, .any, .any, .any, .any, .any, .any, .any, .any, .any, .any, .any, .any, .any, .any, .any, .any, .any, .any, .any, .any, .any, .any, .any, .any, .any, .any, .any, .any, .any, .pv (.lst p_Impls), .pv (.int .i64 (p_Impls.length : Int)), .pv (.int .i64 i), .any, .any, .any, .any, .any, .any, .any, .any, .any, .any, .any, .any, .any, .any, .any, .any, .any, .any, .any, .any, .any, .any, .any, .any, .any, .any, .any, .any, .any, .any, .any, .any, .any, .any, .any, .any, .any, .any, .any, .any, .any, .any, .any, .any, .any, .any, .any, .any, .any, .any, .any, .any, .any, .any, .any, .any, .any, .any, .any, .any, .any, .any, .any, .any, .any, .any, .any, .any, .any, .any, .any, .any, .any, .any, .any, .any, .any, .any, .any, .any, .any, .any, .any, .any, .any, .any, .any, .any, .any, .any, .any], ⟨[(false, [.pv (.str p_Name), .pv (.int .i64 p_Version), .pv (.lst p_Uses), .pv (.lst p_Datas), .pv (.lst p_Traits), .pv (.lst p_Impls), .pv (.lst p_Funcs), .pv (.lst p_Actors)]), (false, [.pv (.int .i64 v)])], [], [], 0, 0⟩⟩
noncomputable def L23_1111111014 (p_Impls : List PV) (i : Int) (p_Name : List UInt8) (p_Version : Int) (p_Uses : List PV) (p_Datas : List PV) (p_Traits : List PV) (p_Funcs : List PV) (p_Actors : List PV) (v : Int) : Option Out := LV Pr T 23 [1, 1, 1, 1, 1, 1, 1, 0, 1, 4] (st23_1111111014 p_Impls i p_Name p_Version p_Uses p_Datas p_Traits p_Funcs p_Actors v)
def st23_111111101451104116 (p_Impls : List PV) (i1 : Int) (p_Name : List UInt8) (p_Version : Int) (p_Uses : List PV) (p_Datas : List PV) (p_Traits : List PV) (p_Funcs : List PV) (p_Actors : List PV) (v : Int) (v1 : List UInt8) (v2 : List UInt8) (v3 : List PV) : AS :=
  ⟨[.any, .box 0 0, .any, .box 1 0, .any, .any, .any, .any, .any, .any, .any, .any, .any, .any, .any, .any, .any, .box 2 0, .any, .any, .any, .any, .any, .any, .any, .any, .any, .any, .any, .any, .any, .any, .any, .any, .any, .any, .any, .any, .any, .any, .any, .any, .any, .any, .any, .any, .any, .any, .any, .any, .any, .any, .any, .any, .any, .any, .any, .any, .any, .any, .any, .any, .any, .any, .any, .any, .any, .any, .any, .any, .any, .any, .any, .any, .any, .any, .any, .any, .any, .any, .any, .any, .any, .any, .any, .any, .any, .any, .any, .any, .any, .any, .any, .any, .any, .any, .any, .any, .any, .any, .any, .any, .any, .any, .any, .any, .any, .any, .any, .any, .any, .any, .any, .any, .any, .any, .any, .any, .any, .any, .any, .any, .any, .any, .any, .any, .any, .any, .any, .any, .any, .any, .any, .any, .any, .any, .any, .any, .any, .any, .any, .any, .any, .any, .any, .any, .any, .any, .any, .any, .any, .any, .any, .any, .any, .any, .any, .any, .any, .any, .any, .any, .any, .any, .any, .any, .any, .any, .any, .any, .any, .any, .any, .any, .any, .any, .any, .any, .pv (.lst p_Impls), .pv (.int .i64 (p_Impls.length : Int)), .pv (.int .i64 i1), .any, .any, .any, .any, .any, .any, .any, .any, .any, .any, .any, .any, .any, .any, .any, .any, .any, .any, .any, .any, .any, .any, .any, .any, .any, .any, .any, .any, .any, .any, .any, .any, .any, .any, .any, .any, .any, .any, .any, .any, .any, .any, .any, .any, .any, .any, .any, .any, .any, .any, .any, .any, .any, .any, .any, .any, .any, .any, .any, .any, .any, .any, .any, .any, .any, .any, .any, .any, .any, .any, .any, .any, .any, .any, .any, .any, .any, .any, .any, .any, .any, .any, .any, .any, .any, .any, .any, .any, .any, .any, .any], ⟨[(false, [.pv (.str p_Name), .pv (.int .i64 p_Version), .pv (.lst p_Uses), .pv (.lst p_Datas), .pv (.lst p_Traits), .pv (.lst p_Impls), .pv (.lst p_Funcs), .pv (.lst p_Actors)]), (false, [.pv (.int .i64 v)]), (false, [.pv (.str v1), .pv (.str v2), .pv (.lst v3)])], [], [], 0, 0⟩⟩
noncomputable def L23_111111101451104116 (p_Impls : List PV) (i1 : Int) (p_Name : List UInt8) (p_Version : Int) (p_Uses : List PV) (p_Datas : List PV) (p_Traits : List PV) (p_Funcs : List PV) (p_Actors : List PV) (v : Int) (v1 : List UInt8) (v2 : List UInt8) (v3 : List PV) : Option Out := LV Pr T 23 [1, 1, 1, 1, 1, 1, 1, 0, 1, 4, 5, 1, 1, 0, 4, 1, 1, 6] (st23_111111101451104116 p_Impls i1 p_Name p_Version p_Uses p_Datas p_Traits p_Funcs p_Actors v v1 v2 v3)
def st23_11111111014 (p_Funcs : List PV) (i : Int) (p_Name : List UInt8) (p_Version : Int) (p_Uses : List PV) (p_Datas : List PV) (p_Traits : List PV) (p_Impls : List PV) (p_Actors : List PV) (v : Int) : AS :=
  ⟨[.any, .box 0 0, .any, .box 1 0, .any, .any, .any, .any, .any, .any, .any, .any, .any, .any, .any, .any, .any, .any, .any, .any, .any, .any, .any, .any, .any, .any, .any, .any, .any, .any, .any, .any, .any, .any, .any, .any, .any, .any, .any, .any, .any, .any, .any, .any, .any, .any, .any, .any, .any, .any, .any, .any, .any, .any, .any, .any, .any, .any, .any, .any, .any, .any, .any, .any, .any, .any, .any, .any, .any, .any, .any, .any, .any, .any, .any, .any, .any, .any, .any, .any, .any, .any, .any, .any, .any, .any, .any, .any, .any, .any, .any, .any, .any, .any, .any, .any, .any, .any, .any, .any, .any, .any, .any, .any, .any, .any, .any, .any, .any, .any, .any, .any, .any, .any, .any, .any, .any, .any, .any, .any, .any, .any, .any, .any, .any, .any, .any, .any, .any, .any, .any, .any, .any, .any, .any, .any, .any, .any, .any, .any, .any, .any, .any, .any, .any, .any, .any, .any, .any, .any, .any, .any, .any, .any, .any, .any, .any, .any, .any, .any, .any, .any, .any, .any, .any, .any, .any, .any, .any, .any, .any, .any, .any, .any, .any, .any, .any, .any, .any, .any, .any, .any, .any, .any, .any, .any, .any, .any, .any, .any, .any, .any, .any, .any, .any, .any, .any, .any, .any, .any, .any, .any, .any, .any, .any, .any, .any, .any, .any, .any, .any, .any, .any, .any, .any, .any, .any, .any, .any, .pv (.lst p_Funcs), .pv (.int .i64 (p_Funcs.length : Int)), .pv (.int .i64 i), .any, .any, .any, .any, .any, .any, .any, .any, .any, .any, .any, .any, .any, .any, .any, .any, .any, .any, .any, .any, .any, .any, .any, .any, .any, .any, .any, .any, .any, .any, .any, .any, .any, .any, .any, .any, .any, .any, .any, .any, .any, .any, .any, .any, .any, .any, .any, .any, .any, .any], ⟨[(false, [.pv (.str p_Name), .pv (.int .i64 p_Version), .pv (.lst p_Uses), .pv (.lst p_Datas), .pv (.lst p_Traits), .pv (.lst p_Impls), .pv (.lst p_Funcs), .pv (.lst p_Actors)]), (false, [.pv (.int .i64 v)])], [], [], 0, 0⟩⟩
noncomputable def L23_11111111014 (p_Funcs : List PV) (i : Int) (p_Name : List UInt8) (p_Version : Int) (p_Uses : List PV) (p_Datas : List PV) (p_Traits : List PV) (p_Impls : List PV) (p_Actors : List PV) (v : Int) : Option Out := LV Pr T 23 [1, 1, 1, 1, 1, 1, 1, 1, 0, 1, 4] (st23_11111111014 p_Funcs i p_Name p_Version p_Uses p_Datas p_Traits p_Impls p_Actors v)
def st23_11111110145110411114 (p_Impls : List PV) (i2 : Int) (v3 : List PV) (i : Int) (p_Name : List UInt8) (p_Version : Int) (p_Uses : List PV) (p_Datas : List PV) (p_Traits : List PV) (p_Funcs : List PV) (p_Actors : List PV) (v : Int) : AS :=
  ⟨[.any, .box 0 0, .any, .box 1 0, .any, .any, .any, .any, .any, .any, .any, .any, .any, .any, .any, .any, .any, .any, .any, .any, .any, .any, .any, .any, .any, .any, .any, .any, .any, .any, .any, .any, .any, .any, .any, .any, .any, .any, .any, .any, .any, .any, .any, .any, .any, .any, .any, .any, .any, .any, .any, .any, .any, .any, .any, .any, .any, .any, .any, .any, .any, .any, .any, .any, .any, .any, .any, .any, .any, .any, .any, .any, .any, .any, .any, .any, .any, .any, .any, .any, .any, .any, .any, .any, .any, .any, .any, .any, .any, .any, .any, .any, .any, .any, .any, .any, .any, .any, .any, .any, .any, .any, .any, .any, .any, .any, .any, .any, .any, .any, .any, .any, .any, .any, .any, .any, .any, .any, .any, .any, .any, .any, .any, .any, .any, .any, .any, .any, .any, .any, .any, .any, .any, .any, .any, .any, .any, .any, .any, .any, .any, .any, .any, .any, .any, .any, .any, .any, .any, .any, .any, .any, .any, .any, .any, .any, .any, .any, .any, .any, .any, .any, .any, .any, .any, .any, .any, .any, .any, .any, .any, .any, .any, .any, .any, .any, .any, .any, .pv (.lst p_Impls), .pv (.int .i64 (p_Impls.length : Int)), .pv (.int .i64 i2), .any, .any, .any, .any, .any, .any, .any, .any, .any, .any, .any, .any, .any, .any, .any, .any, .any, .any, .any, .any, .any, .any, .any, .any, .any, .any, .pv (.lst v3), .pv (.int .i64 (v3.length : Int)), .pv (.int .i64 i), .any, .any, .any, .any, .any, .any, .any, .any, .any, .any, .any, .any, .any, .any, .any, .any, .any, .any, .any, .any, .any, .any, .any, .any, .any, .any, .any, .any, .any, .any, .any, .any, .any, .any, .any, .any, .any, .any, .any, .any, .any, .any, .any, .any, .any, .any, .any, .any, .any, .any, .any, .any, .any, .any, .any, .any, .any, .any, .any, .any, .any, .any], ⟨[(false, [.pv (.str p_Name), .pv (.int .i64 p_Version), .pv (.lst p_Uses), .pv (.lst p_Datas), .pv (.lst p_Traits), .pv (.lst p_Impls), .pv (.lst p_Funcs), .pv (.lst p_Actors)]), (false, [.pv (.int .i64 v)])], [], [], 0, 0⟩⟩
noncomputable def L23_11111110145110411114 (p_Impls : List PV) (i2 : Int) (v3 : List PV) (i : Int) (p_Name : List UInt8) (p_Version : Int) (p_Uses : List PV) (p_Datas : List PV) (p_Traits : List PV) (p_Funcs : List PV) (p_Actors : List PV) (v : Int) : Option Out := LV Pr T 23 [1, 1, 1, 1, 1, 1, 1, 0, 1, 4, 5, 1, 1, 0, 4, 1, 1, 1, 1, 4] (st23_11111110145110411114 p_Impls i2 v3 i p_Name p_Version p_Uses p_Datas p_Traits p_Funcs p_Actors v)
def st23_111111111014 (p_Actors : List PV) (i : Int) (p_Name : List UInt8) (p_Version : Int) (p_Uses : List PV) (p_Datas : List PV) (p_Traits : List PV) (p_Impls : List PV) (p_Funcs : List PV) (v : Int) : AS :=
  ⟨[.any, .any, .any, .box 1 0, .any, .any, .any, .any, .any, .any, .any, .any, .any, .any, .any, .any, .any, .any, .any, .any, .any, .any, .any, .any, .any, .any, .any, .any, .any, .any, .any, .any, .any, .any, .any, .any, .any, .any, .any, .any, .any, .any, .any, .any, .any, .any, .any, .any, .any, .any, .any, .any, .any, .any, .any, .any, .any, .any, .any, .any, .any, .any, .any, .any, .any, .any, .any, .any, .any, .any, .any, .any, .any, .any, .any, .any, .any, .any, .any, .any, .any, .any, .any, .any, .any, .any, .any, .any, .any, .any, .any, .any, .any, .any, .any, .any, .any, .any, .any, .any, .any, .any, .any, .any, .any, .any, .any, .any, .any, .any, .any, .any, .any, .any, .any, .any, .any, .any, .any, .any, .any, .any, .any, .any, .any, .any, .any, .any, .any, .any, .any, .any, .any, .any, .any, .any, .any, .any, .any, .any, .any, .any, .any, .any, .any, .any, .any, .any, .any, .any, .any, .any, .any, .any, .any, .any, .any, .any, .any, .any, .any, .any, .any, .any, .any, .any, .any, .any, .any, .any, .any, .any, .any, .any, .any, .any, .any, .any, .any, .any, .any, .any, .any, .any, .any, .any, .any, .any, .any, .any, .any, .any, .any, .any, .any, .any, .any, .any, .any, .any, .any, .any, .any, .any, .any, .any, .any, .any, .any, .any, .any, .any, .any, .any, .any, .any, .any, .any, .any, .any, .any, .any, .any, .any, .any, .any, .any, .any, .any, .any, .pv (.lst p_Actors), .pv (.int .i64 (p_Actors.length : Int)), .pv (.int .i64 i), .any, .any, .any, .any, .any, .any, .any, .any, .any, .any, .any, .any, .any, .any, .any, .any, .any, .any, .any, .any, .any, .any, .any, .any, .any, .any, .any, .any, .any, .any, .any, .any, .any, .any, .any, .any, .any, .any, .any], ⟨[(false, [.pv (.str p_Name), .pv (.int .i64 p_Version), .pv (.lst p_Uses), .pv (.lst p_Datas), .pv (.lst p_Traits), .pv (.lst p_Impls), .pv (.lst p_Funcs), .pv (.lst p_Actors)]), (false, [.pv (.int .i64 v)])], [], [], 0, 0⟩⟩
noncomputable def L23_111111111014 (p_Actors : List PV) (i : Int) (p_Name : List UInt8) (p_Version : Int) (p_Uses : List PV) (p_Datas : List PV) (p_Traits : List PV) (p_Impls : List PV) (p_Funcs : List PV) (v : Int) : Option Out := LV Pr T 23 [1, 1, 1, 1, 1, 1, 1, 1, 1, 0, 1, 4] (st23_111111111014 p_Actors i p_Name p_Version p_Uses p_Datas p_Traits p_Impls p_Funcs v)
def st23_11111111101451104116 (p_Actors : List PV) (i1 : Int) (p_Name : List UInt8) (p_Version : Int) (p_Uses : List PV) (p_Datas : List PV) (p_Traits : List PV) (p_Impls : List PV) (p_Funcs : List PV) (v : Int) (v1 : List UInt8) (v2 : List PV) (v3 : List PV) (v4 : Int) (v5 : List UInt8) (v6 : List PV) (v7 : Int) (v8 : Int) (v9 : List UInt8) (v10 : List PV) (v11 : List PV) (v12 : List PV) (v13 : List PV) (v14 : Int) : AS :=
  ⟨[.any, .any, .any, .box 1 0, .any, .any, .any, .any, .any, .any, .any, .any, .any, .any, .any, .any, .any, .any, .any, .any, .any, .any, .any, .box 2 0, .any, .any, .any, .any, .any, .any, .any, .any, .any, .any, .any, .any, .any, .any, .any, .any, .any, .any, .any, .any, .any, .any, .any, .any, .any, .any, .any, .any, .any, .any, .any, .any, .any, .any, .any, .any, .any, .any, .any, .any, .any, .any, .any, .any, .any, .any, .any, .any, .any, .any, .any, .any, .any, .any, .any, .any, .any, .any, .any, .any, .any, .any, .any, .any, .any, .any, .any, .any, .any, .any, .any, .any, .any, .any, .any, .any, .any, .any, .any, .any, .any, .any, .any, .any, .any, .any, .any, .any, .any, .any, .any, .any, .any, .any, .any, .any, .any, .any, .any, .any, .any, .any, .any, .any, .any, .any, .any, .any, .any, .any, .any, .any, .any, .any, .any, .any, .any, .any, .any, .any, .any, .any, .any, .any, .any, .any, .any, .any, .any, .any, .any, .any, .any, .any, .any, .any, .any, .any, .any, .any, .any, .any, .any, .any, .any, .any, .any, .any, .any, .any, .any, .any, .any, .any, .any, .any, .any, .any, .any, .any, .any, .any, .any, .any, .any, .any, .any, .any, .any, .any, .any, .any, .any, .any, .any, .any, .any, .any, .any, .any, .any, .any, .any, .any, .any, .any, .any, .any, .any, .any, .any, .any, .any, .any, .any, .any, .any, .any, .any, .any, .any, .any, .any, .any, .any, .any, .pv (.lst p_Actors), .pv (.int .i64 (p_Actors.length : Int)), .pv (.int .i64 i1), .any, .any, .any, .any, .any, .any, .any, .any, .any, .any, .any, .any, .any, .any, .any, .any, .any, .any, .any, .any, .any, .any, .any, .any, .any, .any, .any, .any, .any, .any, .any, .any, .any, .any, .any, .any, .any, .any, .any], ⟨[(false, [.pv (.str p_Name), .pv (.int .i64 p_Version), .pv (.lst p_Uses), .pv (.lst p_Datas), .pv (.lst p_Traits), .pv (.lst p_Impls), .pv (.lst p_Funcs), .pv (.lst p_Actors)]), (false, [.pv (.int .i64 v)]), (false, [.pv (.str v1), .pv (.lst v2), .pv (.lst v3), .pv (.int .i64 v4), .pv (.str v5), .pv (.lst v6), .pv (.int .i64 v7), .pv (.int .i64 v8), .pv (.str v9), .pv (.lst v10), .pv (.lst v11), .pv (.lst v12), .pv (.lst v13), .pv (.int .i64 v14)])], [], [], 0, 0⟩⟩
noncomputable def L23_11111111101451104116 (p_Actors : List PV) (i1 : Int) (p_Name : List UInt8) (p_Version : Int) (p_Uses : List PV) (p_Datas : List PV) (p_Traits : List PV) (p_Impls : List PV) (p_Funcs : List PV) (v : Int) (v1 : List UInt8) (v2 : List PV) (v3 : List PV) (v4 : Int) (v5 : List UInt8) (v6 : List PV) (v7 : Int) (v8 : Int) (v9 : List UInt8) (v10 : List PV) (v11 : List PV) (v12 : List PV) (v13 : List PV) (v14 : Int) : Option Out := LV Pr T 23 [1, 1, 1, 1, 1, 1, 1, 1, 1, 0, 1, 4, 5, 1, 1, 0, 4, 1, 1, 6] (st23_11111111101451104116 p_Actors i1 p_Name p_Version p_Uses p_Datas p_Traits p_Impls p_Funcs v v1 v2 v3 v4 v5 v6 v7 v8 v9 v10 v11 v12 v13 v14)
theorem f23 (p_Name : List UInt8) (p_Version : Int) (p_Uses : List PV) (p_Datas : List PV) (p_Traits : List PV) (p_Impls : List PV) (p_Funcs : List PV) (p_Actors : List PV) (cl_ : FuncId → List Arg → Option Out) (lp_ : List Nat → AS → Option Out) : runW Pr T cl_ lp_ 23 [.pv (.agg [.str p_Name, .int .i64 p_Version, .lst p_Uses, .lst p_Datas, .lst p_Traits, .lst p_Impls, .lst p_Funcs, .lst p_Actors])] =
  lp_ [1, 1, 0, 1, 4] (st23_11014 p_Uses p_Datas p_Traits p_Impls p_Funcs p_Actors 0 p_Name p_Version 0) := by kernel_rfl
theorem e23 (p_Name : List UInt8) (p_Version : Int) (p_Uses : List PV) (p_Datas : List PV) (p_Traits : List PV) (p_Impls : List PV) (p_Funcs : List PV) (p_Actors : List PV) : V 23 [.pv (.agg [.str p_Name, .int .i64 p_Version, .lst p_Uses, .lst p_Datas, .lst p_Traits, .lst p_Impls, .lst p_Funcs, .lst p_Actors])] =
  L23_11014 p_Uses p_Datas p_Traits p_Impls p_Funcs p_Actors 0 p_Name p_Version 0 :=
  (V_eq pa rfl _).trans (f23 p_Name p_Version p_Uses p_Datas p_Traits p_Impls p_Funcs p_Actors V (LV Pr T 23))
theorem f23_11014 (p_Uses : List PV) (p_Datas : List PV) (p_Traits : List PV) (p_Impls : List PV) (p_Funcs : List PV) (p_Actors : List PV) (i : Int) (p_Name : List UInt8) (p_Version : Int) (i1 : Int) (cl_ : FuncId → List Arg → Option Out) (lp_ : List Nat → AS → Option Out) : stepW Pr T cl_ lp_ 23 [1, 1, 0, 1, 4] (st23_11014 p_Uses p_Datas p_Traits p_Impls p_Funcs p_Actors i p_Name p_Version i1) =
  bif decide (i < (6 : Int)) then
    bif decide (0 ≤ i) then
      (([.int .i64 (p_Uses.length : Int), .int .i64 (p_Datas.length : Int), .int .i64 (p_Traits.length : Int), .int .i64 (p_Impls.length : Int), .int .i64 (p_Funcs.length : Int), .int .i64 (p_Actors.length : Int)] : List PV)[i.toNat]?).bind fun x =>
        (bif (Sh.int .i64).fits x then
          (cl_ 52 [.box [.int .i64 i1], .pv (.bool (decide ((x.toInt) ≤ (40 : Int))))]).bind fun r =>
            (bif refFits [(1, some (Sh.agg [Sh.int .i64]))] [] r.2 then
              (retPV (r.1, [])).bind fun r1 =>
                (bif (Sh.tup []).fits r1 then
                  lp_ [1, 1, 0, 1, 4] (st23_11014 p_Uses p_Datas p_Traits p_Impls p_Funcs p_Actors (IntKind.i64.wrap (i + (1 : Int))) p_Name p_Version (((Out.b r 0).c 0).toInt))
                else none)
            else none)
        else none)
    else none
  else ((cl_ 54 [.pv (.str p_Name)]).bind retPV).bind fun r2 =>
    (bif (Sh.bool).fits r2 then
      bif r2.toBool then
        ((cl_ 55 [.pv (.int .i64 p_Version)]).bind retPV).bind fun r3 =>
          (bif (Sh.bool).fits r3 then
            (cl_ 53 [.box [.int .i64 i1], .pv (.bool r3.toBool)]).bind fun r4 =>
              (bif refFits [(1, some (Sh.agg [Sh.int .i64]))] [] r4.2 then
                (retPV (r4.1, [])).bind fun r5 =>
                  (bif (Sh.tup []).fits r5 then
                    lp_ [1, 1, 1, 1, 6] (st23_11116 p_Name p_Version p_Uses p_Datas p_Traits p_Impls p_Funcs p_Actors (((Out.b r4 0).c 0).toInt))
                  else none)
              else none)
          else none)
      else (cl_ 53 [.box [.int .i64 i1], .pv (.bool false)]).bind fun r6 =>
        (bif refFits [(1, some (Sh.agg [Sh.int .i64]))] [] r6.2 then
          (retPV (r6.1, [])).bind fun r7 =>
            (bif (Sh.tup []).fits r7 then
              lp_ [1, 1, 1, 1, 6] (st23_11116 p_Name p_Version p_Uses p_Datas p_Traits p_Impls p_Funcs p_Actors (((Out.b r6 0).c 0).toInt))
            else none)
        else none)
    else none) := by kernel_rfl
theorem e23_11014 (p_Uses : List PV) (p_Datas : List PV) (p_Traits : List PV) (p_Impls : List PV) (p_Funcs : List PV) (p_Actors : List PV) (i : Int) (p_Name : List UInt8) (p_Version : Int) (i1 : Int) : L23_11014 p_Uses p_Datas p_Traits p_Impls p_Funcs p_Actors i p_Name p_Version i1 =
  bif decide (i < (6 : Int)) then
    bif decide (0 ≤ i) then
      (([.int .i64 (p_Uses.length : Int), .int .i64 (p_Datas.length : Int), .int .i64 (p_Traits.length : Int), .int .i64 (p_Impls.length : Int), .int .i64 (p_Funcs.length : Int), .int .i64 (p_Actors.length : Int)] : List PV)[i.toNat]?).bind fun x =>
        (bif (Sh.int .i64).fits x then
          (V 52 [.box [.int .i64 i1], .pv (.bool (decide ((x.toInt) ≤ (40 : Int))))]).bind fun r =>
            (bif refFits [(1, some (Sh.agg [Sh.int .i64]))] [] r.2 then
              (retPV (r.1, [])).bind fun r1 =>
                (bif (Sh.tup []).fits r1 then
                  L23_11014 p_Uses p_Datas p_Traits p_Impls p_Funcs p_Actors (IntKind.i64.wrap (i + (1 : Int))) p_Name p_Version (((Out.b r 0).c 0).toInt)
                else none)
            else none)
        else none)
    else none
  else ((V 54 [.pv (.str p_Name)]).bind retPV).bind fun r2 =>
    (bif (Sh.bool).fits r2 then
      bif r2.toBool then
        ((V 55 [.pv (.int .i64 p_Version)]).bind retPV).bind fun r3 =>
          (bif (Sh.bool).fits r3 then
            (V 53 [.box [.int .i64 i1], .pv (.bool r3.toBool)]).bind fun r4 =>
              (bif refFits [(1, some (Sh.agg [Sh.int .i64]))] [] r4.2 then
                (retPV (r4.1, [])).bind fun r5 =>
                  (bif (Sh.tup []).fits r5 then
                    L23_11116 p_Name p_Version p_Uses p_Datas p_Traits p_Impls p_Funcs p_Actors (((Out.b r4 0).c 0).toInt)
                  else none)
              else none)
          else none)
      else (V 53 [.box [.int .i64 i1], .pv (.bool false)]).bind fun r6 =>
        (bif refFits [(1, some (Sh.agg [Sh.int .i64]))] [] r6.2 then
          (retPV (r6.1, [])).bind fun r7 =>
            (bif (Sh.tup []).fits r7 then
              L23_11116 p_Name p_Version p_Uses p_Datas p_Traits p_Impls p_Funcs p_Actors (((Out.b r6 0).c 0).toInt)
            else none)
        else none)
    else none) :=
  (LV_eq pa 23 _ _).trans (f23_11014 p_Uses p_Datas p_Traits p_Impls p_Funcs p_Actors i p_Name p_Version i1 V (LV Pr T 23))
theorem f23_11116 (p_Name : List UInt8) (p_Version : Int) (p_Uses : List PV) (p_Datas : List PV) (p_Traits : List PV) (p_Impls : List PV) (p_Funcs : List PV) (p_Actors : List PV) (v : Int) (cl_ : FuncId → List Arg → Option Out) (lp_ : List Nat → AS → Option Out) : stepW Pr T cl_ lp_ 23 [1, 1, 1, 1, 6] (st23_11116 p_Name p_Version p_Uses p_Datas p_Traits p_Impls p_Funcs p_Actors v) =
  lp_ [1, 1, 1, 1, 0, 1, 4] (st23_1111014 p_Uses 0 p_Name p_Version p_Datas p_Traits p_Impls p_Funcs p_Actors v) := by kernel_rfl
theorem e23_11116 (p_Name : List UInt8) (p_Version : Int) (p_Uses : List PV) (p_Datas : List PV) (p_Traits : List PV) (p_Impls : List PV) (p_Funcs : List PV) (p_Actors : List PV) (v : Int) : L23_11116 p_Name p_Version p_Uses p_Datas p_Traits p_Impls p_Funcs p_Actors v =
  L23_1111014 p_Uses 0 p_Name p_Version p_Datas p_Traits p_Impls p_Funcs p_Actors v :=
  (LV_eq pa 23 _ _).trans (f23_11116 p_Name p_Version p_Uses p_Datas p_Traits p_Impls p_Funcs p_Actors v V (LV Pr T 23))
theorem f23_1111014 (p_Uses : List PV) (i : Int) (p_Name : List UInt8) (p_Version : Int) (p_Datas : List PV) (p_Traits : List PV) (p_Impls : List PV) (p_Funcs : List PV) (p_Actors : List PV) (v : Int) (cl_ : FuncId → List Arg → Option Out) (lp_ : List Nat → AS → Option Out) : stepW Pr T cl_ lp_ 23 [1, 1, 1, 1, 0, 1, 4] (st23_1111014 p_Uses i p_Name p_Version p_Datas p_Traits p_Impls p_Funcs p_Actors v) =
  bif decide (i < (p_Uses.length : Int)) then
    bif decide (0 ≤ i) then
      (p_Uses[i.toNat]?).bind fun x =>
        (bif (Sh.agg [Sh.str, Sh.int .i64, Sh.int .i64]).fits x then
          ((cl_ 54 [.pv (.str ((x.c 0).toStr))]).bind retPV).bind fun r =>
            (bif (Sh.bool).fits r then
              bif r.toBool then
                ((cl_ 55 [.pv (.int .i64 ((x.c 1).toInt))]).bind retPV).bind fun r1 =>
                  (bif (Sh.bool).fits r1 then
                    bif r1.toBool then
                      ((cl_ 55 [.pv (.int .i64 ((x.c 2).toInt))]).bind retPV).bind fun r2 =>
                        (bif (Sh.bool).fits r2 then
                          bif r2.toBool then
                            (cl_ 53 [.box [.int .i64 v], .pv (.bool (decide (((x.c 1).toInt) ≤ ((x.c 2).toInt))))]).bind fun r3 =>
                              (bif refFits [(1, some (Sh.agg [Sh.int .i64]))] [] r3.2 then
                                (retPV (r3.1, [])).bind fun r4 =>
                                  (bif (Sh.tup []).fits r4 then
                                    lp_ [1, 1, 1, 1, 0, 1, 4] (st23_1111014 p_Uses (IntKind.i64.wrap (i + (1 : Int))) p_Name p_Version p_Datas p_Traits p_Impls p_Funcs p_Actors (((Out.b r3 0).c 0).toInt))
                                  else none)
                              else none)
                          else (cl_ 53 [.box [.int .i64 v], .pv (.bool false)]).bind fun r5 =>
                            (bif refFits [(1, some (Sh.agg [Sh.int .i64]))] [] r5.2 then
                              (retPV (r5.1, [])).bind fun r6 =>
                                (bif (Sh.tup []).fits r6 then
                                  lp_ [1, 1, 1, 1, 0, 1, 4] (st23_1111014 p_Uses (IntKind.i64.wrap (i + (1 : Int))) p_Name p_Version p_Datas p_Traits p_Impls p_Funcs p_Actors (((Out.b r5 0).c 0).toInt))
                                else none)
                            else none)
                        else none)
                    else (cl_ 53 [.box [.int .i64 v], .pv (.bool false)]).bind fun r7 =>
                      (bif refFits [(1, some (Sh.agg [Sh.int .i64]))] [] r7.2 then
                        (retPV (r7.1, [])).bind fun r8 =>
                          (bif (Sh.tup []).fits r8 then
                            lp_ [1, 1, 1, 1, 0, 1, 4] (st23_1111014 p_Uses (IntKind.i64.wrap (i + (1 : Int))) p_Name p_Version p_Datas p_Traits p_Impls p_Funcs p_Actors (((Out.b r7 0).c 0).toInt))
                          else none)
                      else none)
                  else none)
              else (cl_ 53 [.box [.int .i64 v], .pv (.bool false)]).bind fun r9 =>
                (bif refFits [(1, some (Sh.agg [Sh.int .i64]))] [] r9.2 then
                  (retPV (r9.1, [])).bind fun r10 =>
                    (bif (Sh.tup []).fits r10 then
                      lp_ [1, 1, 1, 1, 0, 1, 4] (st23_1111014 p_Uses (IntKind.i64.wrap (i + (1 : Int))) p_Name p_Version p_Datas p_Traits p_Impls p_Funcs p_Actors (((Out.b r9 0).c 0).toInt))
                    else none)
                else none)
            else none)
        else none)
    else none
  else lp_ [1, 1, 1, 1, 1, 0, 1, 4] (st23_11111014 p_Datas 0 p_Name p_Version p_Uses p_Traits p_Impls p_Funcs p_Actors v) := by kernel_rfl
theorem e23_1111014 (p_Uses : List PV) (i : Int) (p_Name : List UInt8) (p_Version : Int) (p_Datas : List PV) (p_Traits : List PV) (p_Impls : List PV) (p_Funcs : List PV) (p_Actors : List PV) (v : Int) : L23_1111014 p_Uses i p_Name p_Version p_Datas p_Traits p_Impls p_Funcs p_Actors v =
  bif decide (i < (p_Uses.length : Int)) then
    bif decide (0 ≤ i) then
      (p_Uses[i.toNat]?).bind fun x =>
        (bif (Sh.agg [Sh.str, Sh.int .i64, Sh.int .i64]).fits x then
          ((V 54 [.pv (.str ((x.c 0).toStr))]).bind retPV).bind fun r =>
            (bif (Sh.bool).fits r then
              bif r.toBool then
                ((V 55 [.pv (.int .i64 ((x.c 1).toInt))]).bind retPV).bind fun r1 =>
                  (bif (Sh.bool).fits r1 then
                    bif r1.toBool then
                      ((V 55 [.pv (.int .i64 ((x.c 2).toInt))]).bind retPV).bind fun r2 =>
                        (bif (Sh.bool).fits r2 then
                          bif r2.toBool then
                            (V 53 [.box [.int .i64 v], .pv (.bool (decide (((x.c 1).toInt) ≤ ((x.c 2).toInt))))]).bind fun r3 =>
                              (bif refFits [(1, some (Sh.agg [Sh.int .i64]))] [] r3.2 then
                                (retPV (r3.1, [])).bind fun r4 =>
                                  (bif (Sh.tup []).fits r4 then
                                    L23_1111014 p_Uses (IntKind.i64.wrap (i + (1 : Int))) p_Name p_Version p_Datas p_Traits p_Impls p_Funcs p_Actors (((Out.b r3 0).c 0).toInt)
                                  else none)
                              else none)
                          else (V 53 [.box [.int .i64 v], .pv (.bool false)]).bind fun r5 =>
                            (bif refFits [(1, some (Sh.agg [Sh.int .i64]))] [] r5.2 then
                              (retPV (r5.1, [])).bind fun r6 =>
                                (bif (Sh.tup []).fits r6 then
                                  L23_1111014 p_Uses (IntKind.i64.wrap (i + (1 : Int))) p_Name p_Version p_Datas p_Traits p_Impls p_Funcs p_Actors (((Out.b r5 0).c 0).toInt)
                                else none)
                            else none)
                        else none)
                    else (V 53 [.box [.int .i64 v], .pv (.bool false)]).bind fun r7 =>
                      (bif refFits [(1, some (Sh.agg [Sh.int .i64]))] [] r7.2 then
                        (retPV (r7.1, [])).bind fun r8 =>
                          (bif (Sh.tup []).fits r8 then
                            L23_1111014 p_Uses (IntKind.i64.wrap (i + (1 : Int))) p_Name p_Version p_Datas p_Traits p_Impls p_Funcs p_Actors (((Out.b r7 0).c 0).toInt)
                          else none)
                      else none)
                  else none)
              else (V 53 [.box [.int .i64 v], .pv (.bool false)]).bind fun r9 =>
                (bif refFits [(1, some (Sh.agg [Sh.int .i64]))] [] r9.2 then
                  (retPV (r9.1, [])).bind fun r10 =>
                    (bif (Sh.tup []).fits r10 then
                      L23_1111014 p_Uses (IntKind.i64.wrap (i + (1 : Int))) p_Name p_Version p_Datas p_Traits p_Impls p_Funcs p_Actors (((Out.b r9 0).c 0).toInt)
                    else none)
                else none)
            else none)
        else none)
    else none
  else L23_11111014 p_Datas 0 p_Name p_Version p_Uses p_Traits p_Impls p_Funcs p_Actors v :=
  (LV_eq pa 23 _ _).trans (f23_1111014 p_Uses i p_Name p_Version p_Datas p_Traits p_Impls p_Funcs p_Actors v V (LV Pr T 23))
theorem f23_11111014 (p_Datas : List PV) (i : Int) (p_Name : List UInt8) (p_Version : Int) (p_Uses : List PV) (p_Traits : List PV) (p_Impls : List PV) (p_Funcs : List PV) (p_Actors : List PV) (v : Int) (cl_ : FuncId → List Arg → Option Out) (lp_ : List Nat → AS → Option Out) : stepW Pr T cl_ lp_ 23 [1, 1, 1, 1, 1, 0, 1, 4] (st23_11111014 p_Datas i p_Name p_Version p_Uses p_Traits p_Impls p_Funcs p_Actors v) =
  bif decide (i < (p_Datas.length : Int)) then
    bif decide (0 ≤ i) then
      (p_Datas[i.toNat]?).bind fun x =>
        (bif (Sh.agg [Sh.str, Sh.lst, Sh.lst]).fits x then
          ((cl_ 56 [.pv (.str ((x.c 0).toStr))]).bind retPV).bind fun r =>
            (bif (Sh.bool).fits r then
              bif r.toBool then
                (cl_ 53 [.box [.int .i64 v], .pv (.bool (decide (((x.c 2).toLst.length : Int) > (0 : Int))))]).bind fun r1 =>
                  (bif refFits [(1, some (Sh.agg [Sh.int .i64]))] [] r1.2 then
                    (retPV (r1.1, [])).bind fun r2 =>
                      (bif (Sh.tup []).fits r2 then
                        lp_ [1, 1, 1, 1, 1, 0, 1, 4, 5, 1, 1, 0, 4, 1, 1, 6] (st23_1111101451104116 p_Datas i p_Name p_Version p_Uses p_Traits p_Impls p_Funcs p_Actors (((Out.b r1 0).c 0).toInt) ((x.c 0).toStr) ((x.c 1).toLst) ((x.c 2).toLst))
                      else none)
                  else none)
              else (cl_ 53 [.box [.int .i64 v], .pv (.bool false)]).bind fun r3 =>
                (bif refFits [(1, some (Sh.agg [Sh.int .i64]))] [] r3.2 then
                  (retPV (r3.1, [])).bind fun r4 =>
                    (bif (Sh.tup []).fits r4 then
                      lp_ [1, 1, 1, 1, 1, 0, 1, 4, 5, 1, 1, 0, 4, 1, 1, 6] (st23_1111101451104116 p_Datas i p_Name p_Version p_Uses p_Traits p_Impls p_Funcs p_Actors (((Out.b r3 0).c 0).toInt) ((x.c 0).toStr) ((x.c 1).toLst) ((x.c 2).toLst))
                    else none)
                else none)
            else none)
        else none)
    else none
  else lp_ [1, 1, 1, 1, 1, 1, 0, 1, 4] (st23_111111014 p_Traits 0 p_Name p_Version p_Uses p_Datas p_Impls p_Funcs p_Actors v) := by kernel_rfl
theorem e23_11111014 (p_Datas : List PV) (i : Int) (p_Name : List UInt8) (p_Version : Int) (p_Uses : List PV) (p_Traits : List PV) (p_Impls : List PV) (p_Funcs : List PV) (p_Actors : List PV) (v : Int) : L23_11111014 p_Datas i p_Name p_Version p_Uses p_Traits p_Impls p_Funcs p_Actors v =
  bif decide (i < (p_Datas.length : Int)) then
    bif decide (0 ≤ i) then
      (p_Datas[i.toNat]?).bind fun x =>
        (bif (Sh.agg [Sh.str, Sh.lst, Sh.lst]).fits x then
          ((V 56 [.pv (.str ((x.c 0).toStr))]).bind retPV).bind fun r =>
            (bif (Sh.bool).fits r then
              bif r.toBool then
                (V 53 [.box [.int .i64 v], .pv (.bool (decide (((x.c 2).toLst.length : Int) > (0 : Int))))]).bind fun r1 =>
                  (bif refFits [(1, some (Sh.agg [Sh.int .i64]))] [] r1.2 then
                    (retPV (r1.1, [])).bind fun r2 =>
                      (bif (Sh.tup []).fits r2 then
                        L23_1111101451104116 p_Datas i p_Name p_Version p_Uses p_Traits p_Impls p_Funcs p_Actors (((Out.b r1 0).c 0).toInt) ((x.c 0).toStr) ((x.c 1).toLst) ((x.c 2).toLst)
                      else none)
                  else none)
              else (V 53 [.box [.int .i64 v], .pv (.bool false)]).bind fun r3 =>
                (bif refFits [(1, some (Sh.agg [Sh.int .i64]))] [] r3.2 then
                  (retPV (r3.1, [])).bind fun r4 =>
                    (bif (Sh.tup []).fits r4 then
                      L23_1111101451104116 p_Datas i p_Name p_Version p_Uses p_Traits p_Impls p_Funcs p_Actors (((Out.b r3 0).c 0).toInt) ((x.c 0).toStr) ((x.c 1).toLst) ((x.c 2).toLst)
                    else none)
                else none)
            else none)
        else none)
    else none
  else L23_111111014 p_Traits 0 p_Name p_Version p_Uses p_Datas p_Impls p_Funcs p_Actors v :=
  (LV_eq pa 23 _ _).trans (f23_11111014 p_Datas i p_Name p_Version p_Uses p_Traits p_Impls p_Funcs p_Actors v V (LV Pr T 23))
theorem f23_1111101451104116 (p_Datas : List PV) (i1 : Int) (p_Name : List UInt8) (p_Version : Int) (p_Uses : List PV) (p_Traits : List PV) (p_Impls : List PV) (p_Funcs : List PV) (p_Actors : List PV) (v : Int) (v1 : List UInt8) (v2 : List PV) (v3 : List PV) (cl_ : FuncId → List Arg → Option Out) (lp_ : List Nat → AS → Option Out) : stepW Pr T cl_ lp_ 23 [1, 1, 1, 1, 1, 0, 1, 4, 5, 1, 1, 0, 4, 1, 1, 6] (st23_1111101451104116 p_Datas i1 p_Name p_Version p_Uses p_Traits p_Impls p_Funcs p_Actors v v1 v2 v3) =
  (cl_ 57 [.box [.int .i64 v], .pv (.lst v2)]).bind fun r =>
    (bif refFits [(1, some (Sh.agg [Sh.int .i64]))] [] r.2 then
      (retPV (r.1, [])).bind fun r1 =>
        (bif (Sh.tup []).fits r1 then
          (cl_ 52 [.box [.int .i64 (((Out.b r 0).c 0).toInt)], .pv (.bool (decide ((v3.length : Int) ≤ (12 : Int))))]).bind fun r2 =>
            (bif refFits [(1, some (Sh.agg [Sh.int .i64]))] [] r2.2 then
              (retPV (r2.1, [])).bind fun r3 =>
                (bif (Sh.tup []).fits r3 then
                  lp_ [1, 1, 1, 1, 1, 0, 1, 4, 5, 1, 1, 0, 4, 1, 1, 1, 1, 1, 4] (st23_1111101451104111114 p_Datas i1 v3 0 p_Name p_Version p_Uses p_Traits p_Impls p_Funcs p_Actors (((Out.b r2 0).c 0).toInt))
                else none)
            else none)
        else none)
    else none) := by kernel_rfl
theorem e23_1111101451104116 (p_Datas : List PV) (i1 : Int) (p_Name : List UInt8) (p_Version : Int) (p_Uses : List PV) (p_Traits : List PV) (p_Impls : List PV) (p_Funcs : List PV) (p_Actors : List PV) (v : Int) (v1 : List UInt8) (v2 : List PV) (v3 : List PV) : L23_1111101451104116 p_Datas i1 p_Name p_Version p_Uses p_Traits p_Impls p_Funcs p_Actors v v1 v2 v3 =
  (V 57 [.box [.int .i64 v], .pv (.lst v2)]).bind fun r =>
    (bif refFits [(1, some (Sh.agg [Sh.int .i64]))] [] r.2 then
      (retPV (r.1, [])).bind fun r1 =>
        (bif (Sh.tup []).fits r1 then
          (V 52 [.box [.int .i64 (((Out.b r 0).c 0).toInt)], .pv (.bool (decide ((v3.length : Int) ≤ (12 : Int))))]).bind fun r2 =>
            (bif refFits [(1, some (Sh.agg [Sh.int .i64]))] [] r2.2 then
              (retPV (r2.1, [])).bind fun r3 =>
                (bif (Sh.tup []).fits r3 then
                  L23_1111101451104111114 p_Datas i1 v3 0 p_Name p_Version p_Uses p_Traits p_Impls p_Funcs p_Actors (((Out.b r2 0).c 0).toInt)
                else none)
            else none)
        else none)
    else none) :=
  (LV_eq pa 23 _ _).trans (f23_1111101451104116 p_Datas i1 p_Name p_Version p_Uses p_Traits p_Impls p_Funcs p_Actors v v1 v2 v3 V (LV Pr T 23))
theorem f23_111111014 (p_Traits : List PV) (i : Int) (p_Name : List UInt8) (p_Version : Int) (p_Uses : List PV) (p_Datas : List PV) (p_Impls : List PV) (p_Funcs : List PV) (p_Actors : List PV) (v : Int) (cl_ : FuncId → List Arg → Option Out) (lp_ : List Nat → AS → Option Out) : stepW Pr T cl_ lp_ 23 [1, 1, 1, 1, 1, 1, 0, 1, 4] (st23_111111014 p_Traits i p_Name p_Version p_Uses p_Datas p_Impls p_Funcs p_Actors v) =
  bif decide (i < (p_Traits.length : Int)) then
    bif decide (0 ≤ i) then
      (p_Traits[i.toNat]?).bind fun x =>
        (bif (Sh.agg [Sh.str, Sh.lst]).fits x then
          ((cl_ 58 [.pv (.str ((x.c 0).toStr))]).bind retPV).bind fun r =>
            (bif (Sh.bool).fits r then
              (cl_ 53 [.box [.int .i64 v], .pv (.bool r.toBool)]).bind fun r1 =>
                (bif refFits [(1, some (Sh.agg [Sh.int .i64]))] [] r1.2 then
                  (retPV (r1.1, [])).bind fun r2 =>
                    (bif (Sh.tup []).fits r2 then
                      (cl_ 52 [.box [.int .i64 (((Out.b r1 0).c 0).toInt)], .pv (.bool (decide (((x.c 1).toLst.length : Int) ≤ (12 : Int))))]).bind fun r3 =>
                        (bif refFits [(1, some (Sh.agg [Sh.int .i64]))] [] r3.2 then
                          (retPV (r3.1, [])).bind fun r4 =>
                            (bif (Sh.tup []).fits r4 then
                              lp_ [1, 1, 1, 1, 1, 1, 0, 1, 4, 5, 1, 1, 0, 4, 1, 1, 1, 1, 4] (st23_1111110145110411114 p_Traits i ((x.c 1).toLst) 0 p_Name p_Version p_Uses p_Datas p_Impls p_Funcs p_Actors (((Out.b r3 0).c 0).toInt))
                            else none)
                        else none)
                    else none)
                else none)
            else none)
        else none)
    else none
  else lp_ [1, 1, 1, 1, 1, 1, 1, 0, 1, 4] (st23_1111111014 p_Impls 0 p_Name p_Version p_Uses p_Datas p_Traits p_Funcs p_Actors v) := by kernel_rfl
theorem e23_111111014 (p_Traits : List PV) (i : Int) (p_Name : List UInt8) (p_Version : Int) (p_Uses : List PV) (p_Datas : List PV) (p_Impls : List PV) (p_Funcs : List PV) (p_Actors : List PV) (v : Int) : L23_111111014 p_Traits i p_Name p_Version p_Uses p_Datas p_Impls p_Funcs p_Actors v =
  bif decide (i < (p_Traits.length : Int)) then
    bif decide (0 ≤ i) then
      (p_Traits[i.toNat]?).bind fun x =>
        (bif (Sh.agg [Sh.str, Sh.lst]).fits x then
          ((V 58 [.pv (.str ((x.c 0).toStr))]).bind retPV).bind fun r =>
            (bif (Sh.bool).fits r then
              (V 53 [.box [.int .i64 v], .pv (.bool r.toBool)]).bind fun r1 =>
                (bif refFits [(1, some (Sh.agg [Sh.int .i64]))] [] r1.2 then
                  (retPV (r1.1, [])).bind fun r2 =>
                    (bif (Sh.tup []).fits r2 then
                      (V 52 [.box [.int .i64 (((Out.b r1 0).c 0).toInt)], .pv (.bool (decide (((x.c 1).toLst.length : Int) ≤ (12 : Int))))]).bind fun r3 =>
                        (bif refFits [(1, some (Sh.agg [Sh.int .i64]))] [] r3.2 then
                          (retPV (r3.1, [])).bind fun r4 =>
                            (bif (Sh.tup []).fits r4 then
                              L23_1111110145110411114 p_Traits i ((x.c 1).toLst) 0 p_Name p_Version p_Uses p_Datas p_Impls p_Funcs p_Actors (((Out.b r3 0).c 0).toInt)
                            else none)
                        else none)
                    else none)
                else none)
            else none)
        else none)
    else none
  else L23_1111111014 p_Impls 0 p_Name p_Version p_Uses p_Datas p_Traits p_Funcs p_Actors v :=
  (LV_eq pa 23 _ _).trans (f23_111111014 p_Traits i p_Name p_Version p_Uses p_Datas p_Impls p_Funcs p_Actors v V (LV Pr T 23))
theorem f23_1111101451104111114 (p_Datas : List PV) (i2 : Int) (v3 : List PV) (i : Int) (p_Name : List UInt8) (p_Version : Int) (p_Uses : List PV) (p_Traits : List PV) (p_Impls : List PV) (p_Funcs : List PV) (p_Actors : List PV) (v : Int) (cl_ : FuncId → List Arg → Option Out) (lp_ : List Nat → AS → Option Out) : stepW Pr T cl_ lp_ 23 [1, 1, 1, 1, 1, 0, 1, 4, 5, 1, 1, 0, 4, 1, 1, 1, 1, 1, 4] (st23_1111101451104111114 p_Datas i2 v3 i p_Name p_Version p_Uses p_Traits p_Impls p_Funcs p_Actors v) =
  bif decide (i < (v3.length : Int)) then
    bif decide (0 ≤ i) then
      (v3[i.toNat]?).bind fun x =>
        (bif (Sh.agg [Sh.str, Sh.lst]).fits x then
          ((cl_ 58 [.pv (.str ((x.c 0).toStr))]).bind retPV).bind fun r =>
            (bif (Sh.bool).fits r then
              (cl_ 53 [.box [.int .i64 v], .pv (.bool r.toBool)]).bind fun r1 =>
                (bif refFits [(1, some (Sh.agg [Sh.int .i64]))] [] r1.2 then
                  (retPV (r1.1, [])).bind fun r2 =>
                    (bif (Sh.tup []).fits r2 then
                      (cl_ 52 [.box [.int .i64 (((Out.b r1 0).c 0).toInt)], .pv (.bool (decide (((x.c 1).toLst.length : Int) ≤ (6 : Int))))]).bind fun r3 =>
                        (bif refFits [(1, some (Sh.agg [Sh.int .i64]))] [] r3.2 then
                          (retPV (r3.1, [])).bind fun r4 =>
                            (bif (Sh.tup []).fits r4 then
                              (cl_ 59 [.box [.int .i64 (((Out.b r3 0).c 0).toInt)], .pv (.lst ((x.c 1).toLst))]).bind fun r5 =>
                                (bif refFits [(1, some (Sh.agg [Sh.int .i64]))] [] r5.2 then
                                  (retPV (r5.1, [])).bind fun r6 =>
                                    (bif (Sh.tup []).fits r6 then
                                      lp_ [1, 1, 1, 1, 1, 0, 1, 4, 5, 1, 1, 0, 4, 1, 1, 1, 1, 1, 4] (st23_1111101451104111114 p_Datas i2 v3 (IntKind.i64.wrap (i + (1 : Int))) p_Name p_Version p_Uses p_Traits p_Impls p_Funcs p_Actors (((Out.b r5 0).c 0).toInt))
                                    else none)
                                else none)
                            else none)
                        else none)
                    else none)
                else none)
            else none)
        else none)
    else none
  else lp_ [1, 1, 1, 1, 1, 0, 1, 4] (st23_11111014 p_Datas (IntKind.i64.wrap (i2 + (1 : Int))) p_Name p_Version p_Uses p_Traits p_Impls p_Funcs p_Actors v) := by kernel_rfl
theorem e23_1111101451104111114 (p_Datas : List PV) (i2 : Int) (v3 : List PV) (i : Int) (p_Name : List UInt8) (p_Version : Int) (p_Uses : List PV) (p_Traits : List PV) (p_Impls : List PV) (p_Funcs : List PV) (p_Actors : List PV) (v : Int) : L23_1111101451104111114 p_Datas i2 v3 i p_Name p_Version p_Uses p_Traits p_Impls p_Funcs p_Actors v =
  bif decide (i < (v3.length : Int)) then
    bif decide (0 ≤ i) then
      (v3[i.toNat]?).bind fun x =>
        (bif (Sh.agg [Sh.str, Sh.lst]).fits x then
          ((V 58 [.pv (.str ((x.c 0).toStr))]).bind retPV).bind fun r =>
            (bif (Sh.bool).fits r then
              (V 53 [.box [.int .i64 v], .pv (.bool r.toBool)]).bind fun r1 =>
                (bif refFits [(1, some (Sh.agg [Sh.int .i64]))] [] r1.2 then
                  (retPV (r1.1, [])).bind fun r2 =>
                    (bif (Sh.tup []).fits r2 then
                      (V 52 [.box [.int .i64 (((Out.b r1 0).c 0).toInt)], .pv (.bool (decide (((x.c 1).toLst.length : Int) ≤ (6 : Int))))]).bind fun r3 =>
                        (bif refFits [(1, some (Sh.agg [Sh.int .i64]))] [] r3.2 then
                          (retPV (r3.1, [])).bind fun r4 =>
                            (bif (Sh.tup []).fits r4 then
                              (V 59 [.box [.int .i64 (((Out.b r3 0).c 0).toInt)], .pv (.lst ((x.c 1).toLst))]).bind fun r5 =>
                                (bif refFits [(1, some (Sh.agg [Sh.int .i64]))] [] r5.2 then
                                  (retPV (r5.1, [])).bind fun r6 =>
                                    (bif (Sh.tup []).fits r6 then
                                      L23_1111101451104111114 p_Datas i2 v3 (IntKind.i64.wrap (i + (1 : Int))) p_Name p_Version p_Uses p_Traits p_Impls p_Funcs p_Actors (((Out.b r5 0).c 0).toInt)
                                    else none)
                                else none)
                            else none)
                        else none)
                    else none)
                else none)
            else none)
        else none)
    else none
  else L23_11111014 p_Datas (IntKind.i64.wrap (i2 + (1 : Int))) p_Name p_Version p_Uses p_Traits p_Impls p_Funcs p_Actors v :=
  (LV_eq pa 23 _ _).trans (f23_1111101451104111114 p_Datas i2 v3 i p_Name p_Version p_Uses p_Traits p_Impls p_Funcs p_Actors v V (LV Pr T 23))
theorem f23_1111110145110411114 (p_Traits : List PV) (i1 : Int) (v : List PV) (i : Int) (p_Name : List UInt8) (p_Version : Int) (p_Uses : List PV) (p_Datas : List PV) (p_Impls : List PV) (p_Funcs : List PV) (p_Actors : List PV) (v1 : Int) (cl_ : FuncId → List Arg → Option Out) (lp_ : List Nat → AS → Option Out) : stepW Pr T cl_ lp_ 23 [1, 1, 1, 1, 1, 1, 0, 1, 4, 5, 1, 1, 0, 4, 1, 1, 1, 1, 4] (st23_1111110145110411114 p_Traits i1 v i p_Name p_Version p_Uses p_Datas p_Impls p_Funcs p_Actors v1) =
  bif decide (i < (v.length : Int)) then
    bif decide (0 ≤ i) then
      (v[i.toNat]?).bind fun x =>
        (bif (Sh.agg [Sh.str, Sh.lst, Sh.lst, Sh.lst, Sh.int .i64, Sh.str, Sh.lst, Sh.int .i64, Sh.int .i64, Sh.str, Sh.lst, Sh.lst, Sh.lst, Sh.lst, Sh.int .i64]).fits x then
          (cl_ 60 [.box [.int .i64 v1], .pv (.agg [.str ((x.c 0).toStr), .lst ((x.c 1).toLst), .lst ((x.c 2).toLst), .lst ((x.c 3).toLst), .int .i64 ((x.c 4).toInt), .str ((x.c 5).toStr), .lst ((x.c 6).toLst), .int .i64 ((x.c 7).toInt), .int .i64 ((x.c 8).toInt), .str ((x.c 9).toStr), .lst ((x.c 10).toLst), .lst ((x.c 11).toLst), .lst ((x.c 12).toLst), .lst ((x.c 13).toLst), .int .i64 ((x.c 14).toInt)]), .pv (.bool false)]).bind fun r =>
            (bif refFits [(1, some (Sh.agg [Sh.int .i64]))] [] r.2 then
              (retPV (r.1, [])).bind fun r1 =>
                (bif (Sh.tup []).fits r1 then
                  lp_ [1, 1, 1, 1, 1, 1, 0, 1, 4, 5, 1, 1, 0, 4, 1, 1, 1, 1, 4] (st23_1111110145110411114 p_Traits i1 v (IntKind.i64.wrap (i + (1 : Int))) p_Name p_Version p_Uses p_Datas p_Impls p_Funcs p_Actors (((Out.b r 0).c 0).toInt))
                else none)
            else none)
        else none)
    else none
  else lp_ [1, 1, 1, 1, 1, 1, 0, 1, 4] (st23_111111014 p_Traits (IntKind.i64.wrap (i1 + (1 : Int))) p_Name p_Version p_Uses p_Datas p_Impls p_Funcs p_Actors v1) := by kernel_rfl
theorem e23_1111110145110411114 (p_Traits : List PV) (i1 : Int) (v : List PV) (i : Int) (p_Name : List UInt8) (p_Version : Int) (p_Uses : List PV) (p_Datas : List PV) (p_Impls : List PV) (p_Funcs : List PV) (p_Actors : List PV) (v1 : Int) : L23_1111110145110411114 p_Traits i1 v i p_Name p_Version p_Uses p_Datas p_Impls p_Funcs p_Actors v1 =
  bif decide (i < (v.length : Int)) then
    bif decide (0 ≤ i) then
      (v[i.toNat]?).bind fun x =>
        (bif (Sh.agg [Sh.str, Sh.lst, Sh.lst, Sh.lst, Sh.int .i64, Sh.str, Sh.lst, Sh.int .i64, Sh.int .i64, Sh.str, Sh.lst, Sh.lst, Sh.lst, Sh.lst, Sh.int .i64]).fits x then
          (V 60 [.box [.int .i64 v1], .pv (.agg [.str ((x.c 0).toStr), .lst ((x.c 1).toLst), .lst ((x.c 2).toLst), .lst ((x.c 3).toLst), .int .i64 ((x.c 4).toInt), .str ((x.c 5).toStr), .lst ((x.c 6).toLst), .int .i64 ((x.c 7).toInt), .int .i64 ((x.c 8).toInt), .str ((x.c 9).toStr), .lst ((x.c 10).toLst), .lst ((x.c 11).toLst), .lst ((x.c 12).toLst), .lst ((x.c 13).toLst), .int .i64 ((x.c 14).toInt)]), .pv (.bool false)]).bind fun r =>
            (bif refFits [(1, some (Sh.agg [Sh.int .i64]))] [] r.2 then
              (retPV (r.1, [])).bind fun r1 =>
                (bif (Sh.tup []).fits r1 then
                  L23_1111110145110411114 p_Traits i1 v (IntKind.i64.wrap (i + (1 : Int))) p_Name p_Version p_Uses p_Datas p_Impls p_Funcs p_Actors (((Out.b r 0).c 0).toInt)
                else none)
            else none)
        else none)
    else none
  else L23_111111014 p_Traits (IntKind.i64.wrap (i1 + (1 : Int))) p_Name p_Version p_Uses p_Datas p_Impls p_Funcs p_Actors v1 :=
  (LV_eq pa 23 _ _).trans (f23_1111110145110411114 p_Traits i1 v i p_Name p_Version p_Uses p_Datas p_Impls p_Funcs p_Actors v1 V (LV Pr T 23))
theorem f23_1111111014 (p_Impls : List PV) (i : Int) (p_Name : List UInt8) (p_Version : Int) (p_Uses : List PV) (p_Datas : List PV) (p_Traits : List PV) (p_Funcs : List PV) (p_Actors : List PV) (v : Int) (cl_ : FuncId → List Arg → Option Out) (lp_ : List Nat → AS → Option Out) : stepW Pr T cl_ lp_ 23 [1, 1, 1, 1, 1, 1, 1, 0, 1, 4] (st23_1111111014 p_Impls i p_Name p_Version p_Uses p_Datas p_Traits p_Funcs p_Actors v) =
  bif decide (i < (p_Impls.length : Int)) then
    bif decide (0 ≤ i) then
      (p_Impls[i.toNat]?).bind fun x =>
        (bif (Sh.agg [Sh.str, Sh.str, Sh.lst]).fits x then
          ((cl_ 58 [.pv (.str ((x.c 0).toStr))]).bind retPV).bind fun r =>
            (bif (Sh.bool).fits r then
              bif r.toBool then
                ((cl_ 58 [.pv (.str ((x.c 1).toStr))]).bind retPV).bind fun r1 =>
                  (bif (Sh.bool).fits r1 then
                    bif r1.toBool then
                      (cl_ 53 [.box [.int .i64 v], .pv (.bool true)]).bind fun r2 =>
                        (bif refFits [(1, some (Sh.agg [Sh.int .i64]))] [] r2.2 then
                          (retPV (r2.1, [])).bind fun r3 =>
                            (bif (Sh.tup []).fits r3 then
                              lp_ [1, 1, 1, 1, 1, 1, 1, 0, 1, 4, 5, 1, 1, 0, 4, 1, 1, 6] (st23_111111101451104116 p_Impls i p_Name p_Version p_Uses p_Datas p_Traits p_Funcs p_Actors (((Out.b r2 0).c 0).toInt) ((x.c 0).toStr) ((x.c 1).toStr) ((x.c 2).toLst))
                            else none)
                        else none)
                    else ((cl_ 25 [.pv (.lst [.str [105, 110, 116], .str [98, 111, 111, 108], .str [116, 101, 120, 116], .str [117, 110, 105, 116]]), .pv (.str ((x.c 1).toStr))]).bind retPV).bind fun r4 =>
                      (bif (Sh.bool).fits r4 then
                        (cl_ 53 [.box [.int .i64 v], .pv (.bool r4.toBool)]).bind fun r5 =>
                          (bif refFits [(1, some (Sh.agg [Sh.int .i64]))] [] r5.2 then
                            (retPV (r5.1, [])).bind fun r6 =>
                              (bif (Sh.tup []).fits r6 then
                                lp_ [1, 1, 1, 1, 1, 1, 1, 0, 1, 4, 5, 1, 1, 0, 4, 1, 1, 6] (st23_111111101451104116 p_Impls i p_Name p_Version p_Uses p_Datas p_Traits p_Funcs p_Actors (((Out.b r5 0).c 0).toInt) ((x.c 0).toStr) ((x.c 1).toStr) ((x.c 2).toLst))
                              else none)
                          else none)
                      else none)
                  else none)
              else (cl_ 53 [.box [.int .i64 v], .pv (.bool false)]).bind fun r7 =>
                (bif refFits [(1, some (Sh.agg [Sh.int .i64]))] [] r7.2 then
                  (retPV (r7.1, [])).bind fun r8 =>
                    (bif (Sh.tup []).fits r8 then
                      lp_ [1, 1, 1, 1, 1, 1, 1, 0, 1, 4, 5, 1, 1, 0, 4, 1, 1, 6] (st23_111111101451104116 p_Impls i p_Name p_Version p_Uses p_Datas p_Traits p_Funcs p_Actors (((Out.b r7 0).c 0).toInt) ((x.c 0).toStr) ((x.c 1).toStr) ((x.c 2).toLst))
                    else none)
                else none)
            else none)
        else none)
    else none
  else lp_ [1, 1, 1, 1, 1, 1, 1, 1, 0, 1, 4] (st23_11111111014 p_Funcs 0 p_Name p_Version p_Uses p_Datas p_Traits p_Impls p_Actors v) := by kernel_rfl
theorem e23_1111111014 (p_Impls : List PV) (i : Int) (p_Name : List UInt8) (p_Version : Int) (p_Uses : List PV) (p_Datas : List PV) (p_Traits : List PV) (p_Funcs : List PV) (p_Actors : List PV) (v : Int) : L23_1111111014 p_Impls i p_Name p_Version p_Uses p_Datas p_Traits p_Funcs p_Actors v =
  bif decide (i < (p_Impls.length : Int)) then
    bif decide (0 ≤ i) then
      (p_Impls[i.toNat]?).bind fun x =>
        (bif (Sh.agg [Sh.str, Sh.str, Sh.lst]).fits x then
          ((V 58 [.pv (.str ((x.c 0).toStr))]).bind retPV).bind fun r =>
            (bif (Sh.bool).fits r then
              bif r.toBool then
                ((V 58 [.pv (.str ((x.c 1).toStr))]).bind retPV).bind fun r1 =>
                  (bif (Sh.bool).fits r1 then
                    bif r1.toBool then
                      (V 53 [.box [.int .i64 v], .pv (.bool true)]).bind fun r2 =>
                        (bif refFits [(1, some (Sh.agg [Sh.int .i64]))] [] r2.2 then
                          (retPV (r2.1, [])).bind fun r3 =>
                            (bif (Sh.tup []).fits r3 then
                              L23_111111101451104116 p_Impls i p_Name p_Version p_Uses p_Datas p_Traits p_Funcs p_Actors (((Out.b r2 0).c 0).toInt) ((x.c 0).toStr) ((x.c 1).toStr) ((x.c 2).toLst)
                            else none)
                        else none)
                    else ((V 25 [.pv (.lst [.str [105, 110, 116], .str [98, 111, 111, 108], .str [116, 101, 120, 116], .str [117, 110, 105, 116]]), .pv (.str ((x.c 1).toStr))]).bind retPV).bind fun r4 =>
                      (bif (Sh.bool).fits r4 then
                        (V 53 [.box [.int .i64 v], .pv (.bool r4.toBool)]).bind fun r5 =>
                          (bif refFits [(1, some (Sh.agg [Sh.int .i64]))] [] r5.2 then
                            (retPV (r5.1, [])).bind fun r6 =>
                              (bif (Sh.tup []).fits r6 then
                                L23_111111101451104116 p_Impls i p_Name p_Version p_Uses p_Datas p_Traits p_Funcs p_Actors (((Out.b r5 0).c 0).toInt) ((x.c 0).toStr) ((x.c 1).toStr) ((x.c 2).toLst)
                              else none)
                          else none)
                      else none)
                  else none)
              else (V 53 [.box [.int .i64 v], .pv (.bool false)]).bind fun r7 =>
                (bif refFits [(1, some (Sh.agg [Sh.int .i64]))] [] r7.2 then
                  (retPV (r7.1, [])).bind fun r8 =>
                    (bif (Sh.tup []).fits r8 then
                      L23_111111101451104116 p_Impls i p_Name p_Version p_Uses p_Datas p_Traits p_Funcs p_Actors (((Out.b r7 0).c 0).toInt) ((x.c 0).toStr) ((x.c 1).toStr) ((x.c 2).toLst)
                    else none)
                else none)
            else none)
        else none)
    else none
  else L23_11111111014 p_Funcs 0 p_Name p_Version p_Uses p_Datas p_Traits p_Impls p_Actors v :=
  (LV_eq pa 23 _ _).trans (f23_1111111014 p_Impls i p_Name p_Version p_Uses p_Datas p_Traits p_Funcs p_Actors v V (LV Pr T 23))
theorem f23_111111101451104116 (p_Impls : List PV) (i1 : Int) (p_Name : List UInt8) (p_Version : Int) (p_Uses : List PV) (p_Datas : List PV) (p_Traits : List PV) (p_Funcs : List PV) (p_Actors : List PV) (v : Int) (v1 : List UInt8) (v2 : List UInt8) (v3 : List PV) (cl_ : FuncId → List Arg → Option Out) (lp_ : List Nat → AS → Option Out) : stepW Pr T cl_ lp_ 23 [1, 1, 1, 1, 1, 1, 1, 0, 1, 4, 5, 1, 1, 0, 4, 1, 1, 6] (st23_111111101451104116 p_Impls i1 p_Name p_Version p_Uses p_Datas p_Traits p_Funcs p_Actors v v1 v2 v3) =
  (cl_ 52 [.box [.int .i64 v], .pv (.bool (decide ((v3.length : Int) ≤ (12 : Int))))]).bind fun r =>
    (bif refFits [(1, some (Sh.agg [Sh.int .i64]))] [] r.2 then
      (retPV (r.1, [])).bind fun r1 =>
        (bif (Sh.tup []).fits r1 then
          lp_ [1, 1, 1, 1, 1, 1, 1, 0, 1, 4, 5, 1, 1, 0, 4, 1, 1, 1, 1, 4] (st23_11111110145110411114 p_Impls i1 v3 0 p_Name p_Version p_Uses p_Datas p_Traits p_Funcs p_Actors (((Out.b r 0).c 0).toInt))
        else none)
    else none) := by kernel_rfl
theorem e23_111111101451104116 (p_Impls : List PV) (i1 : Int) (p_Name : List UInt8) (p_Version : Int) (p_Uses : List PV) (p_Datas : List PV) (p_Traits : List PV) (p_Funcs : List PV) (p_Actors : List PV) (v : Int) (v1 : List UInt8) (v2 : List UInt8) (v3 : List PV) : L23_111111101451104116 p_Impls i1 p_Name p_Version p_Uses p_Datas p_Traits p_Funcs p_Actors v v1 v2 v3 =
  (V 52 [.box [.int .i64 v], .pv (.bool (decide ((v3.length : Int) ≤ (12 : Int))))]).bind fun r =>
    (bif refFits [(1, some (Sh.agg [Sh.int .i64]))] [] r.2 then
      (retPV (r.1, [])).bind fun r1 =>
        (bif (Sh.tup []).fits r1 then
          L23_11111110145110411114 p_Impls i1 v3 0 p_Name p_Version p_Uses p_Datas p_Traits p_Funcs p_Actors (((Out.b r 0).c 0).toInt)
        else none)
    else none) :=
  (LV_eq pa 23 _ _).trans (f23_111111101451104116 p_Impls i1 p_Name p_Version p_Uses p_Datas p_Traits p_Funcs p_Actors v v1 v2 v3 V (LV Pr T 23))
theorem f23_11111111014 (p_Funcs : List PV) (i : Int) (p_Name : List UInt8) (p_Version : Int) (p_Uses : List PV) (p_Datas : List PV) (p_Traits : List PV) (p_Impls : List PV) (p_Actors : List PV) (v : Int) (cl_ : FuncId → List Arg → Option Out) (lp_ : List Nat → AS → Option Out) : stepW Pr T cl_ lp_ 23 [1, 1, 1, 1, 1, 1, 1, 1, 0, 1, 4] (st23_11111111014 p_Funcs i p_Name p_Version p_Uses p_Datas p_Traits p_Impls p_Actors v) =
  bif decide (i < (p_Funcs.length : Int)) then
    bif decide (0 ≤ i) then
      (p_Funcs[i.toNat]?).bind fun x =>
        (bif (Sh.agg [Sh.str, Sh.lst, Sh.lst, Sh.lst, Sh.int .i64, Sh.str, Sh.lst, Sh.int .i64, Sh.int .i64, Sh.str, Sh.lst, Sh.lst, Sh.lst, Sh.lst, Sh.int .i64]).fits x then
          (cl_ 60 [.box [.int .i64 v], .pv (.agg [.str ((x.c 0).toStr), .lst ((x.c 1).toLst), .lst ((x.c 2).toLst), .lst ((x.c 3).toLst), .int .i64 ((x.c 4).toInt), .str ((x.c 5).toStr), .lst ((x.c 6).toLst), .int .i64 ((x.c 7).toInt), .int .i64 ((x.c 8).toInt), .str ((x.c 9).toStr), .lst ((x.c 10).toLst), .lst ((x.c 11).toLst), .lst ((x.c 12).toLst), .lst ((x.c 13).toLst), .int .i64 ((x.c 14).toInt)]), .pv (.bool true)]).bind fun r =>
            (bif refFits [(1, some (Sh.agg [Sh.int .i64]))] [] r.2 then
              (retPV (r.1, [])).bind fun r1 =>
                (bif (Sh.tup []).fits r1 then
                  lp_ [1, 1, 1, 1, 1, 1, 1, 1, 0, 1, 4] (st23_11111111014 p_Funcs (IntKind.i64.wrap (i + (1 : Int))) p_Name p_Version p_Uses p_Datas p_Traits p_Impls p_Actors (((Out.b r 0).c 0).toInt))
                else none)
            else none)
        else none)
    else none
  else lp_ [1, 1, 1, 1, 1, 1, 1, 1, 1, 0, 1, 4] (st23_111111111014 p_Actors 0 p_Name p_Version p_Uses p_Datas p_Traits p_Impls p_Funcs v) := by kernel_rfl
theorem e23_11111111014 (p_Funcs : List PV) (i : Int) (p_Name : List UInt8) (p_Version : Int) (p_Uses : List PV) (p_Datas : List PV) (p_Traits : List PV) (p_Impls : List PV) (p_Actors : List PV) (v : Int) : L23_11111111014 p_Funcs i p_Name p_Version p_Uses p_Datas p_Traits p_Impls p_Actors v =
  bif decide (i < (p_Funcs.length : Int)) then
    bif decide (0 ≤ i) then
      (p_Funcs[i.toNat]?).bind fun x =>
        (bif (Sh.agg [Sh.str, Sh.lst, Sh.lst, Sh.lst, Sh.int .i64, Sh.str, Sh.lst, Sh.int .i64, Sh.int .i64, Sh.str, Sh.lst, Sh.lst, Sh.lst, Sh.lst, Sh.int .i64]).fits x then
          (V 60 [.box [.int .i64 v], .pv (.agg [.str ((x.c 0).toStr), .lst ((x.c 1).toLst), .lst ((x.c 2).toLst), .lst ((x.c 3).toLst), .int .i64 ((x.c 4).toInt), .str ((x.c 5).toStr), .lst ((x.c 6).toLst), .int .i64 ((x.c 7).toInt), .int .i64 ((x.c 8).toInt), .str ((x.c 9).toStr), .lst ((x.c 10).toLst), .lst ((x.c 11).toLst), .lst ((x.c 12).toLst), .lst ((x.c 13).toLst), .int .i64 ((x.c 14).toInt)]), .pv (.bool true)]).bind fun r =>
            (bif refFits [(1, some (Sh.agg [Sh.int .i64]))] [] r.2 then
              (retPV (r.1, [])).bind fun r1 =>
                (bif (Sh.tup []).fits r1 then
                  L23_11111111014 p_Funcs (IntKind.i64.wrap (i + (1 : Int))) p_Name p_Version p_Uses p_Datas p_Traits p_Impls p_Actors (((Out.b r 0).c 0).toInt)
                else none)
            else none)
        else none)
    else none
  else L23_111111111014 p_Actors 0 p_Name p_Version p_Uses p_Datas p_Traits p_Impls p_Funcs v :=
  (LV_eq pa 23 _ _).trans (f23_11111111014 p_Funcs i p_Name p_Version p_Uses p_Datas p_Traits p_Impls p_Actors v V (LV Pr T 23))
theorem f23_11111110145110411114 (p_Impls : List PV) (i2 : Int) (v3 : List PV) (i : Int) (p_Name : List UInt8) (p_Version : Int) (p_Uses : List PV) (p_Datas : List PV) (p_Traits : List PV) (p_Funcs : List PV) (p_Actors : List PV) (v : Int) (cl_ : FuncId → List Arg → Option Out) (lp_ : List Nat → AS → Option Out) : stepW Pr T cl_ lp_ 23 [1, 1, 1, 1, 1, 1, 1, 0, 1, 4, 5, 1, 1, 0, 4, 1, 1, 1, 1, 4] (st23_11111110145110411114 p_Impls i2 v3 i p_Name p_Version p_Uses p_Datas p_Traits p_Funcs p_Actors v) =
  bif decide (i < (v3.length : Int)) then
    bif decide (0 ≤ i) then
      (v3[i.toNat]?).bind fun x =>
        (bif (Sh.agg [Sh.str, Sh.lst, Sh.lst, Sh.lst, Sh.int .i64, Sh.str, Sh.lst, Sh.int .i64, Sh.int .i64, Sh.str, Sh.lst, Sh.lst, Sh.lst, Sh.lst, Sh.int .i64]).fits x then
          (cl_ 60 [.box [.int .i64 v], .pv (.agg [.str ((x.c 0).toStr), .lst ((x.c 1).toLst), .lst ((x.c 2).toLst), .lst ((x.c 3).toLst), .int .i64 ((x.c 4).toInt), .str ((x.c 5).toStr), .lst ((x.c 6).toLst), .int .i64 ((x.c 7).toInt), .int .i64 ((x.c 8).toInt), .str ((x.c 9).toStr), .lst ((x.c 10).toLst), .lst ((x.c 11).toLst), .lst ((x.c 12).toLst), .lst ((x.c 13).toLst), .int .i64 ((x.c 14).toInt)]), .pv (.bool true)]).bind fun r =>
            (bif refFits [(1, some (Sh.agg [Sh.int .i64]))] [] r.2 then
              (retPV (r.1, [])).bind fun r1 =>
                (bif (Sh.tup []).fits r1 then
                  lp_ [1, 1, 1, 1, 1, 1, 1, 0, 1, 4, 5, 1, 1, 0, 4, 1, 1, 1, 1, 4] (st23_11111110145110411114 p_Impls i2 v3 (IntKind.i64.wrap (i + (1 : Int))) p_Name p_Version p_Uses p_Datas p_Traits p_Funcs p_Actors (((Out.b r 0).c 0).toInt))
                else none)
            else none)
        else none)
    else none
  else lp_ [1, 1, 1, 1, 1, 1, 1, 0, 1, 4] (st23_1111111014 p_Impls (IntKind.i64.wrap (i2 + (1 : Int))) p_Name p_Version p_Uses p_Datas p_Traits p_Funcs p_Actors v) := by kernel_rfl
theorem e23_11111110145110411114 (p_Impls : List PV) (i2 : Int) (v3 : List PV) (i : Int) (p_Name : List UInt8) (p_Version : Int) (p_Uses : List PV) (p_Datas : List PV) (p_Traits : List PV) (p_Funcs : List PV) (p_Actors : List PV) (v : Int) : L23_11111110145110411114 p_Impls i2 v3 i p_Name p_Version p_Uses p_Datas p_Traits p_Funcs p_Actors v =
  bif decide (i < (v3.length : Int)) then
    bif decide (0 ≤ i) then
      (v3[i.toNat]?).bind fun x =>
        (bif (Sh.agg [Sh.str, Sh.lst, Sh.lst, Sh.lst, Sh.int .i64, Sh.str, Sh.lst, Sh.int .i64, Sh.int .i64, Sh.str, Sh.lst, Sh.lst, Sh.lst, Sh.lst, Sh.int .i64]).fits x then
          (V 60 [.box [.int .i64 v], .pv (.agg [.str ((x.c 0).toStr), .lst ((x.c 1).toLst), .lst ((x.c 2).toLst), .lst ((x.c 3).toLst), .int .i64 ((x.c 4).toInt), .str ((x.c 5).toStr), .lst ((x.c 6).toLst), .int .i64 ((x.c 7).toInt), .int .i64 ((x.c 8).toInt), .str ((x.c 9).toStr), .lst ((x.c 10).toLst), .lst ((x.c 11).toLst), .lst ((x.c 12).toLst), .lst ((x.c 13).toLst), .int .i64 ((x.c 14).toInt)]), .pv (.bool true)]).bind fun r =>
            (bif refFits [(1, some (Sh.agg [Sh.int .i64]))] [] r.2 then
              (retPV (r.1, [])).bind fun r1 =>
                (bif (Sh.tup []).fits r1 then
                  L23_11111110145110411114 p_Impls i2 v3 (IntKind.i64.wrap (i + (1 : Int))) p_Name p_Version p_Uses p_Datas p_Traits p_Funcs p_Actors (((Out.b r 0).c 0).toInt)
                else none)
            else none)
        else none)
    else none
  else L23_1111111014 p_Impls (IntKind.i64.wrap (i2 + (1 : Int))) p_Name p_Version p_Uses p_Datas p_Traits p_Funcs p_Actors v :=
  (LV_eq pa 23 _ _).trans (f23_11111110145110411114 p_Impls i2 v3 i p_Name p_Version p_Uses p_Datas p_Traits p_Funcs p_Actors v V (LV Pr T 23))
theorem f23_111111111014 (p_Actors : List PV) (i : Int) (p_Name : List UInt8) (p_Version : Int) (p_Uses : List PV) (p_Datas : List PV) (p_Traits : List PV) (p_Impls : List PV) (p_Funcs : List PV) (v : Int) (cl_ : FuncId → List Arg → Option Out) (lp_ : List Nat → AS → Option Out) : stepW Pr T cl_ lp_ 23 [1, 1, 1, 1, 1, 1, 1, 1, 1, 0, 1, 4] (st23_111111111014 p_Actors i p_Name p_Version p_Uses p_Datas p_Traits p_Impls p_Funcs v) =
  bif decide (i < (p_Actors.length : Int)) then
    bif decide (0 ≤ i) then
      (p_Actors[i.toNat]?).bind fun x =>
        (bif (Sh.agg [Sh.str, Sh.lst, Sh.lst, Sh.int .i64, Sh.str, Sh.lst, Sh.int .i64, Sh.int .i64, Sh.str, Sh.lst, Sh.lst, Sh.lst, Sh.lst, Sh.int .i64]).fits x then
          ((cl_ 58 [.pv (.str ((x.c 0).toStr))]).bind retPV).bind fun r =>
            (bif (Sh.bool).fits r then
              bif r.toBool then
                (cl_ 53 [.box [.int .i64 v], .pv (.bool (((x.c 1).toLst.length : Int) == ((x.c 2).toLst.length : Int)))]).bind fun r1 =>
                  (bif refFits [(1, some (Sh.agg [Sh.int .i64]))] [] r1.2 then
                    (retPV (r1.1, [])).bind fun r2 =>
                      (bif (Sh.tup []).fits r2 then
                        lp_ [1, 1, 1, 1, 1, 1, 1, 1, 1, 0, 1, 4, 5, 1, 1, 0, 4, 1, 1, 6] (st23_11111111101451104116 p_Actors i p_Name p_Version p_Uses p_Datas p_Traits p_Impls p_Funcs (((Out.b r1 0).c 0).toInt) ((x.c 0).toStr) ((x.c 1).toLst) ((x.c 2).toLst) ((x.c 3).toInt) ((x.c 4).toStr) ((x.c 5).toLst) ((x.c 6).toInt) ((x.c 7).toInt) ((x.c 8).toStr) ((x.c 9).toLst) ((x.c 10).toLst) ((x.c 11).toLst) ((x.c 12).toLst) ((x.c 13).toInt))
                      else none)
                  else none)
              else (cl_ 53 [.box [.int .i64 v], .pv (.bool false)]).bind fun r3 =>
                (bif refFits [(1, some (Sh.agg [Sh.int .i64]))] [] r3.2 then
                  (retPV (r3.1, [])).bind fun r4 =>
                    (bif (Sh.tup []).fits r4 then
                      lp_ [1, 1, 1, 1, 1, 1, 1, 1, 1, 0, 1, 4, 5, 1, 1, 0, 4, 1, 1, 6] (st23_11111111101451104116 p_Actors i p_Name p_Version p_Uses p_Datas p_Traits p_Impls p_Funcs (((Out.b r3 0).c 0).toInt) ((x.c 0).toStr) ((x.c 1).toLst) ((x.c 2).toLst) ((x.c 3).toInt) ((x.c 4).toStr) ((x.c 5).toLst) ((x.c 6).toInt) ((x.c 7).toInt) ((x.c 8).toStr) ((x.c 9).toLst) ((x.c 10).toLst) ((x.c 11).toLst) ((x.c 12).toLst) ((x.c 13).toInt))
                    else none)
                else none)
            else none)
        else none)
    else none
  else some (.pv (.int .i64 v), []) := by kernel_rfl
theorem e23_111111111014 (p_Actors : List PV) (i : Int) (p_Name : List UInt8) (p_Version : Int) (p_Uses : List PV) (p_Datas : List PV) (p_Traits : List PV) (p_Impls : List PV) (p_Funcs : List PV) (v : Int) : L23_111111111014 p_Actors i p_Name p_Version p_Uses p_Datas p_Traits p_Impls p_Funcs v =
  bif decide (i < (p_Actors.length : Int)) then
    bif decide (0 ≤ i) then
      (p_Actors[i.toNat]?).bind fun x =>
        (bif (Sh.agg [Sh.str, Sh.lst, Sh.lst, Sh.int .i64, Sh.str, Sh.lst, Sh.int .i64, Sh.int .i64, Sh.str, Sh.lst, Sh.lst, Sh.lst, Sh.lst, Sh.int .i64]).fits x then
          ((V 58 [.pv (.str ((x.c 0).toStr))]).bind retPV).bind fun r =>
            (bif (Sh.bool).fits r then
              bif r.toBool then
                (V 53 [.box [.int .i64 v], .pv (.bool (((x.c 1).toLst.length : Int) == ((x.c 2).toLst.length : Int)))]).bind fun r1 =>
                  (bif refFits [(1, some (Sh.agg [Sh.int .i64]))] [] r1.2 then
                    (retPV (r1.1, [])).bind fun r2 =>
                      (bif (Sh.tup []).fits r2 then
                        L23_11111111101451104116 p_Actors i p_Name p_Version p_Uses p_Datas p_Traits p_Impls p_Funcs (((Out.b r1 0).c 0).toInt) ((x.c 0).toStr) ((x.c 1).toLst) ((x.c 2).toLst) ((x.c 3).toInt) ((x.c 4).toStr) ((x.c 5).toLst) ((x.c 6).toInt) ((x.c 7).toInt) ((x.c 8).toStr) ((x.c 9).toLst) ((x.c 10).toLst) ((x.c 11).toLst) ((x.c 12).toLst) ((x.c 13).toInt)
                      else none)
                  else none)
              else (V 53 [.box [.int .i64 v], .pv (.bool false)]).bind fun r3 =>
                (bif refFits [(1, some (Sh.agg [Sh.int .i64]))] [] r3.2 then
                  (retPV (r3.1, [])).bind fun r4 =>
                    (bif (Sh.tup []).fits r4 then
                      L23_11111111101451104116 p_Actors i p_Name p_Version p_Uses p_Datas p_Traits p_Impls p_Funcs (((Out.b r3 0).c 0).toInt) ((x.c 0).toStr) ((x.c 1).toLst) ((x.c 2).toLst) ((x.c 3).toInt) ((x.c 4).toStr) ((x.c 5).toLst) ((x.c 6).toInt) ((x.c 7).toInt) ((x.c 8).toStr) ((x.c 9).toLst) ((x.c 10).toLst) ((x.c 11).toLst) ((x.c 12).toLst) ((x.c 13).toInt)
                    else none)
                else none)
            else none)
        else none)
    else none
  else some (.pv (.int .i64 v), []) :=
  (LV_eq pa 23 _ _).trans (f23_111111111014 p_Actors i p_Name p_Version p_Uses p_Datas p_Traits p_Impls p_Funcs v V (LV Pr T 23))
theorem f23_11111111101451104116 (p_Actors : List PV) (i1 : Int) (p_Name : List UInt8) (p_Version : Int) (p_Uses : List PV) (p_Datas : List PV) (p_Traits : List PV) (p_Impls : List PV) (p_Funcs : List PV) (v : Int) (v1 : List UInt8) (v2 : List PV) (v3 : List PV) (v4 : Int) (v5 : List UInt8) (v6 : List PV) (v7 : Int) (v8 : Int) (v9 : List UInt8) (v10 : List PV) (v11 : List PV) (v12 : List PV) (v13 : List PV) (v14 : Int) (cl_ : FuncId → List Arg → Option Out) (lp_ : List Nat → AS → Option Out) : stepW Pr T cl_ lp_ 23 [1, 1, 1, 1, 1, 1, 1, 1, 1, 0, 1, 4, 5, 1, 1, 0, 4, 1, 1, 6] (st23_11111111101451104116 p_Actors i1 p_Name p_Version p_Uses p_Datas p_Traits p_Impls p_Funcs v v1 v2 v3 v4 v5 v6 v7 v8 v9 v10 v11 v12 v13 v14) =
  (cl_ 57 [.box [.int .i64 v], .pv (.lst v2)]).bind fun r =>
    (bif refFits [(1, some (Sh.agg [Sh.int .i64]))] [] r.2 then
      (retPV (r.1, [])).bind fun r1 =>
        (bif (Sh.tup []).fits r1 then
          (cl_ 59 [.box [.int .i64 (((Out.b r 0).c 0).toInt)], .pv (.lst v3)]).bind fun r2 =>
            (bif refFits [(1, some (Sh.agg [Sh.int .i64]))] [] r2.2 then
              (retPV (r2.1, [])).bind fun r3 =>
                (bif (Sh.tup []).fits r3 then
                  (cl_ 59 [.box [.int .i64 (((Out.b r2 0).c 0).toInt)], .pv (.lst [.agg [.int .i64 v4, .str v5, .lst v6]])]).bind fun r4 =>
                    (bif refFits [(1, some (Sh.agg [Sh.int .i64]))] [] r4.2 then
                      (retPV (r4.1, [])).bind fun r5 =>
                        (bif (Sh.tup []).fits r5 then
                          (cl_ 61 [.box [.int .i64 (((Out.b r4 0).c 0).toInt)], .pv (.agg [.int .i64 v7, .int .i64 v8, .str v9, .lst v10, .lst v11, .lst v12, .lst v13, .int .i64 v14]), .pv (.bool true)]).bind fun r6 =>
                            (bif refFits [(1, some (Sh.agg [Sh.int .i64]))] [] r6.2 then
                              (retPV (r6.1, [])).bind fun r7 =>
                                (bif (Sh.tup []).fits r7 then
                                  lp_ [1, 1, 1, 1, 1, 1, 1, 1, 1, 0, 1, 4] (st23_111111111014 p_Actors (IntKind.i64.wrap (i1 + (1 : Int))) p_Name p_Version p_Uses p_Datas p_Traits p_Impls p_Funcs (((Out.b r6 0).c 0).toInt))
                                else none)
                            else none)
                        else none)
                    else none)
                else none)
            else none)
        else none)
    else none) := by kernel_rfl
theorem e23_11111111101451104116 (p_Actors : List PV) (i1 : Int) (p_Name : List UInt8) (p_Version : Int) (p_Uses : List PV) (p_Datas : List PV) (p_Traits : List PV) (p_Impls : List PV) (p_Funcs : List PV) (v : Int) (v1 : List UInt8) (v2 : List PV) (v3 : List PV) (v4 : Int) (v5 : List UInt8) (v6 : List PV) (v7 : Int) (v8 : Int) (v9 : List UInt8) (v10 : List PV) (v11 : List PV) (v12 : List PV) (v13 : List PV) (v14 : Int) : L23_11111111101451104116 p_Actors i1 p_Name p_Version p_Uses p_Datas p_Traits p_Impls p_Funcs v v1 v2 v3 v4 v5 v6 v7 v8 v9 v10 v11 v12 v13 v14 =
  (V 57 [.box [.int .i64 v], .pv (.lst v2)]).bind fun r =>
    (bif refFits [(1, some (Sh.agg [Sh.int .i64]))] [] r.2 then
      (retPV (r.1, [])).bind fun r1 =>
        (bif (Sh.tup []).fits r1 then
          (V 59 [.box [.int .i64 (((Out.b r 0).c 0).toInt)], .pv (.lst v3)]).bind fun r2 =>
            (bif refFits [(1, some (Sh.agg [Sh.int .i64]))] [] r2.2 then
              (retPV (r2.1, [])).bind fun r3 =>
                (bif (Sh.tup []).fits r3 then
                  (V 59 [.box [.int .i64 (((Out.b r2 0).c 0).toInt)], .pv (.lst [.agg [.int .i64 v4, .str v5, .lst v6]])]).bind fun r4 =>
                    (bif refFits [(1, some (Sh.agg [Sh.int .i64]))] [] r4.2 then
                      (retPV (r4.1, [])).bind fun r5 =>
                        (bif (Sh.tup []).fits r5 then
                          (V 61 [.box [.int .i64 (((Out.b r4 0).c 0).toInt)], .pv (.agg [.int .i64 v7, .int .i64 v8, .str v9, .lst v10, .lst v11, .lst v12, .lst v13, .int .i64 v14]), .pv (.bool true)]).bind fun r6 =>
                            (bif refFits [(1, some (Sh.agg [Sh.int .i64]))] [] r6.2 then
                              (retPV (r6.1, [])).bind fun r7 =>
                                (bif (Sh.tup []).fits r7 then
                                  L23_111111111014 p_Actors (IntKind.i64.wrap (i1 + (1 : Int))) p_Name p_Version p_Uses p_Datas p_Traits p_Impls p_Funcs (((Out.b r6 0).c 0).toInt)
                                else none)
                            else none)
                        else none)
                    else none)
                else none)
            else none)
        else none)
    else none) :=
  (LV_eq pa 23 _ _).trans (f23_11111111101451104116 p_Actors i1 p_Name p_Version p_Uses p_Datas p_Traits p_Impls p_Funcs v v1 v2 v3 v4 v5 v6 v7 v8 v9 v10 v11 v12 v13 v14 V (LV Pr T 23))
/-! 24 roadstead/capable.Uses -/
def st24_11014 (name : List UInt8) (i : Int) (e_Arms : List PV) (i1 : Int) (e_Kind : Int) (e_Num : Int) (e_Text : List UInt8) (e_Names : List PV) (e_Types : List PV) (e_Args : List PV) (e_At : Int) : AS :=
  ⟨[.pv (.str name), .any, .any, .box 0 0, .any, .pv (.int .i64 i), .any, .any, .any, .any, .any, .any, .any, .pv (.lst e_Arms), .pv (.int .i64 (e_Arms.length : Int)), .pv (.int .i64 i1), .any, .any, .any, .any, .any, .any, .any, .any, .any, .any, .any, .any, .any, .any, .any, .any, .any, .any, .any, .any, .any, .any, .any, .any, .any, .any, .any, .any, .any, .any, .any, .any, .any, .any, .any, .any, .any, .any, .any, .any, .any, .any, .any, .any, .any, .any, .any, .any, .any, .any, .any, .any, .any, .any, .any, .any, .any, .any, .any, .any, .any, .any, .any, .any, .any, .any, .any, .any, .any, .any, .any, .any, .any, .any, .any, .any, .any, .any, .any, .any, .any, .any, .any, .any, .any, .any, .any, .any, .any, .any, .any, .any, .any, .any, .any, .any, .any, .any, .any, .any, .any, .any, .any], ⟨[(false, [.pv (.int .i64 e_Kind), .pv (.int .i64 e_Num), .pv (.str e_Text), .pv (.lst e_Names), .pv (.lst e_Types), .pv (.lst e_Args), .pv (.lst e_Arms), .pv (.int .i64 e_At)])], [], [], 0, 0⟩⟩
noncomputable def L24_11014 (name : List UInt8) (i : Int) (e_Arms : List PV) (i1 : Int) (e_Kind : Int) (e_Num : Int) (e_Text : List UInt8) (e_Names : List PV) (e_Types : List PV) (e_Args : List PV) (e_At : Int) : Option Out := LV Pr T 24 [1, 1, 0, 1, 4] (st24_11014 name i e_Arms i1 e_Kind e_Num e_Text e_Names e_Types e_Args e_At)
def st24_11111014 (name : List UInt8) (i1 : Int) (e_Args : List PV) (i : Int) : AS :=
  ⟨[.pv (.str name), .any, .any, .any, .any, .any, .any, .any, .any, .pv (.int .i64 i1), .any, .any, .any, .any, .any, .any, .any, .any, .any, .any, .any, .any, .any, .any, .any, .any, .any, .any, .any, .any, .any, .any, .any, .any, .any, .any, .any, .any, .any, .any, .any, .any, .any, .any, .any, .any, .any, .any, .any, .any, .any, .any, .any, .any, .any, .any, .any, .any, .any, .any, .any, .any, .any, .any, .any, .any, .any, .any, .any, .any, .any, .any, .any, .any, .any, .any, .any, .any, .any, .any, .any, .any, .any, .any, .any, .any, .any, .any, .any, .any, .any, .any, .any, .any, .any, .any, .any, .any, .any, .any, .any, .any, .any, .any, .any, .any, .pv (.lst e_Args), .pv (.int .i64 (e_Args.length : Int)), .pv (.int .i64 i), .any, .any, .any, .any, .any, .any, .any, .any, .any, .any], ⟨[], [], [], 0, 0⟩⟩
noncomputable def L24_11111014 (name : List UInt8) (i1 : Int) (e_Args : List PV) (i : Int) : Option Out := LV Pr T 24 [1, 1, 1, 1, 1, 0, 1, 4] (st24_11111014 name i1 e_Args i)
theorem f24 (name : List UInt8) (e_Kind : Int) (e_Num : Int) (e_Text : List UInt8) (e_Names : List PV) (e_Types : List PV) (e_Args : List PV) (e_Arms : List PV) (e_At : Int) (cl_ : FuncId → List Arg → Option Out) (lp_ : List Nat → AS → Option Out) : runW Pr T cl_ lp_ 24 [.pv (.str name), .pv (.agg [.int .i64 e_Kind, .int .i64 e_Num, .str e_Text, .lst e_Names, .lst e_Types, .lst e_Args, .lst e_Arms, .int .i64 e_At])] =
  lp_ [1, 1, 0, 1, 4] (st24_11014 name 0 e_Arms 0 e_Kind e_Num e_Text e_Names e_Types e_Args e_At) := by kernel_rfl
theorem e24 (name : List UInt8) (e_Kind : Int) (e_Num : Int) (e_Text : List UInt8) (e_Names : List PV) (e_Types : List PV) (e_Args : List PV) (e_Arms : List PV) (e_At : Int) : V 24 [.pv (.str name), .pv (.agg [.int .i64 e_Kind, .int .i64 e_Num, .str e_Text, .lst e_Names, .lst e_Types, .lst e_Args, .lst e_Arms, .int .i64 e_At])] =
  L24_11014 name 0 e_Arms 0 e_Kind e_Num e_Text e_Names e_Types e_Args e_At :=
  (V_eq pa rfl _).trans (f24 name e_Kind e_Num e_Text e_Names e_Types e_Args e_Arms e_At V (LV Pr T 24))
theorem f24_11014 (name : List UInt8) (i : Int) (e_Arms : List PV) (i1 : Int) (e_Kind : Int) (e_Num : Int) (e_Text : List UInt8) (e_Names : List PV) (e_Types : List PV) (e_Args : List PV) (e_At : Int) (cl_ : FuncId → List Arg → Option Out) (lp_ : List Nat → AS → Option Out) : stepW Pr T cl_ lp_ 24 [1, 1, 0, 1, 4] (st24_11014 name i e_Arms i1 e_Kind e_Num e_Text e_Names e_Types e_Args e_At) =
  bif decide (i1 < (e_Arms.length : Int)) then
    bif decide (0 ≤ i1) then
      (e_Arms[i1.toNat]?).bind fun x =>
        (bif (Sh.agg [Sh.int .i64, Sh.int .i64, Sh.str, Sh.lst, Sh.int .i64, Sh.int .i64, Sh.str, Sh.lst, Sh.lst, Sh.lst, Sh.lst, Sh.int .i64]).fits x then
          ((cl_ 62 [.pv (.agg [.int .i64 ((x.c 0).toInt), .int .i64 ((x.c 1).toInt), .str ((x.c 2).toStr), .lst ((x.c 3).toLst)])]).bind retPV).bind fun r =>
            (bif (Sh.lst).fits r then
              ((cl_ 25 [.pv (.lst r.toLst), .pv (.str name)]).bind retPV).bind fun r1 =>
                (bif (Sh.bool).fits r1 then
                  bif (!r1.toBool) then
                    ((cl_ 24 [.pv (.str name), .pv (.agg [.int .i64 ((x.c 4).toInt), .int .i64 ((x.c 5).toInt), .str ((x.c 6).toStr), .lst ((x.c 7).toLst), .lst ((x.c 8).toLst), .lst ((x.c 9).toLst), .lst ((x.c 10).toLst), .int .i64 ((x.c 11).toInt)])]).bind retPV).bind fun r2 =>
                      (bif (Sh.int .i64).fits r2 then
                        lp_ [1, 1, 0, 1, 4] (st24_11014 name (bif decide ((r2.toInt) > i) then (r2.toInt) else i) e_Arms (IntKind.i64.wrap (i1 + (1 : Int))) e_Kind e_Num e_Text e_Names e_Types e_Args e_At)
                      else none)
                  else lp_ [1, 1, 0, 1, 4] (st24_11014 name i e_Arms (IntKind.i64.wrap (i1 + (1 : Int))) e_Kind e_Num e_Text e_Names e_Types e_Args e_At)
                else none)
            else none)
        else none)
    else none
  else bif (e_Kind == (5 : Int)) then
    bif (e_Text == name) then
      some (.pv (.int .i64 1), [])
    else some (.pv (.int .i64 0), [])
  else bif (e_Kind == (10 : Int)) then
    ((cl_ 32 [.pv (.agg [.int .i64 e_Kind, .int .i64 e_Num, .str e_Text, .lst e_Names, .lst e_Types, .lst e_Args, .lst e_Arms, .int .i64 e_At])]).bind retPV).bind fun r3 =>
      (bif (Sh.lst).fits r3 then
        ((cl_ 25 [.pv (.lst r3.toLst), .pv (.str name)]).bind retPV).bind fun r4 =>
          (bif (Sh.bool).fits r4 then
            bif r4.toBool then
              some (.pv (.int .i64 2), [])
            else some (.pv (.int .i64 0), [])
          else none)
      else none)
  else bif (e_Kind == (7 : Int)) then
    (e_Args[(0 : Int).toNat]?).bind fun x1 =>
      (bif (Sh.agg [Sh.int .i64, Sh.int .i64, Sh.str, Sh.lst, Sh.lst, Sh.lst, Sh.lst, Sh.int .i64]).fits x1 then
        ((cl_ 24 [.pv (.str name), .pv (.agg [.int .i64 ((x1.c 0).toInt), .int .i64 ((x1.c 1).toInt), .str ((x1.c 2).toStr), .lst ((x1.c 3).toLst), .lst ((x1.c 4).toLst), .lst ((x1.c 5).toLst), .lst ((x1.c 6).toLst), .int .i64 ((x1.c 7).toInt)])]).bind retPV).bind fun r5 =>
          (bif (Sh.int .i64).fits r5 then
            (e_Args[(1 : Int).toNat]?).bind fun x2 =>
              (bif (Sh.agg [Sh.int .i64, Sh.int .i64, Sh.str, Sh.lst, Sh.lst, Sh.lst, Sh.lst, Sh.int .i64]).fits x2 then
                ((cl_ 24 [.pv (.str name), .pv (.agg [.int .i64 ((x2.c 0).toInt), .int .i64 ((x2.c 1).toInt), .str ((x2.c 2).toStr), .lst ((x2.c 3).toLst), .lst ((x2.c 4).toLst), .lst ((x2.c 5).toLst), .lst ((x2.c 6).toLst), .int .i64 ((x2.c 7).toInt)])]).bind retPV).bind fun r6 =>
                  (bif (Sh.int .i64).fits r6 then
                    (e_Args[(2 : Int).toNat]?).bind fun x3 =>
                      (bif (Sh.agg [Sh.int .i64, Sh.int .i64, Sh.str, Sh.lst, Sh.lst, Sh.lst, Sh.lst, Sh.int .i64]).fits x3 then
                        ((cl_ 24 [.pv (.str name), .pv (.agg [.int .i64 ((x3.c 0).toInt), .int .i64 ((x3.c 1).toInt), .str ((x3.c 2).toStr), .lst ((x3.c 3).toLst), .lst ((x3.c 4).toLst), .lst ((x3.c 5).toLst), .lst ((x3.c 6).toLst), .int .i64 ((x3.c 7).toInt)])]).bind retPV).bind fun r7 =>
                          (bif (Sh.int .i64).fits r7 then
                            some (.pv (.int .i64 (IntKind.i64.wrap ((r5.toInt) + (bif decide ((r7.toInt) > (r6.toInt)) then (r7.toInt) else (r6.toInt))))), [])
                          else none)
                      else none)
                  else none)
              else none)
          else none)
      else none)
  else bif (e_Kind == (18 : Int)) then
    bif decide ((e_Args.length : Int) > (0 : Int)) then
      (e_Args[(0 : Int).toNat]?).bind fun x4 =>
        (bif (Sh.agg [Sh.int .i64, Sh.int .i64, Sh.str, Sh.lst, Sh.lst, Sh.lst, Sh.lst, Sh.int .i64]).fits x4 then
          ((cl_ 24 [.pv (.str name), .pv (.agg [.int .i64 ((x4.c 0).toInt), .int .i64 ((x4.c 1).toInt), .str ((x4.c 2).toStr), .lst ((x4.c 3).toLst), .lst ((x4.c 4).toLst), .lst ((x4.c 5).toLst), .lst ((x4.c 6).toLst), .int .i64 ((x4.c 7).toInt)])]).bind retPV).bind fun r8 =>
            (bif (Sh.int .i64).fits r8 then
              some (.pv (.int .i64 (bif decide ((r8.toInt) > i) then (r8.toInt) else i)), [])
            else none)
        else none)
    else some (.pv (.int .i64 i), [])
  else bif (e_Kind == (6 : Int)) then
    (e_Args[(0 : Int).toNat]?).bind fun x5 =>
      (bif (Sh.agg [Sh.int .i64, Sh.int .i64, Sh.str, Sh.lst, Sh.lst, Sh.lst, Sh.lst, Sh.int .i64]).fits x5 then
        ((cl_ 24 [.pv (.str name), .pv (.agg [.int .i64 ((x5.c 0).toInt), .int .i64 ((x5.c 1).toInt), .str ((x5.c 2).toStr), .lst ((x5.c 3).toLst), .lst ((x5.c 4).toLst), .lst ((x5.c 5).toLst), .lst ((x5.c 6).toLst), .int .i64 ((x5.c 7).toInt)])]).bind retPV).bind fun r9 =>
          (bif (Sh.int .i64).fits r9 then
            bif (!(e_Text == name)) then
              (e_Args[(1 : Int).toNat]?).bind fun x6 =>
                (bif (Sh.agg [Sh.int .i64, Sh.int .i64, Sh.str, Sh.lst, Sh.lst, Sh.lst, Sh.lst, Sh.int .i64]).fits x6 then
                  ((cl_ 24 [.pv (.str name), .pv (.agg [.int .i64 ((x6.c 0).toInt), .int .i64 ((x6.c 1).toInt), .str ((x6.c 2).toStr), .lst ((x6.c 3).toLst), .lst ((x6.c 4).toLst), .lst ((x6.c 5).toLst), .lst ((x6.c 6).toLst), .int .i64 ((x6.c 7).toInt)])]).bind retPV).bind fun r10 =>
                    (bif (Sh.int .i64).fits r10 then
                      some (.pv (.int .i64 (IntKind.i64.wrap ((r9.toInt) + (r10.toInt)))), [])
                    else none)
                else none)
            else some (.pv (.int .i64 r9.toInt), [])
          else none)
      else none)
  else lp_ [1, 1, 1, 1, 1, 0, 1, 4] (st24_11111014 name i e_Args 0) := by kernel_rfl
theorem e24_11014 (name : List UInt8) (i : Int) (e_Arms : List PV) (i1 : Int) (e_Kind : Int) (e_Num : Int) (e_Text : List UInt8) (e_Names : List PV) (e_Types : List PV) (e_Args : List PV) (e_At : Int) : L24_11014 name i e_Arms i1 e_Kind e_Num e_Text e_Names e_Types e_Args e_At =
  bif decide (i1 < (e_Arms.length : Int)) then
    bif decide (0 ≤ i1) then
      (e_Arms[i1.toNat]?).bind fun x =>
        (bif (Sh.agg [Sh.int .i64, Sh.int .i64, Sh.str, Sh.lst, Sh.int .i64, Sh.int .i64, Sh.str, Sh.lst, Sh.lst, Sh.lst, Sh.lst, Sh.int .i64]).fits x then
          ((V 62 [.pv (.agg [.int .i64 ((x.c 0).toInt), .int .i64 ((x.c 1).toInt), .str ((x.c 2).toStr), .lst ((x.c 3).toLst)])]).bind retPV).bind fun r =>
            (bif (Sh.lst).fits r then
              ((V 25 [.pv (.lst r.toLst), .pv (.str name)]).bind retPV).bind fun r1 =>
                (bif (Sh.bool).fits r1 then
                  bif (!r1.toBool) then
                    ((V 24 [.pv (.str name), .pv (.agg [.int .i64 ((x.c 4).toInt), .int .i64 ((x.c 5).toInt), .str ((x.c 6).toStr), .lst ((x.c 7).toLst), .lst ((x.c 8).toLst), .lst ((x.c 9).toLst), .lst ((x.c 10).toLst), .int .i64 ((x.c 11).toInt)])]).bind retPV).bind fun r2 =>
                      (bif (Sh.int .i64).fits r2 then
                        L24_11014 name (bif decide ((r2.toInt) > i) then (r2.toInt) else i) e_Arms (IntKind.i64.wrap (i1 + (1 : Int))) e_Kind e_Num e_Text e_Names e_Types e_Args e_At
                      else none)
                  else L24_11014 name i e_Arms (IntKind.i64.wrap (i1 + (1 : Int))) e_Kind e_Num e_Text e_Names e_Types e_Args e_At
                else none)
            else none)
        else none)
    else none
  else bif (e_Kind == (5 : Int)) then
    bif (e_Text == name) then
      some (.pv (.int .i64 1), [])
    else some (.pv (.int .i64 0), [])
  else bif (e_Kind == (10 : Int)) then
    ((V 32 [.pv (.agg [.int .i64 e_Kind, .int .i64 e_Num, .str e_Text, .lst e_Names, .lst e_Types, .lst e_Args, .lst e_Arms, .int .i64 e_At])]).bind retPV).bind fun r3 =>
      (bif (Sh.lst).fits r3 then
        ((V 25 [.pv (.lst r3.toLst), .pv (.str name)]).bind retPV).bind fun r4 =>
          (bif (Sh.bool).fits r4 then
            bif r4.toBool then
              some (.pv (.int .i64 2), [])
            else some (.pv (.int .i64 0), [])
          else none)
      else none)
  else bif (e_Kind == (7 : Int)) then
    (e_Args[(0 : Int).toNat]?).bind fun x1 =>
      (bif (Sh.agg [Sh.int .i64, Sh.int .i64, Sh.str, Sh.lst, Sh.lst, Sh.lst, Sh.lst, Sh.int .i64]).fits x1 then
        ((V 24 [.pv (.str name), .pv (.agg [.int .i64 ((x1.c 0).toInt), .int .i64 ((x1.c 1).toInt), .str ((x1.c 2).toStr), .lst ((x1.c 3).toLst), .lst ((x1.c 4).toLst), .lst ((x1.c 5).toLst), .lst ((x1.c 6).toLst), .int .i64 ((x1.c 7).toInt)])]).bind retPV).bind fun r5 =>
          (bif (Sh.int .i64).fits r5 then
            (e_Args[(1 : Int).toNat]?).bind fun x2 =>
              (bif (Sh.agg [Sh.int .i64, Sh.int .i64, Sh.str, Sh.lst, Sh.lst, Sh.lst, Sh.lst, Sh.int .i64]).fits x2 then
                ((V 24 [.pv (.str name), .pv (.agg [.int .i64 ((x2.c 0).toInt), .int .i64 ((x2.c 1).toInt), .str ((x2.c 2).toStr), .lst ((x2.c 3).toLst), .lst ((x2.c 4).toLst), .lst ((x2.c 5).toLst), .lst ((x2.c 6).toLst), .int .i64 ((x2.c 7).toInt)])]).bind retPV).bind fun r6 =>
                  (bif (Sh.int .i64).fits r6 then
                    (e_Args[(2 : Int).toNat]?).bind fun x3 =>
                      (bif (Sh.agg [Sh.int .i64, Sh.int .i64, Sh.str, Sh.lst, Sh.lst, Sh.lst, Sh.lst, Sh.int .i64]).fits x3 then
                        ((V 24 [.pv (.str name), .pv (.agg [.int .i64 ((x3.c 0).toInt), .int .i64 ((x3.c 1).toInt), .str ((x3.c 2).toStr), .lst ((x3.c 3).toLst), .lst ((x3.c 4).toLst), .lst ((x3.c 5).toLst), .lst ((x3.c 6).toLst), .int .i64 ((x3.c 7).toInt)])]).bind retPV).bind fun r7 =>
                          (bif (Sh.int .i64).fits r7 then
                            some (.pv (.int .i64 (IntKind.i64.wrap ((r5.toInt) + (bif decide ((r7.toInt) > (r6.toInt)) then (r7.toInt) else (r6.toInt))))), [])
                          else none)
                      else none)
                  else none)
              else none)
          else none)
      else none)
  else bif (e_Kind == (18 : Int)) then
    bif decide ((e_Args.length : Int) > (0 : Int)) then
      (e_Args[(0 : Int).toNat]?).bind fun x4 =>
        (bif (Sh.agg [Sh.int .i64, Sh.int .i64, Sh.str, Sh.lst, Sh.lst, Sh.lst, Sh.lst, Sh.int .i64]).fits x4 then
          ((V 24 [.pv (.str name), .pv (.agg [.int .i64 ((x4.c 0).toInt), .int .i64 ((x4.c 1).toInt), .str ((x4.c 2).toStr), .lst ((x4.c 3).toLst), .lst ((x4.c 4).toLst), .lst ((x4.c 5).toLst), .lst ((x4.c 6).toLst), .int .i64 ((x4.c 7).toInt)])]).bind retPV).bind fun r8 =>
            (bif (Sh.int .i64).fits r8 then
              some (.pv (.int .i64 (bif decide ((r8.toInt) > i) then (r8.toInt) else i)), [])
            else none)
        else none)
    else some (.pv (.int .i64 i), [])
  else bif (e_Kind == (6 : Int)) then
    (e_Args[(0 : Int).toNat]?).bind fun x5 =>
      (bif (Sh.agg [Sh.int .i64, Sh.int .i64, Sh.str, Sh.lst, Sh.lst, Sh.lst, Sh.lst, Sh.int .i64]).fits x5 then
        ((V 24 [.pv (.str name), .pv (.agg [.int .i64 ((x5.c 0).toInt), .int .i64 ((x5.c 1).toInt), .str ((x5.c 2).toStr), .lst ((x5.c 3).toLst), .lst ((x5.c 4).toLst), .lst ((x5.c 5).toLst), .lst ((x5.c 6).toLst), .int .i64 ((x5.c 7).toInt)])]).bind retPV).bind fun r9 =>
          (bif (Sh.int .i64).fits r9 then
            bif (!(e_Text == name)) then
              (e_Args[(1 : Int).toNat]?).bind fun x6 =>
                (bif (Sh.agg [Sh.int .i64, Sh.int .i64, Sh.str, Sh.lst, Sh.lst, Sh.lst, Sh.lst, Sh.int .i64]).fits x6 then
                  ((V 24 [.pv (.str name), .pv (.agg [.int .i64 ((x6.c 0).toInt), .int .i64 ((x6.c 1).toInt), .str ((x6.c 2).toStr), .lst ((x6.c 3).toLst), .lst ((x6.c 4).toLst), .lst ((x6.c 5).toLst), .lst ((x6.c 6).toLst), .int .i64 ((x6.c 7).toInt)])]).bind retPV).bind fun r10 =>
                    (bif (Sh.int .i64).fits r10 then
                      some (.pv (.int .i64 (IntKind.i64.wrap ((r9.toInt) + (r10.toInt)))), [])
                    else none)
                else none)
            else some (.pv (.int .i64 r9.toInt), [])
          else none)
      else none)
  else L24_11111014 name i e_Args 0 :=
  (LV_eq pa 24 _ _).trans (f24_11014 name i e_Arms i1 e_Kind e_Num e_Text e_Names e_Types e_Args e_At V (LV Pr T 24))
theorem f24_11111014 (name : List UInt8) (i1 : Int) (e_Args : List PV) (i : Int) (cl_ : FuncId → List Arg → Option Out) (lp_ : List Nat → AS → Option Out) : stepW Pr T cl_ lp_ 24 [1, 1, 1, 1, 1, 0, 1, 4] (st24_11111014 name i1 e_Args i) =
  bif decide (i < (e_Args.length : Int)) then
    bif decide (0 ≤ i) then
      (e_Args[i.toNat]?).bind fun x =>
        (bif (Sh.agg [Sh.int .i64, Sh.int .i64, Sh.str, Sh.lst, Sh.lst, Sh.lst, Sh.lst, Sh.int .i64]).fits x then
          ((cl_ 24 [.pv (.str name), .pv (.agg [.int .i64 ((x.c 0).toInt), .int .i64 ((x.c 1).toInt), .str ((x.c 2).toStr), .lst ((x.c 3).toLst), .lst ((x.c 4).toLst), .lst ((x.c 5).toLst), .lst ((x.c 6).toLst), .int .i64 ((x.c 7).toInt)])]).bind retPV).bind fun r =>
            (bif (Sh.int .i64).fits r then
              lp_ [1, 1, 1, 1, 1, 0, 1, 4] (st24_11111014 name (IntKind.i64.wrap (i1 + (r.toInt))) e_Args (IntKind.i64.wrap (i + (1 : Int))))
            else none)
        else none)
    else none
  else some (.pv (.int .i64 i1), []) := by kernel_rfl
theorem e24_11111014 (name : List UInt8) (i1 : Int) (e_Args : List PV) (i : Int) : L24_11111014 name i1 e_Args i =
  bif decide (i < (e_Args.length : Int)) then
    bif decide (0 ≤ i) then
      (e_Args[i.toNat]?).bind fun x =>
        (bif (Sh.agg [Sh.int .i64, Sh.int .i64, Sh.str, Sh.lst, Sh.lst, Sh.lst, Sh.lst, Sh.int .i64]).fits x then
          ((V 24 [.pv (.str name), .pv (.agg [.int .i64 ((x.c 0).toInt), .int .i64 ((x.c 1).toInt), .str ((x.c 2).toStr), .lst ((x.c 3).toLst), .lst ((x.c 4).toLst), .lst ((x.c 5).toLst), .lst ((x.c 6).toLst), .int .i64 ((x.c 7).toInt)])]).bind retPV).bind fun r =>
            (bif (Sh.int .i64).fits r then
              L24_11111014 name (IntKind.i64.wrap (i1 + (r.toInt))) e_Args (IntKind.i64.wrap (i + (1 : Int)))
            else none)
        else none)
    else none
  else some (.pv (.int .i64 i1), []) :=
  (LV_eq pa 24 _ _).trans (f24_11111014 name i1 e_Args i V (LV Pr T 24))
/-! 25 slices.Contains[[]string,string] -/
theorem f25 (s : List PV) (v : List UInt8) (cl_ : FuncId → List Arg → Option Out) (lp_ : List Nat → AS → Option Out) : runW Pr T cl_ lp_ 25 [.pv (.lst s), .pv (.str v)] =
  ((cl_ 63 [.pv (.lst s), .pv (.str v)]).bind retPV).bind fun r =>
    (bif (Sh.int .i64).fits r then
      some (.pv (.bool (decide ((r.toInt) ≥ (0 : Int)))), [])
    else none) := by kernel_rfl
theorem e25 (s : List PV) (v : List UInt8) : V 25 [.pv (.lst s), .pv (.str v)] =
  ((V 63 [.pv (.lst s), .pv (.str v)]).bind retPV).bind fun r =>
    (bif (Sh.int .i64).fits r then
      some (.pv (.bool (decide ((r.toInt) ≥ (0 : Int)))), [])
    else none) :=
  (V_eq pa rfl _).trans (f25 s v V (LV Pr T 25))
/-! 26 roadstead/roadref2.FreeOf -/
def st26_111014 (l1 : List PV) (v : List PV) (i : Int) : AS :=
  ⟨[.any, .any, .any, .bld 0 0 l1, .any, .any, .any, .any, .any, .any, .any, .any, .any, .any, .any, .pv (.lst v), .pv (.int .i64 (v.length : Int)), .pv (.int .i64 i), .any, .any, .any, .any, .any, .any, .any, .any, .any, .any, .any, .any, .any, .any, .any, .any, .any, .any, .any, .any, .any, .any, .any, .any, .any, .any, .any, .any, .any], ⟨[], [], [(0, 1)], 0, 0⟩⟩
noncomputable def L26_111014 (l1 : List PV) (v : List PV) (i : Int) : Option Out := LV Pr T 26 [1, 1, 1, 0, 1, 4] (st26_111014 l1 v i)
def st26_11101451104114 (l : List PV) (v : List PV) (i1 : Int) (v1 : List PV) (i2 : Int) (v2 : Int) (v3 : Int) (v4 : List UInt8) (v5 : List PV) (v6 : List PV) (v7 : List PV) (v8 : List PV) (v9 : Int) (v10 : List PV) : AS :=
  ⟨[.any, .any, .any, .bld 0 0 l, .any, .box 0 0, .any, .any, .any, .any, .any, .any, .any, .any, .any, .pv (.lst v), .pv (.int .i64 (v.length : Int)), .pv (.int .i64 i1), .any, .any, .any, .any, .any, .pv (.lst v1), .pv (.int .i64 (v1.length : Int)), .pv (.int .i64 i2), .any, .any, .any, .any, .any, .any, .any, .any, .any, .any, .any, .any, .any, .any, .any, .any, .any, .any, .any, .any, .any], ⟨[(false, [.pv (.int .i64 v2), .pv (.int .i64 v3), .pv (.str v4), .pv (.lst v5), .pv (.lst v6), .pv (.lst v7), .pv (.lst v8), .pv (.int .i64 v9), .pv (.lst v10)])], [], [(0, 1)], 0, 0⟩⟩
noncomputable def L26_11101451104114 (l : List PV) (v : List PV) (i1 : Int) (v1 : List PV) (i2 : Int) (v2 : Int) (v3 : Int) (v4 : List UInt8) (v5 : List PV) (v6 : List PV) (v7 : List PV) (v8 : List PV) (v9 : Int) (v10 : List PV) : Option Out := LV Pr T 26 [1, 1, 1, 0, 1, 4, 5, 1, 1, 0, 4, 1, 1, 4] (st26_11101451104114 l v i1 v1 i2 v2 v3 v4 v5 v6 v7 v8 v9 v10)
def st26_1110145110411451104116 (l1 : List PV) (v11 : List UInt8) (v : List PV) (i : Int) (v1 : List PV) (i3 : Int) (b : Bool) (v2 : Int) (v3 : Int) (v4 : List UInt8) (v5 : List PV) (v6 : List PV) (v7 : List PV) (v8 : List PV) (v9 : Int) (v10 : List PV) : AS :=
  ⟨[.any, .any, .any, .bld 0 0 l1, .any, .box 0 0, .any, .pv (.str v11), .any, .any, .any, .any, .any, .any, .any, .pv (.lst v), .pv (.int .i64 (v.length : Int)), .pv (.int .i64 i), .any, .any, .any, .any, .any, .pv (.lst v1), .pv (.int .i64 (v1.length : Int)), .pv (.int .i64 i3), .any, .any, .any, .any, .any, .any, .any, .any, .any, .any, .any, .any, .any, .pv (.bool b), .any, .any, .any, .any, .any, .any, .any], ⟨[(false, [.pv (.int .i64 v2), .pv (.int .i64 v3), .pv (.str v4), .pv (.lst v5), .pv (.lst v6), .pv (.lst v7), .pv (.lst v8), .pv (.int .i64 v9), .pv (.lst v10)])], [], [(0, 1)], 0, 0⟩⟩
noncomputable def L26_1110145110411451104116 (l1 : List PV) (v11 : List UInt8) (v : List PV) (i : Int) (v1 : List PV) (i3 : Int) (b : Bool) (v2 : Int) (v3 : Int) (v4 : List UInt8) (v5 : List PV) (v6 : List PV) (v7 : List PV) (v8 : List PV) (v9 : Int) (v10 : List PV) : Option Out := LV Pr T 26 [1, 1, 1, 0, 1, 4, 5, 1, 1, 0, 4, 1, 1, 4, 5, 1, 1, 0, 4, 1, 1, 6] (st26_1110145110411451104116 l1 v11 v i v1 i3 b v2 v3 v4 v5 v6 v7 v8 v9 v10)
theorem f26 (e_Kind : Int) (e_Num : Int) (e_Text : List UInt8) (e_Names : List PV) (e_Types : List PV) (e_Args : List PV) (e_Arms : List PV) (e_At : Int) (cl_ : FuncId → List Arg → Option Out) (lp_ : List Nat → AS → Option Out) : runW Pr T cl_ lp_ 26 [.pv (.agg [.int .i64 e_Kind, .int .i64 e_Num, .str e_Text, .lst e_Names, .lst e_Types, .lst e_Args, .lst e_Arms, .int .i64 e_At])] =
  bif (e_Kind == (5 : Int)) then
    some (.pv (.lst [.str e_Text]), [])
  else ((cl_ 64 [.pv (.agg [.int .i64 e_Kind, .int .i64 e_Num, .str e_Text, .lst e_Names, .lst e_Types, .lst e_Args, .lst e_Arms, .int .i64 e_At])]).bind retPV).bind fun r =>
    (bif (Sh.lst).fits r then
      lp_ [1, 1, 1, 0, 1, 4] (st26_111014 [] r.toLst 0)
    else none) := by kernel_rfl
theorem e26 (e_Kind : Int) (e_Num : Int) (e_Text : List UInt8) (e_Names : List PV) (e_Types : List PV) (e_Args : List PV) (e_Arms : List PV) (e_At : Int) : V 26 [.pv (.agg [.int .i64 e_Kind, .int .i64 e_Num, .str e_Text, .lst e_Names, .lst e_Types, .lst e_Args, .lst e_Arms, .int .i64 e_At])] =
  bif (e_Kind == (5 : Int)) then
    some (.pv (.lst [.str e_Text]), [])
  else ((V 64 [.pv (.agg [.int .i64 e_Kind, .int .i64 e_Num, .str e_Text, .lst e_Names, .lst e_Types, .lst e_Args, .lst e_Arms, .int .i64 e_At])]).bind retPV).bind fun r =>
    (bif (Sh.lst).fits r then
      L26_111014 [] r.toLst 0
    else none) :=
  (V_eq pa rfl _).trans (f26 e_Kind e_Num e_Text e_Names e_Types e_Args e_Arms e_At V (LV Pr T 26))
theorem f26_111014 (l1 : List PV) (v : List PV) (i : Int) (cl_ : FuncId → List Arg → Option Out) (lp_ : List Nat → AS → Option Out) : stepW Pr T cl_ lp_ 26 [1, 1, 1, 0, 1, 4] (st26_111014 l1 v i) =
  bif decide (i < (v.length : Int)) then
    bif decide (0 ≤ i) then
      (v[i.toNat]?).bind fun x =>
        (bif (Sh.agg [Sh.int .i64, Sh.int .i64, Sh.str, Sh.lst, Sh.lst, Sh.lst, Sh.lst, Sh.int .i64, Sh.lst]).fits x then
          ((cl_ 26 [.pv (.agg [.int .i64 ((x.c 0).toInt), .int .i64 ((x.c 1).toInt), .str ((x.c 2).toStr), .lst ((x.c 3).toLst), .lst ((x.c 4).toLst), .lst ((x.c 5).toLst), .lst ((x.c 6).toLst), .int .i64 ((x.c 7).toInt)])]).bind retPV).bind fun r =>
            (bif (Sh.lst).fits r then
              lp_ [1, 1, 1, 0, 1, 4, 5, 1, 1, 0, 4, 1, 1, 4] (st26_11101451104114 l1 v i r.toLst 0 ((x.c 0).toInt) ((x.c 1).toInt) ((x.c 2).toStr) ((x.c 3).toLst) ((x.c 4).toLst) ((x.c 5).toLst) ((x.c 6).toLst) ((x.c 7).toInt) ((x.c 8).toLst))
            else none)
        else none)
    else none
  else some (.bld 1 l1, []) := by kernel_rfl
theorem e26_111014 (l1 : List PV) (v : List PV) (i : Int) : L26_111014 l1 v i =
  bif decide (i < (v.length : Int)) then
    bif decide (0 ≤ i) then
      (v[i.toNat]?).bind fun x =>
        (bif (Sh.agg [Sh.int .i64, Sh.int .i64, Sh.str, Sh.lst, Sh.lst, Sh.lst, Sh.lst, Sh.int .i64, Sh.lst]).fits x then
          ((V 26 [.pv (.agg [.int .i64 ((x.c 0).toInt), .int .i64 ((x.c 1).toInt), .str ((x.c 2).toStr), .lst ((x.c 3).toLst), .lst ((x.c 4).toLst), .lst ((x.c 5).toLst), .lst ((x.c 6).toLst), .int .i64 ((x.c 7).toInt)])]).bind retPV).bind fun r =>
            (bif (Sh.lst).fits r then
              L26_11101451104114 l1 v i r.toLst 0 ((x.c 0).toInt) ((x.c 1).toInt) ((x.c 2).toStr) ((x.c 3).toLst) ((x.c 4).toLst) ((x.c 5).toLst) ((x.c 6).toLst) ((x.c 7).toInt) ((x.c 8).toLst)
            else none)
        else none)
    else none
  else some (.bld 1 l1, []) :=
  (LV_eq pa 26 _ _).trans (f26_111014 l1 v i V (LV Pr T 26))
theorem f26_11101451104114 (l : List PV) (v : List PV) (i1 : Int) (v1 : List PV) (i2 : Int) (v2 : Int) (v3 : Int) (v4 : List UInt8) (v5 : List PV) (v6 : List PV) (v7 : List PV) (v8 : List PV) (v9 : Int) (v10 : List PV) (cl_ : FuncId → List Arg → Option Out) (lp_ : List Nat → AS → Option Out) : stepW Pr T cl_ lp_ 26 [1, 1, 1, 0, 1, 4, 5, 1, 1, 0, 4, 1, 1, 4] (st26_11101451104114 l v i1 v1 i2 v2 v3 v4 v5 v6 v7 v8 v9 v10) =
  bif decide (i2 < (v1.length : Int)) then
    bif decide (0 ≤ i2) then
      (v1[i2.toNat]?).bind fun x =>
        (bif (Sh.str).fits x then
          ((cl_ 25 [.pv (.lst v10), .pv (.str x.toStr)]).bind retPV).bind fun r =>
            (bif (Sh.bool).fits r then
              bif (!r.toBool) then
                ((cl_ 25 [.pv (.lst l), .pv (.str x.toStr)]).bind retPV).bind fun r1 =>
                  (bif (Sh.bool).fits r1 then
                    lp_ [1, 1, 1, 0, 1, 4, 5, 1, 1, 0, 4, 1, 1, 4, 5, 1, 1, 0, 4, 1, 1, 6] (st26_1110145110411451104116 l x.toStr v i1 v1 i2 (!r1.toBool) v2 v3 v4 v5 v6 v7 v8 v9 v10)
                  else none)
              else lp_ [1, 1, 1, 0, 1, 4, 5, 1, 1, 0, 4, 1, 1, 4, 5, 1, 1, 0, 4, 1, 1, 6] (st26_1110145110411451104116 l x.toStr v i1 v1 i2 false v2 v3 v4 v5 v6 v7 v8 v9 v10)
            else none)
        else none)
    else none
  else lp_ [1, 1, 1, 0, 1, 4] (st26_111014 l v (IntKind.i64.wrap (i1 + (1 : Int)))) := by kernel_rfl
theorem e26_11101451104114 (l : List PV) (v : List PV) (i1 : Int) (v1 : List PV) (i2 : Int) (v2 : Int) (v3 : Int) (v4 : List UInt8) (v5 : List PV) (v6 : List PV) (v7 : List PV) (v8 : List PV) (v9 : Int) (v10 : List PV) : L26_11101451104114 l v i1 v1 i2 v2 v3 v4 v5 v6 v7 v8 v9 v10 =
  bif decide (i2 < (v1.length : Int)) then
    bif decide (0 ≤ i2) then
      (v1[i2.toNat]?).bind fun x =>
        (bif (Sh.str).fits x then
          ((V 25 [.pv (.lst v10), .pv (.str x.toStr)]).bind retPV).bind fun r =>
            (bif (Sh.bool).fits r then
              bif (!r.toBool) then
                ((V 25 [.pv (.lst l), .pv (.str x.toStr)]).bind retPV).bind fun r1 =>
                  (bif (Sh.bool).fits r1 then
                    L26_1110145110411451104116 l x.toStr v i1 v1 i2 (!r1.toBool) v2 v3 v4 v5 v6 v7 v8 v9 v10
                  else none)
              else L26_1110145110411451104116 l x.toStr v i1 v1 i2 false v2 v3 v4 v5 v6 v7 v8 v9 v10
            else none)
        else none)
    else none
  else L26_111014 l v (IntKind.i64.wrap (i1 + (1 : Int))) :=
  (LV_eq pa 26 _ _).trans (f26_11101451104114 l v i1 v1 i2 v2 v3 v4 v5 v6 v7 v8 v9 v10 V (LV Pr T 26))
theorem f26_1110145110411451104116 (l1 : List PV) (v11 : List UInt8) (v : List PV) (i : Int) (v1 : List PV) (i3 : Int) (b : Bool) (v2 : Int) (v3 : Int) (v4 : List UInt8) (v5 : List PV) (v6 : List PV) (v7 : List PV) (v8 : List PV) (v9 : Int) (v10 : List PV) (cl_ : FuncId → List Arg → Option Out) (lp_ : List Nat → AS → Option Out) : stepW Pr T cl_ lp_ 26 [1, 1, 1, 0, 1, 4, 5, 1, 1, 0, 4, 1, 1, 4, 5, 1, 1, 0, 4, 1, 1, 6] (st26_1110145110411451104116 l1 v11 v i v1 i3 b v2 v3 v4 v5 v6 v7 v8 v9 v10) =
  bif b then
    bif small (l1.length) 1 16 then
      lp_ [1, 1, 1, 0, 1, 4, 5, 1, 1, 0, 4, 1, 1, 4] (st26_11101451104114 (l1 ++ ([.str v11] : List PV)) v i v1 (IntKind.i64.wrap (i3 + (1 : Int))) v2 v3 v4 v5 v6 v7 v8 v9 v10)
    else none
  else lp_ [1, 1, 1, 0, 1, 4, 5, 1, 1, 0, 4, 1, 1, 4] (st26_11101451104114 l1 v i v1 (IntKind.i64.wrap (i3 + (1 : Int))) v2 v3 v4 v5 v6 v7 v8 v9 v10) := by kernel_rfl
theorem e26_1110145110411451104116 (l1 : List PV) (v11 : List UInt8) (v : List PV) (i : Int) (v1 : List PV) (i3 : Int) (b : Bool) (v2 : Int) (v3 : Int) (v4 : List UInt8) (v5 : List PV) (v6 : List PV) (v7 : List PV) (v8 : List PV) (v9 : Int) (v10 : List PV) : L26_1110145110411451104116 l1 v11 v i v1 i3 b v2 v3 v4 v5 v6 v7 v8 v9 v10 =
  bif b then
    bif small (l1.length) 1 16 then
      L26_11101451104114 (l1 ++ ([.str v11] : List PV)) v i v1 (IntKind.i64.wrap (i3 + (1 : Int))) v2 v3 v4 v5 v6 v7 v8 v9 v10
    else none
  else L26_11101451104114 l1 v i v1 (IntKind.i64.wrap (i3 + (1 : Int))) v2 v3 v4 v5 v6 v7 v8 v9 v10 :=
  (LV_eq pa 26 _ _).trans (f26_1110145110411451104116 l1 v11 v i v1 i3 b v2 v3 v4 v5 v6 v7 v8 v9 v10 V (LV Pr T 26))
/-! 32 roadstead/tree.Free -/
theorem f32 (e_Kind : Int) (e_Num : Int) (e_Text : List UInt8) (e_Names : List PV) (e_Types : List PV) (e_Args : List PV) (e_Arms : List PV) (e_At : Int) (cl_ : FuncId → List Arg → Option Out) (lp_ : List Nat → AS → Option Out) : runW Pr T cl_ lp_ 32 [.pv (.agg [.int .i64 e_Kind, .int .i64 e_Num, .str e_Text, .lst e_Names, .lst e_Types, .lst e_Args, .lst e_Arms, .int .i64 e_At])] =
  (cl_ 74 [.pv (.agg [.int .i64 e_Kind, .int .i64 e_Num, .str e_Text, .lst e_Names, .lst e_Types, .lst e_Args, .lst e_Arms, .int .i64 e_At]), .pv (.lst []), .bld 1 []]).bind fun r =>
    ((retB 1 r).bind fun l =>
      (some (.bld 1 l, []))) := by kernel_rfl
theorem e32 (e_Kind : Int) (e_Num : Int) (e_Text : List UInt8) (e_Names : List PV) (e_Types : List PV) (e_Args : List PV) (e_Arms : List PV) (e_At : Int) : V 32 [.pv (.agg [.int .i64 e_Kind, .int .i64 e_Num, .str e_Text, .lst e_Names, .lst e_Types, .lst e_Args, .lst e_Arms, .int .i64 e_At])] =
  (V 74 [.pv (.agg [.int .i64 e_Kind, .int .i64 e_Num, .str e_Text, .lst e_Names, .lst e_Types, .lst e_Args, .lst e_Arms, .int .i64 e_At]), .pv (.lst []), .bld 1 []]).bind fun r =>
    ((retB 1 r).bind fun l =>
      (some (.bld 1 l, []))) :=
  (V_eq pa rfl _).trans (f32 e_Kind e_Num e_Text e_Names e_Types e_Args e_Arms e_At V (LV Pr T 32))
/-! 52 (*roadstead/roadref2.judge).few -/
theorem f52 (j_e : Int) (ok : Bool) (cl_ : FuncId → List Arg → Option Out) (lp_ : List Nat → AS → Option Out) : runW Pr T cl_ lp_ 52 [.box [.int .i64 j_e], .pv (.bool ok)] =
  (cl_ 89 [.box [.int .i64 j_e], .pv (.bool ok), .pv (.int .i64 2)]).bind fun r =>
    (bif refFits [(0, some (Sh.agg [Sh.int .i64]))] [] r.2 then
      (retPV (r.1, [])).bind fun r1 =>
        (bif (Sh.tup []).fits r1 then
          some (.pv (.tup []), [.box [.int .i64 (((Out.b r 0).c 0).toInt)]])
        else none)
    else none) := by kernel_rfl
theorem e52 (j_e : Int) (ok : Bool) : V 52 [.box [.int .i64 j_e], .pv (.bool ok)] =
  (V 89 [.box [.int .i64 j_e], .pv (.bool ok), .pv (.int .i64 2)]).bind fun r =>
    (bif refFits [(0, some (Sh.agg [Sh.int .i64]))] [] r.2 then
      (retPV (r.1, [])).bind fun r1 =>
        (bif (Sh.tup []).fits r1 then
          some (.pv (.tup []), [.box [.int .i64 (((Out.b r 0).c 0).toInt)]])
        else none)
    else none) :=
  (V_eq pa rfl _).trans (f52 j_e ok V (LV Pr T 52))
/-! 53 (*roadstead/roadref2.judge).form -/
theorem f53 (j_e : Int) (ok : Bool) (cl_ : FuncId → List Arg → Option Out) (lp_ : List Nat → AS → Option Out) : runW Pr T cl_ lp_ 53 [.box [.int .i64 j_e], .pv (.bool ok)] =
  (cl_ 89 [.box [.int .i64 j_e], .pv (.bool ok), .pv (.int .i64 3)]).bind fun r =>
    (bif refFits [(0, some (Sh.agg [Sh.int .i64]))] [] r.2 then
      (retPV (r.1, [])).bind fun r1 =>
        (bif (Sh.tup []).fits r1 then
          some (.pv (.tup []), [.box [.int .i64 (((Out.b r 0).c 0).toInt)]])
        else none)
    else none) := by kernel_rfl
theorem e53 (j_e : Int) (ok : Bool) : V 53 [.box [.int .i64 j_e], .pv (.bool ok)] =
  (V 89 [.box [.int .i64 j_e], .pv (.bool ok), .pv (.int .i64 3)]).bind fun r =>
    (bif refFits [(0, some (Sh.agg [Sh.int .i64]))] [] r.2 then
      (retPV (r.1, [])).bind fun r1 =>
        (bif (Sh.tup []).fits r1 then
          some (.pv (.tup []), [.box [.int .i64 (((Out.b r 0).c 0).toInt)]])
        else none)
    else none) :=
  (V_eq pa rfl _).trans (f53 j_e ok V (LV Pr T 53))
/-! 54 roadstead/roadref2.Small -/
theorem f54 (s : List UInt8) (cl_ : FuncId → List Arg → Option Out) (lp_ : List Nat → AS → Option Out) : runW Pr T cl_ lp_ 54 [.pv (.str s)] =
  ((cl_ 90 [.pv (.str s), .pv (.str [97, 98, 99, 100, 101, 102, 103, 104, 105, 106, 107, 108, 109, 110, 111, 112, 113, 114, 115, 116, 117, 118, 119, 120, 121, 122])]).bind retPV).bind fun r =>
    (bif (Sh.bool).fits r then
      bif r.toBool then
        ((cl_ 91 []).bind retPV).bind fun r1 =>
          (bif (Sh.lst).fits r1 then
            ((cl_ 25 [.pv (.lst r1.toLst), .pv (.str s)]).bind retPV).bind fun r2 =>
              (bif (Sh.bool).fits r2 then
                some (.pv (.bool (!r2.toBool)), [])
              else none)
          else none)
      else some (.pv (.bool false), [])
    else none) := by kernel_rfl
theorem e54 (s : List UInt8) : V 54 [.pv (.str s)] =
  ((V 90 [.pv (.str s), .pv (.str [97, 98, 99, 100, 101, 102, 103, 104, 105, 106, 107, 108, 109, 110, 111, 112, 113, 114, 115, 116, 117, 118, 119, 120, 121, 122])]).bind retPV).bind fun r =>
    (bif (Sh.bool).fits r then
      bif r.toBool then
        ((V 91 []).bind retPV).bind fun r1 =>
          (bif (Sh.lst).fits r1 then
            ((V 25 [.pv (.lst r1.toLst), .pv (.str s)]).bind retPV).bind fun r2 =>
              (bif (Sh.bool).fits r2 then
                some (.pv (.bool (!r2.toBool)), [])
              else none)
          else none)
      else some (.pv (.bool false), [])
    else none) :=
  (V_eq pa rfl _).trans (f54 s V (LV Pr T 54))
/-! 55 roadstead/roadref2.plainNumber -/
theorem f55 (n : Int) (cl_ : FuncId → List Arg → Option Out) (lp_ : List Nat → AS → Option Out) : runW Pr T cl_ lp_ 55 [.pv (.int .i64 n)] =
  bif decide (n ≥ (0 : Int)) then
    some (.pv (.bool (decide (n ≤ (1000000 : Int)))), [])
  else some (.pv (.bool false), []) := by kernel_rfl
theorem e55 (n : Int) : V 55 [.pv (.int .i64 n)] =
  bif decide (n ≥ (0 : Int)) then
    some (.pv (.bool (decide (n ≤ (1000000 : Int)))), [])
  else some (.pv (.bool false), []) :=
  (V_eq pa rfl _).trans (f55 n V (LV Pr T 55))
/-! 57 (*roadstead/roadref2.judge).list -/
def st57_114 (l : List PV) (i : Int) (v : Int) : AS :=
  ⟨[.box 0 0, .any, .any, .any, .any, .any, .any, .any, .any, .any, .any, .pv (.lst l), .pv (.int .i64 (l.length : Int)), .pv (.int .i64 i), .any, .any, .any, .any, .any, .any, .any, .any], ⟨[(false, [.pv (.int .i64 v)])], [], [], 1, 0⟩⟩
noncomputable def L57_114 (l : List PV) (i : Int) (v : Int) : Option Out := LV Pr T 57 [1, 1, 4] (st57_114 l i v)
theorem f57 (j_e : Int) (l : List PV) (cl_ : FuncId → List Arg → Option Out) (lp_ : List Nat → AS → Option Out) : runW Pr T cl_ lp_ 57 [.box [.int .i64 j_e], .pv (.lst l)] =
  (cl_ 52 [.box [.int .i64 j_e], .pv (.bool (decide ((l.length : Int) ≤ (6 : Int))))]).bind fun r =>
    (bif refFits [(0, some (Sh.agg [Sh.int .i64]))] [] r.2 then
      (retPV (r.1, [])).bind fun r1 =>
        (bif (Sh.tup []).fits r1 then
          lp_ [1, 1, 4] (st57_114 l 0 (((Out.b r 0).c 0).toInt))
        else none)
    else none) := by kernel_rfl
theorem e57 (j_e : Int) (l : List PV) : V 57 [.box [.int .i64 j_e], .pv (.lst l)] =
  (V 52 [.box [.int .i64 j_e], .pv (.bool (decide ((l.length : Int) ≤ (6 : Int))))]).bind fun r =>
    (bif refFits [(0, some (Sh.agg [Sh.int .i64]))] [] r.2 then
      (retPV (r.1, [])).bind fun r1 =>
        (bif (Sh.tup []).fits r1 then
          L57_114 l 0 (((Out.b r 0).c 0).toInt)
        else none)
    else none) :=
  (V_eq pa rfl _).trans (f57 j_e l V (LV Pr T 57))
theorem f57_114 (l : List PV) (i : Int) (v : Int) (cl_ : FuncId → List Arg → Option Out) (lp_ : List Nat → AS → Option Out) : stepW Pr T cl_ lp_ 57 [1, 1, 4] (st57_114 l i v) =
  bif decide (i < (l.length : Int)) then
    bif decide (0 ≤ i) then
      (l[i.toNat]?).bind fun x =>
        (bif (Sh.str).fits x then
          ((cl_ 54 [.pv (.str x.toStr)]).bind retPV).bind fun r =>
            (bif (Sh.bool).fits r then
              (cl_ 53 [.box [.int .i64 v], .pv (.bool r.toBool)]).bind fun r1 =>
                (bif refFits [(0, some (Sh.agg [Sh.int .i64]))] [] r1.2 then
                  (retPV (r1.1, [])).bind fun r2 =>
                    (bif (Sh.tup []).fits r2 then
                      lp_ [1, 1, 4] (st57_114 l (IntKind.i64.wrap (i + (1 : Int))) (((Out.b r1 0).c 0).toInt))
                    else none)
                else none)
            else none)
        else none)
    else none
  else some (.pv (.tup []), [.box [.int .i64 v]]) := by kernel_rfl
theorem e57_114 (l : List PV) (i : Int) (v : Int) : L57_114 l i v =
  bif decide (i < (l.length : Int)) then
    bif decide (0 ≤ i) then
      (l[i.toNat]?).bind fun x =>
        (bif (Sh.str).fits x then
          ((V 54 [.pv (.str x.toStr)]).bind retPV).bind fun r =>
            (bif (Sh.bool).fits r then
              (V 53 [.box [.int .i64 v], .pv (.bool r.toBool)]).bind fun r1 =>
                (bif refFits [(0, some (Sh.agg [Sh.int .i64]))] [] r1.2 then
                  (retPV (r1.1, [])).bind fun r2 =>
                    (bif (Sh.tup []).fits r2 then
                      L57_114 l (IntKind.i64.wrap (i + (1 : Int))) (((Out.b r1 0).c 0).toInt)
                    else none)
                else none)
            else none)
        else none)
    else none
  else some (.pv (.tup []), [.box [.int .i64 v]]) :=
  (LV_eq pa 57 _ _).trans (f57_114 l i v V (LV Pr T 57))
/-! 58 roadstead/roadref2.Great -/
theorem f58 (s : List UInt8) (cl_ : FuncId → List Arg → Option Out) (lp_ : List Nat → AS → Option Out) : runW Pr T cl_ lp_ 58 [.pv (.str s)] =
  ((cl_ 90 [.pv (.str s), .pv (.str [65, 66, 67, 68, 69, 70, 71, 72, 73, 74, 75, 76, 77, 78, 79, 80, 81, 82, 83, 84, 85, 86, 87, 88, 89, 90])]).bind retPV).bind fun r =>
    (bif (Sh.bool).fits r then
      some (.pv (.bool r.toBool), [])
    else none) := by kernel_rfl
theorem e58 (s : List UInt8) : V 58 [.pv (.str s)] =
  ((V 90 [.pv (.str s), .pv (.str [65, 66, 67, 68, 69, 70, 71, 72, 73, 74, 75, 76, 77, 78, 79, 80, 81, 82, 83, 84, 85, 86, 87, 88, 89, 90])]).bind retPV).bind fun r =>
    (bif (Sh.bool).fits r then
      some (.pv (.bool r.toBool), [])
    else none) :=
  (V_eq pa rfl _).trans (f58 s V (LV Pr T 58))
/-! 59 (*roadstead/roadref2.judge).types -/
def st59_14 (l : List PV) (i : Int) (j_e : Int) : AS :=
  ⟨[.box 0 0, .any, .any, .any, .any, .any, .pv (.lst l), .pv (.int .i64 (l.length : Int)), .pv (.int .i64 i), .any, .any, .any, .any, .any, .any, .any], ⟨[(false, [.pv (.int .i64 j_e)])], [], [], 1, 0⟩⟩
noncomputable def L59_14 (l : List PV) (i : Int) (j_e : Int) : Option Out := LV Pr T 59 [1, 4] (st59_14 l i j_e)
theorem f59 (j_e : Int) (l : List PV) (cl_ : FuncId → List Arg → Option Out) (lp_ : List Nat → AS → Option Out) : runW Pr T cl_ lp_ 59 [.box [.int .i64 j_e], .pv (.lst l)] =
  lp_ [1, 4] (st59_14 l 0 j_e) := by kernel_rfl
theorem e59 (j_e : Int) (l : List PV) : V 59 [.box [.int .i64 j_e], .pv (.lst l)] =
  L59_14 l 0 j_e :=
  (V_eq pa rfl _).trans (f59 j_e l V (LV Pr T 59))
theorem f59_14 (l : List PV) (i : Int) (j_e : Int) (cl_ : FuncId → List Arg → Option Out) (lp_ : List Nat → AS → Option Out) : stepW Pr T cl_ lp_ 59 [1, 4] (st59_14 l i j_e) =
  bif decide (i < (l.length : Int)) then
    bif decide (0 ≤ i) then
      (l[i.toNat]?).bind fun x =>
        (bif (Sh.agg [Sh.int .i64, Sh.str, Sh.lst]).fits x then
          (cl_ 92 [.box [.int .i64 j_e], .pv (.agg [.int .i64 ((x.c 0).toInt), .str ((x.c 1).toStr), .lst ((x.c 2).toLst)]), .pv (.int .i64 1)]).bind fun r =>
            (bif refFits [(0, some (Sh.agg [Sh.int .i64]))] [] r.2 then
              (retPV (r.1, [])).bind fun r1 =>
                (bif (Sh.tup []).fits r1 then
                  lp_ [1, 4] (st59_14 l (IntKind.i64.wrap (i + (1 : Int))) (((Out.b r 0).c 0).toInt))
                else none)
            else none)
        else none)
    else none
  else some (.pv (.tup []), [.box [.int .i64 j_e]]) := by kernel_rfl
theorem e59_14 (l : List PV) (i : Int) (j_e : Int) : L59_14 l i j_e =
  bif decide (i < (l.length : Int)) then
    bif decide (0 ≤ i) then
      (l[i.toNat]?).bind fun x =>
        (bif (Sh.agg [Sh.int .i64, Sh.str, Sh.lst]).fits x then
          (V 92 [.box [.int .i64 j_e], .pv (.agg [.int .i64 ((x.c 0).toInt), .str ((x.c 1).toStr), .lst ((x.c 2).toLst)]), .pv (.int .i64 1)]).bind fun r =>
            (bif refFits [(0, some (Sh.agg [Sh.int .i64]))] [] r.2 then
              (retPV (r.1, [])).bind fun r1 =>
                (bif (Sh.tup []).fits r1 then
                  L59_14 l (IntKind.i64.wrap (i + (1 : Int))) (((Out.b r 0).c 0).toInt)
                else none)
            else none)
        else none)
    else none
  else some (.pv (.tup []), [.box [.int .i64 j_e]]) :=
  (LV_eq pa 59 _ _).trans (f59_14 l i j_e V (LV Pr T 59))
/-! 61 (*roadstead/roadref2.judge).body -/
theorem f61 (j_e : Int) (e_Kind : Int) (e_Num : Int) (e_Text : List UInt8) (e_Names : List PV) (e_Types : List PV) (e_Args : List PV) (e_Arms : List PV) (e_At : Int) (actor : Bool) (cl_ : FuncId → List Arg → Option Out) (lp_ : List Nat → AS → Option Out) : runW Pr T cl_ lp_ 61 [.box [.int .i64 j_e], .pv (.agg [.int .i64 e_Kind, .int .i64 e_Num, .str e_Text, .lst e_Names, .lst e_Types, .lst e_Args, .lst e_Arms, .int .i64 e_At]), .pv (.bool actor)] =
  ((cl_ 65 [.pv (.agg [.int .i64 e_Kind, .int .i64 e_Num, .str e_Text, .lst e_Names, .lst e_Types, .lst e_Args, .lst e_Arms, .int .i64 e_At])]).bind retPV).bind fun r =>
    (bif (Sh.int .i64).fits r then
      bif decide ((r.toInt) ≤ (400 : Int)) then
        ((cl_ 94 [.pv (.agg [.int .i64 e_Kind, .int .i64 e_Num, .str e_Text, .lst e_Names, .lst e_Types, .lst e_Args, .lst e_Arms, .int .i64 e_At])]).bind retPV).bind fun r1 =>
          (bif (Sh.int .i64).fits r1 then
            (cl_ 52 [.box [.int .i64 j_e], .pv (.bool (decide ((r1.toInt) ≤ (40 : Int))))]).bind fun r2 =>
              (bif refFits [(0, some (Sh.agg [Sh.int .i64]))] [] r2.2 then
                (retPV (r2.1, [])).bind fun r3 =>
                  (bif (Sh.tup []).fits r3 then
                    (cl_ 95 [.box [.int .i64 (((Out.b r2 0).c 0).toInt)], .pv (.agg [.int .i64 e_Kind, .int .i64 e_Num, .str e_Text, .lst e_Names, .lst e_Types, .lst e_Args, .lst e_Arms, .int .i64 e_At]), .pv (.bool actor)]).bind fun r4 =>
                      (bif refFits [(0, some (Sh.agg [Sh.int .i64]))] [] r4.2 then
                        (retPV (r4.1, [])).bind fun r5 =>
                          (bif (Sh.tup []).fits r5 then
                            some (.pv (.tup []), [.box [.int .i64 (((Out.b r4 0).c 0).toInt)]])
                          else none)
                      else none)
                  else none)
              else none)
          else none)
      else (cl_ 52 [.box [.int .i64 j_e], .pv (.bool false)]).bind fun r6 =>
        (bif refFits [(0, some (Sh.agg [Sh.int .i64]))] [] r6.2 then
          (retPV (r6.1, [])).bind fun r7 =>
            (bif (Sh.tup []).fits r7 then
              (cl_ 95 [.box [.int .i64 (((Out.b r6 0).c 0).toInt)], .pv (.agg [.int .i64 e_Kind, .int .i64 e_Num, .str e_Text, .lst e_Names, .lst e_Types, .lst e_Args, .lst e_Arms, .int .i64 e_At]), .pv (.bool actor)]).bind fun r8 =>
                (bif refFits [(0, some (Sh.agg [Sh.int .i64]))] [] r8.2 then
                  (retPV (r8.1, [])).bind fun r9 =>
                    (bif (Sh.tup []).fits r9 then
                      some (.pv (.tup []), [.box [.int .i64 (((Out.b r8 0).c 0).toInt)]])
                    else none)
                else none)
            else none)
        else none)
    else none) := by kernel_rfl
theorem e61 (j_e : Int) (e_Kind : Int) (e_Num : Int) (e_Text : List UInt8) (e_Names : List PV) (e_Types : List PV) (e_Args : List PV) (e_Arms : List PV) (e_At : Int) (actor : Bool) : V 61 [.box [.int .i64 j_e], .pv (.agg [.int .i64 e_Kind, .int .i64 e_Num, .str e_Text, .lst e_Names, .lst e_Types, .lst e_Args, .lst e_Arms, .int .i64 e_At]), .pv (.bool actor)] =
  ((V 65 [.pv (.agg [.int .i64 e_Kind, .int .i64 e_Num, .str e_Text, .lst e_Names, .lst e_Types, .lst e_Args, .lst e_Arms, .int .i64 e_At])]).bind retPV).bind fun r =>
    (bif (Sh.int .i64).fits r then
      bif decide ((r.toInt) ≤ (400 : Int)) then
        ((V 94 [.pv (.agg [.int .i64 e_Kind, .int .i64 e_Num, .str e_Text, .lst e_Names, .lst e_Types, .lst e_Args, .lst e_Arms, .int .i64 e_At])]).bind retPV).bind fun r1 =>
          (bif (Sh.int .i64).fits r1 then
            (V 52 [.box [.int .i64 j_e], .pv (.bool (decide ((r1.toInt) ≤ (40 : Int))))]).bind fun r2 =>
              (bif refFits [(0, some (Sh.agg [Sh.int .i64]))] [] r2.2 then
                (retPV (r2.1, [])).bind fun r3 =>
                  (bif (Sh.tup []).fits r3 then
                    (V 95 [.box [.int .i64 (((Out.b r2 0).c 0).toInt)], .pv (.agg [.int .i64 e_Kind, .int .i64 e_Num, .str e_Text, .lst e_Names, .lst e_Types, .lst e_Args, .lst e_Arms, .int .i64 e_At]), .pv (.bool actor)]).bind fun r4 =>
                      (bif refFits [(0, some (Sh.agg [Sh.int .i64]))] [] r4.2 then
                        (retPV (r4.1, [])).bind fun r5 =>
                          (bif (Sh.tup []).fits r5 then
                            some (.pv (.tup []), [.box [.int .i64 (((Out.b r4 0).c 0).toInt)]])
                          else none)
                      else none)
                  else none)
              else none)
          else none)
      else (V 52 [.box [.int .i64 j_e], .pv (.bool false)]).bind fun r6 =>
        (bif refFits [(0, some (Sh.agg [Sh.int .i64]))] [] r6.2 then
          (retPV (r6.1, [])).bind fun r7 =>
            (bif (Sh.tup []).fits r7 then
              (V 95 [.box [.int .i64 (((Out.b r6 0).c 0).toInt)], .pv (.agg [.int .i64 e_Kind, .int .i64 e_Num, .str e_Text, .lst e_Names, .lst e_Types, .lst e_Args, .lst e_Arms, .int .i64 e_At]), .pv (.bool actor)]).bind fun r8 =>
                (bif refFits [(0, some (Sh.agg [Sh.int .i64]))] [] r8.2 then
                  (retPV (r8.1, [])).bind fun r9 =>
                    (bif (Sh.tup []).fits r9 then
                      some (.pv (.tup []), [.box [.int .i64 (((Out.b r8 0).c 0).toInt)]])
                    else none)
                else none)
            else none)
        else none)
    else none) :=
  (V_eq pa rfl _).trans (f61 j_e e_Kind e_Num e_Text e_Names e_Types e_Args e_Arms e_At actor V (LV Pr T 61))
/-! 62 roadstead/tree.Bound -/
def st62_101413121014 (l : List PV) (p_Args : List PV) (i : Int) : AS :=
  ⟨[.any, .any, .any, .bld 0 0 l, .any, .any, .any, .any, .any, .any, .any, .any, .any, .any, .any, .any, .pv (.lst p_Args), .pv (.int .i64 (p_Args.length : Int)), .pv (.int .i64 i), .any, .any, .any, .any, .any, .any, .any, .any, .any], ⟨[], [], [(0, 1)], 0, 0⟩⟩
noncomputable def L62_101413121014 (l : List PV) (p_Args : List PV) (i : Int) : Option Out := LV Pr T 62 [1, 0, 1, 4, 1, 3, 1, 2, 1, 0, 1, 4] (st62_101413121014 l p_Args i)
theorem f62 (p_Kind : Int) (p_Num : Int) (p_Text : List UInt8) (p_Args : List PV) (cl_ : FuncId → List Arg → Option Out) (lp_ : List Nat → AS → Option Out) : runW Pr T cl_ lp_ 62 [.pv (.agg [.int .i64 p_Kind, .int .i64 p_Num, .str p_Text, .lst p_Args])] =
  bif (p_Kind == (2 : Int)) then
    some (.pv (.lst [.str p_Text]), [])
  else bif (p_Kind == (6 : Int)) then
    lp_ [1, 0, 1, 4, 1, 3, 1, 2, 1, 0, 1, 4] (st62_101413121014 [] p_Args 0)
  else some (.bld 1 [], []) := by kernel_rfl
theorem e62 (p_Kind : Int) (p_Num : Int) (p_Text : List UInt8) (p_Args : List PV) : V 62 [.pv (.agg [.int .i64 p_Kind, .int .i64 p_Num, .str p_Text, .lst p_Args])] =
  bif (p_Kind == (2 : Int)) then
    some (.pv (.lst [.str p_Text]), [])
  else bif (p_Kind == (6 : Int)) then
    L62_101413121014 [] p_Args 0
  else some (.bld 1 [], []) :=
  (V_eq pa rfl _).trans (f62 p_Kind p_Num p_Text p_Args V (LV Pr T 62))
theorem f62_101413121014 (l : List PV) (p_Args : List PV) (i : Int) (cl_ : FuncId → List Arg → Option Out) (lp_ : List Nat → AS → Option Out) : stepW Pr T cl_ lp_ 62 [1, 0, 1, 4, 1, 3, 1, 2, 1, 0, 1, 4] (st62_101413121014 l p_Args i) =
  bif decide (i < (p_Args.length : Int)) then
    bif decide (0 ≤ i) then
      (p_Args[i.toNat]?).bind fun x =>
        (bif (Sh.agg [Sh.int .i64, Sh.int .i64, Sh.str, Sh.lst]).fits x then
          ((cl_ 62 [.pv (.agg [.int .i64 ((x.c 0).toInt), .int .i64 ((x.c 1).toInt), .str ((x.c 2).toStr), .lst ((x.c 3).toLst)])]).bind retPV).bind fun r =>
            (bif (Sh.lst).fits r then
              bif headOk 1 r.toLst then
                bif small (l.length) (r.toLst.length) 16 then
                  lp_ [1, 0, 1, 4, 1, 3, 1, 2, 1, 0, 1, 4] (st62_101413121014 (l ++ r.toLst) p_Args (IntKind.i64.wrap (i + (1 : Int))))
                else none
              else none
            else none)
        else none)
    else none
  else some (.bld 1 l, []) := by kernel_rfl
theorem e62_101413121014 (l : List PV) (p_Args : List PV) (i : Int) : L62_101413121014 l p_Args i =
  bif decide (i < (p_Args.length : Int)) then
    bif decide (0 ≤ i) then
      (p_Args[i.toNat]?).bind fun x =>
        (bif (Sh.agg [Sh.int .i64, Sh.int .i64, Sh.str, Sh.lst]).fits x then
          ((V 62 [.pv (.agg [.int .i64 ((x.c 0).toInt), .int .i64 ((x.c 1).toInt), .str ((x.c 2).toStr), .lst ((x.c 3).toLst)])]).bind retPV).bind fun r =>
            (bif (Sh.lst).fits r then
              bif headOk 1 r.toLst then
                bif small (l.length) (r.toLst.length) 16 then
                  L62_101413121014 (l ++ r.toLst) p_Args (IntKind.i64.wrap (i + (1 : Int)))
                else none
              else none
            else none)
        else none)
    else none
  else some (.bld 1 l, []) :=
  (LV_eq pa 62 _ _).trans (f62_101413121014 l p_Args i V (LV Pr T 62))
/-! 63 slices.Index[[]string,string] -/
def st63_1014 (s : List PV) (v : List UInt8) (i : Int) : AS :=
  ⟨[.pv (.lst s), .pv (.str v), .any, .any, .any, .any, .any, .pv (.int .i64 (s.length : Int)), .pv (.int .i64 i), .any, .any, .any, .any, .any, .any, .any, .any, .any, .any], ⟨[], [], [], 0, 0⟩⟩
noncomputable def L63_1014 (s : List PV) (v : List UInt8) (i : Int) : Option Out := LV Pr T 63 [1, 0, 1, 4] (st63_1014 s v i)
theorem f63 (s : List PV) (v : List UInt8) (cl_ : FuncId → List Arg → Option Out) (lp_ : List Nat → AS → Option Out) : runW Pr T cl_ lp_ 63 [.pv (.lst s), .pv (.str v)] =
  lp_ [1, 0, 1, 4] (st63_1014 s v 0) := by kernel_rfl
theorem e63 (s : List PV) (v : List UInt8) : V 63 [.pv (.lst s), .pv (.str v)] =
  L63_1014 s v 0 :=
  (V_eq pa rfl _).trans (f63 s v V (LV Pr T 63))
theorem f63_1014 (s : List PV) (v : List UInt8) (i : Int) (cl_ : FuncId → List Arg → Option Out) (lp_ : List Nat → AS → Option Out) : stepW Pr T cl_ lp_ 63 [1, 0, 1, 4] (st63_1014 s v i) =
  bif decide (i < (s.length : Int)) then
    bif decide (0 ≤ i) then
      (s[i.toNat]?).bind fun x =>
        (bif (Sh.str).fits x then
          bif (v == x.toStr) then
            some (.pv (.int .i64 i), [])
          else lp_ [1, 0, 1, 4] (st63_1014 s v (IntKind.i64.wrap (i + (1 : Int))))
        else none)
    else none
  else some (.pv (.int .i64 (-1)), []) := by kernel_rfl
theorem e63_1014 (s : List PV) (v : List UInt8) (i : Int) : L63_1014 s v i =
  bif decide (i < (s.length : Int)) then
    bif decide (0 ≤ i) then
      (s[i.toNat]?).bind fun x =>
        (bif (Sh.str).fits x then
          bif (v == x.toStr) then
            some (.pv (.int .i64 i), [])
          else L63_1014 s v (IntKind.i64.wrap (i + (1 : Int)))
        else none)
    else none
  else some (.pv (.int .i64 (-1)), []) :=
  (LV_eq pa 63 _ _).trans (f63_1014 s v i V (LV Pr T 63))
end Go.AL.S9
