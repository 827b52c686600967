/- Equations of functions in the abstract machine: printed by gen.py. -/
import Derived.Test.YtlmodlihiglnhaaS6T
set_option linter.unusedVariables false
set_option maxRecDepth 100000
namespace Go.AL.S6
open Go Go.AL
/-! 65 roadstead/token.IsLow -/
theorem f65 (s : List UInt8) (cl_ : FuncId → List Arg → Option Out) (lp_ : List Nat → AS → Option Out) : runW Pr T cl_ lp_ 65 [.pv (.str s)] =
  ((cl_ 102 [.pv (.str s), .pv (.fn 103 [])]).bind retPV).bind fun r =>
    (bif (Sh.bool).fits r then
      bif r.toBool then
        ((cl_ 104 [.pv (.str s)]).bind retPV).bind fun r1 =>
          (bif (Sh.bool).fits r1 then
            some (.pv (.bool (!r1.toBool)), [])
          else none)
      else some (.pv (.bool false), [])
    else none) := by kernel_rfl
theorem e65 (s : List UInt8) : V 65 [.pv (.str s)] =
  ((V 102 [.pv (.str s), .pv (.fn 103 [])]).bind retPV).bind fun r =>
    (bif (Sh.bool).fits r then
      bif r.toBool then
        ((V 104 [.pv (.str s)]).bind retPV).bind fun r1 =>
          (bif (Sh.bool).fits r1 then
            some (.pv (.bool (!r1.toBool)), [])
          else none)
      else some (.pv (.bool false), [])
    else none) :=
  (V_eq pa rfl _).trans (f65 s V (LV Pr T 65))
/-! 102 roadstead/token.name -/
def st102_11014 (s : List UInt8) (i : Int) : AS :=
  ⟨[.any, .any, .any, .any, .any, .any, .any, .any, .any, .any, .any, .any, .any, .any, .any, .any, .any, .any, .any, .any, .any, .any, .any, .pv (.lst (s.map fun c => PV.int .u8 c.toNat)), .pv (.int .i64 ((s.map fun c => PV.int .u8 c.toNat).length : Int)), .pv (.int .i64 i), .any, .any, .any, .any, .any, .any, .any], ⟨[], [], [], 0, 0⟩⟩
noncomputable def L102_11014 (s : List UInt8) (i : Int) : Option Out := LV Pr T 102 [1, 1, 0, 1, 4] (st102_11014 s i)
theorem f102 (s : List UInt8) (first_f : FuncId) (first_c : List PV) (cl_ : FuncId → List Arg → Option Out) (lp_ : List Nat → AS → Option Out) : runW Pr T cl_ lp_ 102 [.pv (.str s), .pv (.fn first_f first_c)] =
  bif decide ((s.length : Int) < (1 : Int)) then
    some (.pv (.bool false), [])
  else bif decide ((s.length : Int) > (16 : Int)) then
    some (.pv (.bool false), [])
  else (s[(0 : Int).toNat]?).bind fun c =>
    (((cl_ first_f ((([.int .u8 (c.toNat : Int)] : List PV) ++ first_c).map .pv)).bind retPV).bind fun r =>
      (bif (Sh.bool).fits r then
        bif (!r.toBool) then
          some (.pv (.bool false), [])
        else bif decide (s.length ≤ 2147483648) then
          lp_ [1, 1, 0, 1, 4] (st102_11014 s 0)
        else none
      else none)) := by kernel_rfl
theorem e102 (s : List UInt8) (first_f : FuncId) (first_c : List PV) : V 102 [.pv (.str s), .pv (.fn first_f first_c)] =
  bif decide ((s.length : Int) < (1 : Int)) then
    some (.pv (.bool false), [])
  else bif decide ((s.length : Int) > (16 : Int)) then
    some (.pv (.bool false), [])
  else (s[(0 : Int).toNat]?).bind fun c =>
    (((V first_f ((([.int .u8 (c.toNat : Int)] : List PV) ++ first_c).map .pv)).bind retPV).bind fun r =>
      (bif (Sh.bool).fits r then
        bif (!r.toBool) then
          some (.pv (.bool false), [])
        else bif decide (s.length ≤ 2147483648) then
          L102_11014 s 0
        else none
      else none)) :=
  (V_eq pa rfl _).trans (f102 s first_f first_c V (LV Pr T 102))
theorem f102_11014 (s : List UInt8) (i : Int) (cl_ : FuncId → List Arg → Option Out) (lp_ : List Nat → AS → Option Out) : stepW Pr T cl_ lp_ 102 [1, 1, 0, 1, 4] (st102_11014 s i) =
  bif decide (i < ((s.map fun c => PV.int .u8 c.toNat).length : Int)) then
    bif decide (0 ≤ i) then
      ((s.map fun c => PV.int .u8 c.toNat)[i.toNat]?).bind fun x =>
        (bif (Sh.int .u8).fits x then
          ((cl_ 129 [.pv (.int .u8 x.toInt)]).bind retPV).bind fun r =>
            (bif (Sh.bool).fits r then
              bif (!r.toBool) then
                some (.pv (.bool false), [])
              else lp_ [1, 1, 0, 1, 4] (st102_11014 s (IntKind.i64.wrap (i + (1 : Int))))
            else none)
        else none)
    else none
  else some (.pv (.bool true), []) := by kernel_rfl
theorem e102_11014 (s : List UInt8) (i : Int) : L102_11014 s i =
  bif decide (i < ((s.map fun c => PV.int .u8 c.toNat).length : Int)) then
    bif decide (0 ≤ i) then
      ((s.map fun c => PV.int .u8 c.toNat)[i.toNat]?).bind fun x =>
        (bif (Sh.int .u8).fits x then
          ((V 129 [.pv (.int .u8 x.toInt)]).bind retPV).bind fun r =>
            (bif (Sh.bool).fits r then
              bif (!r.toBool) then
                some (.pv (.bool false), [])
              else L102_11014 s (IntKind.i64.wrap (i + (1 : Int)))
            else none)
        else none)
    else none
  else some (.pv (.bool true), []) :=
  (LV_eq pa 102 _ _).trans (f102_11014 s i V (LV Pr T 102))
/-! 103 roadstead/token.low -/
theorem f103 (c : Int) (cl_ : FuncId → List Arg → Option Out) (lp_ : List Nat → AS → Option Out) : runW Pr T cl_ lp_ 103 [.pv (.int .u8 c)] =
  bif decide (c ≥ (97 : Int)) then
    some (.pv (.bool (decide (c ≤ (122 : Int)))), [])
  else some (.pv (.bool false), []) := by kernel_rfl
theorem e103 (c : Int) : V 103 [.pv (.int .u8 c)] =
  bif decide (c ≥ (97 : Int)) then
    some (.pv (.bool (decide (c ≤ (122 : Int)))), [])
  else some (.pv (.bool false), []) :=
  (V_eq pa rfl _).trans (f103 c V (LV Pr T 103))
/-! 104 roadstead/token.IsWord -/
def st104_1014 (s : List UInt8) (v : List PV) (i : Int) : AS :=
  ⟨[.pv (.str s), .any, .any, .any, .any, .pv (.lst v), .pv (.int .i64 (v.length : Int)), .pv (.int .i64 i), .any, .any, .any, .any, .any, .any, .any], ⟨[], [], [], 0, 0⟩⟩
noncomputable def L104_1014 (s : List UInt8) (v : List PV) (i : Int) : Option Out := LV Pr T 104 [1, 0, 1, 4] (st104_1014 s v i)
theorem f104 (s : List UInt8) (cl_ : FuncId → List Arg → Option Out) (lp_ : List Nat → AS → Option Out) : runW Pr T cl_ lp_ 104 [.pv (.str s)] =
  ((cl_ 130 []).bind retPV).bind fun r =>
    (bif (Sh.lst).fits r then
      lp_ [1, 0, 1, 4] (st104_1014 s r.toLst 0)
    else none) := by kernel_rfl
theorem e104 (s : List UInt8) : V 104 [.pv (.str s)] =
  ((V 130 []).bind retPV).bind fun r =>
    (bif (Sh.lst).fits r then
      L104_1014 s r.toLst 0
    else none) :=
  (V_eq pa rfl _).trans (f104 s V (LV Pr T 104))
theorem f104_1014 (s : List UInt8) (v : List PV) (i : Int) (cl_ : FuncId → List Arg → Option Out) (lp_ : List Nat → AS → Option Out) : stepW Pr T cl_ lp_ 104 [1, 0, 1, 4] (st104_1014 s v i) =
  bif decide (i < (v.length : Int)) then
    bif decide (0 ≤ i) then
      (v[i.toNat]?).bind fun x =>
        (bif (Sh.str).fits x then
          bif (x.toStr == s) then
            some (.pv (.bool true), [])
          else lp_ [1, 0, 1, 4] (st104_1014 s v (IntKind.i64.wrap (i + (1 : Int))))
        else none)
    else none
  else some (.pv (.bool false), []) := by kernel_rfl
theorem e104_1014 (s : List UInt8) (v : List PV) (i : Int) : L104_1014 s v i =
  bif decide (i < (v.length : Int)) then
    bif decide (0 ≤ i) then
      (v[i.toNat]?).bind fun x =>
        (bif (Sh.str).fits x then
          bif (x.toStr == s) then
            some (.pv (.bool true), [])
          else L104_1014 s v (IntKind.i64.wrap (i + (1 : Int)))
        else none)
    else none
  else some (.pv (.bool false), []) :=
  (LV_eq pa 104 _ _).trans (f104_1014 s v i V (LV Pr T 104))
/-! 105 roadstead/token.IsUp -/
theorem f105 (s : List UInt8) (cl_ : FuncId → List Arg → Option Out) (lp_ : List Nat → AS → Option Out) : runW Pr T cl_ lp_ 105 [.pv (.str s)] =
  ((cl_ 102 [.pv (.str s), .pv (.fn 131 [])]).bind retPV).bind fun r =>
    (bif (Sh.bool).fits r then
      some (.pv (.bool r.toBool), [])
    else none) := by kernel_rfl
theorem e105 (s : List UInt8) : V 105 [.pv (.str s)] =
  ((V 102 [.pv (.str s), .pv (.fn 131 [])]).bind retPV).bind fun r =>
    (bif (Sh.bool).fits r then
      some (.pv (.bool r.toBool), [])
    else none) :=
  (V_eq pa rfl _).trans (f105 s V (LV Pr T 105))
/-! 129 roadstead/token.inner -/
theorem f129 (c : Int) (cl_ : FuncId → List Arg → Option Out) (lp_ : List Nat → AS → Option Out) : runW Pr T cl_ lp_ 129 [.pv (.int .u8 c)] =
  ((cl_ 103 [.pv (.int .u8 c)]).bind retPV).bind fun r =>
    (bif (Sh.bool).fits r then
      bif r.toBool then
        some (.pv (.bool true), [])
      else ((cl_ 131 [.pv (.int .u8 c)]).bind retPV).bind fun r1 =>
        (bif (Sh.bool).fits r1 then
          bif r1.toBool then
            some (.pv (.bool true), [])
          else ((cl_ 141 [.pv (.int .u8 c)]).bind retPV).bind fun r2 =>
            (bif (Sh.bool).fits r2 then
              bif r2.toBool then
                some (.pv (.bool true), [])
              else some (.pv (.bool (c == (95 : Int))), [])
            else none)
        else none)
    else none) := by kernel_rfl
theorem e129 (c : Int) : V 129 [.pv (.int .u8 c)] =
  ((V 103 [.pv (.int .u8 c)]).bind retPV).bind fun r =>
    (bif (Sh.bool).fits r then
      bif r.toBool then
        some (.pv (.bool true), [])
      else ((V 131 [.pv (.int .u8 c)]).bind retPV).bind fun r1 =>
        (bif (Sh.bool).fits r1 then
          bif r1.toBool then
            some (.pv (.bool true), [])
          else ((V 141 [.pv (.int .u8 c)]).bind retPV).bind fun r2 =>
            (bif (Sh.bool).fits r2 then
              bif r2.toBool then
                some (.pv (.bool true), [])
              else some (.pv (.bool (c == (95 : Int))), [])
            else none)
        else none)
    else none) :=
  (V_eq pa rfl _).trans (f129 c V (LV Pr T 129))
/-! 130 roadstead/token.Words -/
theorem f130  (cl_ : FuncId → List Arg → Option Out) (lp_ : List Nat → AS → Option Out) : runW Pr T cl_ lp_ 130 [] =
  some (.pv (.lst [.str [97, 99, 116, 111, 114], .str [97, 102, 116, 101, 114], .str [97, 110, 100], .str [97, 112, 112, 108, 121], .str [98, 101, 99, 111, 109, 101], .str [98, 111, 111, 108], .str [99, 101, 108, 108], .str [100, 97, 116, 97], .str [101, 108, 115, 101], .str [102, 97, 105, 108], .str [102, 97, 108, 115, 101], .str [102, 110], .str [102, 111, 114], .str [102, 117, 110], .str [103, 101, 116], .str [105, 102], .str [105, 109, 112, 108], .str [105, 110], .str [105, 110, 116], .str [108, 101, 116], .str [108, 105, 110, 107], .str [109, 97, 116, 99, 104], .str [109, 111, 100, 117, 108, 101], .str [110, 111, 116], .str [111, 114], .str [112, 117, 116], .str [114, 101, 99, 101, 105, 118, 101], .str [115, 97, 121], .str [115, 101, 108, 102], .str [115, 101, 110, 100], .str [115, 112, 97, 119, 110], .str [116, 101, 120, 116], .str [116, 104, 101, 110], .str [116, 114, 97, 105, 116], .str [116, 114, 117, 101], .str [117, 110, 105, 116], .str [117, 115, 101], .str [119, 97, 116, 99, 104]]), []) := by kernel_rfl
theorem e130  : V 130 [] =
  some (.pv (.lst [.str [97, 99, 116, 111, 114], .str [97, 102, 116, 101, 114], .str [97, 110, 100], .str [97, 112, 112, 108, 121], .str [98, 101, 99, 111, 109, 101], .str [98, 111, 111, 108], .str [99, 101, 108, 108], .str [100, 97, 116, 97], .str [101, 108, 115, 101], .str [102, 97, 105, 108], .str [102, 97, 108, 115, 101], .str [102, 110], .str [102, 111, 114], .str [102, 117, 110], .str [103, 101, 116], .str [105, 102], .str [105, 109, 112, 108], .str [105, 110], .str [105, 110, 116], .str [108, 101, 116], .str [108, 105, 110, 107], .str [109, 97, 116, 99, 104], .str [109, 111, 100, 117, 108, 101], .str [110, 111, 116], .str [111, 114], .str [112, 117, 116], .str [114, 101, 99, 101, 105, 118, 101], .str [115, 97, 121], .str [115, 101, 108, 102], .str [115, 101, 110, 100], .str [115, 112, 97, 119, 110], .str [116, 101, 120, 116], .str [116, 104, 101, 110], .str [116, 114, 97, 105, 116], .str [116, 114, 117, 101], .str [117, 110, 105, 116], .str [117, 115, 101], .str [119, 97, 116, 99, 104]]), []) :=
  (V_eq pa rfl _).trans (f130  V (LV Pr T 130))
/-! 131 roadstead/token.great -/
theorem f131 (c : Int) (cl_ : FuncId → List Arg → Option Out) (lp_ : List Nat → AS → Option Out) : runW Pr T cl_ lp_ 131 [.pv (.int .u8 c)] =
  bif decide (c ≥ (65 : Int)) then
    some (.pv (.bool (decide (c ≤ (90 : Int)))), [])
  else some (.pv (.bool false), []) := by kernel_rfl
theorem e131 (c : Int) : V 131 [.pv (.int .u8 c)] =
  bif decide (c ≥ (65 : Int)) then
    some (.pv (.bool (decide (c ≤ (90 : Int)))), [])
  else some (.pv (.bool false), []) :=
  (V_eq pa rfl _).trans (f131 c V (LV Pr T 131))
/-! 141 roadstead/token.digit -/
theorem f141 (c : Int) (cl_ : FuncId → List Arg → Option Out) (lp_ : List Nat → AS → Option Out) : runW Pr T cl_ lp_ 141 [.pv (.int .u8 c)] =
  bif decide (c ≥ (48 : Int)) then
    some (.pv (.bool (decide (c ≤ (57 : Int)))), [])
  else some (.pv (.bool false), []) := by kernel_rfl
theorem e141 (c : Int) : V 141 [.pv (.int .u8 c)] =
  bif decide (c ≥ (48 : Int)) then
    some (.pv (.bool (decide (c ≤ (57 : Int)))), [])
  else some (.pv (.bool false), []) :=
  (V_eq pa rfl _).trans (f141 c V (LV Pr T 141))
/-! 66 roadstead/tree.data -/
def st66_1111014 (d_Makes : List PV) (i : Int) : AS :=
  ⟨[.any, .any, .any, .any, .any, .any, .any, .any, .any, .any, .any, .any, .any, .any, .any, .any, .any, .any, .any, .any, .any, .any, .any, .any, .any, .any, .any, .any, .any, .any, .any, .any, .any, .any, .any, .any, .any, .any, .pv (.lst d_Makes), .pv (.int .i64 (d_Makes.length : Int)), .pv (.int .i64 i), .any, .any, .any, .any, .any, .any, .any, .any, .any, .any, .any, .any, .any, .any, .any, .any, .any, .any], ⟨[], [], [], 0, 0⟩⟩
noncomputable def L66_1111014 (d_Makes : List PV) (i : Int) : Option Out := LV Pr T 66 [1, 1, 1, 1, 0, 1, 4] (st66_1111014 d_Makes i)
theorem f66 (d_Name : List UInt8) (d_Params : List PV) (d_Makes : List PV) (cl_ : FuncId → List Arg → Option Out) (lp_ : List Nat → AS → Option Out) : runW Pr T cl_ lp_ 66 [.pv (.agg [.str d_Name, .lst d_Params, .lst d_Makes])] =
  ((cl_ 105 [.pv (.str d_Name)]).bind retPV).bind fun r =>
    (bif (Sh.bool).fits r then
      bif (!r.toBool) then
        some (.pv (.int .i64 3), [])
      else bif (d_Name == ([82, 101, 102] : List UInt8)) then
        some (.pv (.int .i64 3), [])
      else bif (d_Name == ([67, 101, 108, 108] : List UInt8)) then
        some (.pv (.int .i64 3), [])
      else bif decide ((d_Makes.length : Int) < (1 : Int)) then
        some (.pv (.int .i64 3), [])
      else ((cl_ 106 [.pv (.lst d_Params)]).bind retPV).bind fun r1 =>
        (bif (Sh.int .i64).fits r1 then
          bif ((r1.toInt) != (0 : Int)) then
            some (.pv (.int .i64 r1.toInt), [])
          else bif decide ((d_Makes.length : Int) > (12 : Int)) then
            some (.pv (.int .i64 2), [])
          else lp_ [1, 1, 1, 1, 0, 1, 4] (st66_1111014 d_Makes 0)
        else none)
    else none) := by kernel_rfl
theorem e66 (d_Name : List UInt8) (d_Params : List PV) (d_Makes : List PV) : V 66 [.pv (.agg [.str d_Name, .lst d_Params, .lst d_Makes])] =
  ((V 105 [.pv (.str d_Name)]).bind retPV).bind fun r =>
    (bif (Sh.bool).fits r then
      bif (!r.toBool) then
        some (.pv (.int .i64 3), [])
      else bif (d_Name == ([82, 101, 102] : List UInt8)) then
        some (.pv (.int .i64 3), [])
      else bif (d_Name == ([67, 101, 108, 108] : List UInt8)) then
        some (.pv (.int .i64 3), [])
      else bif decide ((d_Makes.length : Int) < (1 : Int)) then
        some (.pv (.int .i64 3), [])
      else ((V 106 [.pv (.lst d_Params)]).bind retPV).bind fun r1 =>
        (bif (Sh.int .i64).fits r1 then
          bif ((r1.toInt) != (0 : Int)) then
            some (.pv (.int .i64 r1.toInt), [])
          else bif decide ((d_Makes.length : Int) > (12 : Int)) then
            some (.pv (.int .i64 2), [])
          else L66_1111014 d_Makes 0
        else none)
    else none) :=
  (V_eq pa rfl _).trans (f66 d_Name d_Params d_Makes V (LV Pr T 66))
theorem f66_1111014 (d_Makes : List PV) (i : Int) (cl_ : FuncId → List Arg → Option Out) (lp_ : List Nat → AS → Option Out) : stepW Pr T cl_ lp_ 66 [1, 1, 1, 1, 0, 1, 4] (st66_1111014 d_Makes i) =
  bif decide (i < (d_Makes.length : Int)) then
    bif decide (0 ≤ i) then
      (d_Makes[i.toNat]?).bind fun x =>
        (bif (Sh.agg [Sh.str, Sh.lst]).fits x then
          ((cl_ 105 [.pv (.str ((x.c 0).toStr))]).bind retPV).bind fun r =>
            (bif (Sh.bool).fits r then
              bif (!r.toBool) then
                some (.pv (.int .i64 3), [])
              else bif decide (((x.c 1).toLst.length : Int) > (6 : Int)) then
                some (.pv (.int .i64 2), [])
              else ((cl_ 107 [.pv (.lst ((x.c 1).toLst)), .pv (.int .i64 40)]).bind retPV).bind fun r1 =>
                (bif (Sh.int .i64).fits r1 then
                  bif ((r1.toInt) != (0 : Int)) then
                    some (.pv (.int .i64 r1.toInt), [])
                  else lp_ [1, 1, 1, 1, 0, 1, 4] (st66_1111014 d_Makes (IntKind.i64.wrap (i + (1 : Int))))
                else none)
            else none)
        else none)
    else none
  else some (.pv (.int .i64 0), []) := by kernel_rfl
theorem e66_1111014 (d_Makes : List PV) (i : Int) : L66_1111014 d_Makes i =
  bif decide (i < (d_Makes.length : Int)) then
    bif decide (0 ≤ i) then
      (d_Makes[i.toNat]?).bind fun x =>
        (bif (Sh.agg [Sh.str, Sh.lst]).fits x then
          ((V 105 [.pv (.str ((x.c 0).toStr))]).bind retPV).bind fun r =>
            (bif (Sh.bool).fits r then
              bif (!r.toBool) then
                some (.pv (.int .i64 3), [])
              else bif decide (((x.c 1).toLst.length : Int) > (6 : Int)) then
                some (.pv (.int .i64 2), [])
              else ((V 107 [.pv (.lst ((x.c 1).toLst)), .pv (.int .i64 40)]).bind retPV).bind fun r1 =>
                (bif (Sh.int .i64).fits r1 then
                  bif ((r1.toInt) != (0 : Int)) then
                    some (.pv (.int .i64 r1.toInt), [])
                  else L66_1111014 d_Makes (IntKind.i64.wrap (i + (1 : Int)))
                else none)
            else none)
        else none)
    else none
  else some (.pv (.int .i64 0), []) :=
  (LV_eq pa 66 _ _).trans (f66_1111014 d_Makes i V (LV Pr T 66))
/-! 67 roadstead/tree.traits -/
def st67_1014 (p_Traits : List PV) (i : Int) (p_Name : List UInt8) (p_Version : Int) (p_Uses : List PV) (p_Datas : List PV) (p_Impls : List PV) (p_Funcs : List PV) (p_Actors : List PV) : AS :=
  ⟨[.any, .box 0 0, .any, .any, .any, .any, .any, .any, .any, .any, .any, .pv (.lst p_Traits), .pv (.int .i64 (p_Traits.length : Int)), .pv (.int .i64 i), .any, .any, .any, .any, .any, .any, .any, .any, .any, .any, .any, .any, .any, .any, .any, .any, .any, .any, .any, .any, .any, .any, .any, .any, .any, .any, .any, .any, .any, .any, .any, .any, .any, .any, .any, .any, .any, .any, .any, .any, .any, .any, .any, .any, .any, .any, .any, .any, .any, .any, .any, .any, .any, .any, .any, .any, .any, .any, .any, .any], ⟨[(false, [.pv (.str p_Name), .pv (.int .i64 p_Version), .pv (.lst p_Uses), .pv (.lst p_Datas), .pv (.lst p_Traits), .pv (.lst p_Impls), .pv (.lst p_Funcs), .pv (.lst p_Actors)])], [], [], 0, 0⟩⟩
noncomputable def L67_1014 (p_Traits : List PV) (i : Int) (p_Name : List UInt8) (p_Version : Int) (p_Uses : List PV) (p_Datas : List PV) (p_Impls : List PV) (p_Funcs : List PV) (p_Actors : List PV) : Option Out := LV Pr T 67 [1, 0, 1, 4] (st67_1014 p_Traits i p_Name p_Version p_Uses p_Datas p_Impls p_Funcs p_Actors)
def st67_11014 (p_Impls : List PV) (i : Int) : AS :=
  ⟨[.any, .any, .any, .any, .any, .any, .any, .any, .any, .any, .any, .any, .any, .any, .any, .any, .any, .any, .any, .any, .any, .any, .any, .any, .any, .any, .any, .any, .any, .pv (.lst p_Impls), .pv (.int .i64 (p_Impls.length : Int)), .pv (.int .i64 i), .any, .any, .any, .any, .any, .any, .any, .any, .any, .any, .any, .any, .any, .any, .any, .any, .any, .any, .any, .any, .any, .any, .any, .any, .any, .any, .any, .any, .any, .any, .any, .any, .any, .any, .any, .any, .any, .any, .any, .any, .any, .any], ⟨[], [], [], 0, 0⟩⟩
noncomputable def L67_11014 (p_Impls : List PV) (i : Int) : Option Out := LV Pr T 67 [1, 1, 0, 1, 4] (st67_11014 p_Impls i)
def st67_1101451104116 (b : Bool) (p_Impls : List PV) (i1 : Int) (v : List UInt8) (v1 : List UInt8) (v2 : List PV) : AS :=
  ⟨[.any, .any, .any, .any, .any, .any, .any, .box 0 0, .pv (.bool b), .any, .any, .any, .any, .any, .any, .any, .any, .any, .any, .any, .any, .any, .any, .any, .any, .any, .any, .any, .any, .pv (.lst p_Impls), .pv (.int .i64 (p_Impls.length : Int)), .pv (.int .i64 i1), .any, .any, .any, .any, .any, .any, .any, .any, .any, .any, .any, .any, .any, .any, .any, .any, .any, .any, .any, .any, .any, .any, .any, .any, .any, .any, .any, .any, .any, .any, .any, .any, .any, .any, .any, .any, .any, .any, .any, .any, .any, .any], ⟨[(false, [.pv (.str v), .pv (.str v1), .pv (.lst v2)])], [], [], 0, 0⟩⟩
noncomputable def L67_1101451104116 (b : Bool) (p_Impls : List PV) (i1 : Int) (v : List UInt8) (v1 : List UInt8) (v2 : List PV) : Option Out := LV Pr T 67 [1, 1, 0, 1, 4, 5, 1, 1, 0, 4, 1, 1, 6] (st67_1101451104116 b p_Impls i1 v v1 v2)
def st67_11014511041116 (p_Impls : List PV) (i : Int) (v : List UInt8) (v1 : List UInt8) (v2 : List PV) : AS :=
  ⟨[.any, .any, .any, .any, .any, .any, .any, .box 0 0, .any, .any, .any, .any, .any, .any, .any, .any, .any, .any, .any, .any, .any, .any, .any, .any, .any, .any, .any, .any, .any, .pv (.lst p_Impls), .pv (.int .i64 (p_Impls.length : Int)), .pv (.int .i64 i), .any, .any, .any, .any, .any, .any, .any, .any, .any, .any, .any, .any, .any, .any, .any, .any, .any, .any, .any, .any, .any, .any, .any, .any, .any, .any, .any, .any, .any, .any, .any, .any, .any, .any, .any, .any, .any, .any, .any, .any, .any, .any], ⟨[(false, [.pv (.str v), .pv (.str v1), .pv (.lst v2)])], [], [], 0, 0⟩⟩
noncomputable def L67_11014511041116 (p_Impls : List PV) (i : Int) (v : List UInt8) (v1 : List UInt8) (v2 : List PV) : Option Out := LV Pr T 67 [1, 1, 0, 1, 4, 5, 1, 1, 0, 4, 1, 1, 1, 6] (st67_11014511041116 p_Impls i v v1 v2)
theorem f67 (p_Name : List UInt8) (p_Version : Int) (p_Uses : List PV) (p_Datas : List PV) (p_Traits : List PV) (p_Impls : List PV) (p_Funcs : List PV) (p_Actors : List PV) (cl_ : FuncId → List Arg → Option Out) (lp_ : List Nat → AS → Option Out) : runW Pr T cl_ lp_ 67 [.pv (.agg [.str p_Name, .int .i64 p_Version, .lst p_Uses, .lst p_Datas, .lst p_Traits, .lst p_Impls, .lst p_Funcs, .lst p_Actors])] =
  lp_ [1, 0, 1, 4] (st67_1014 p_Traits 0 p_Name p_Version p_Uses p_Datas p_Impls p_Funcs p_Actors) := by kernel_rfl
theorem e67 (p_Name : List UInt8) (p_Version : Int) (p_Uses : List PV) (p_Datas : List PV) (p_Traits : List PV) (p_Impls : List PV) (p_Funcs : List PV) (p_Actors : List PV) : V 67 [.pv (.agg [.str p_Name, .int .i64 p_Version, .lst p_Uses, .lst p_Datas, .lst p_Traits, .lst p_Impls, .lst p_Funcs, .lst p_Actors])] =
  L67_1014 p_Traits 0 p_Name p_Version p_Uses p_Datas p_Impls p_Funcs p_Actors :=
  (V_eq pa rfl _).trans (f67 p_Name p_Version p_Uses p_Datas p_Traits p_Impls p_Funcs p_Actors V (LV Pr T 67))
theorem f67_1014 (p_Traits : List PV) (i : Int) (p_Name : List UInt8) (p_Version : Int) (p_Uses : List PV) (p_Datas : List PV) (p_Impls : List PV) (p_Funcs : List PV) (p_Actors : List PV) (cl_ : FuncId → List Arg → Option Out) (lp_ : List Nat → AS → Option Out) : stepW Pr T cl_ lp_ 67 [1, 0, 1, 4] (st67_1014 p_Traits i p_Name p_Version p_Uses p_Datas p_Impls p_Funcs p_Actors) =
  bif decide (i < (p_Traits.length : Int)) then
    bif decide (0 ≤ i) then
      (p_Traits[i.toNat]?).bind fun x =>
        (bif (Sh.agg [Sh.str, Sh.lst]).fits x then
          ((cl_ 105 [.pv (.str ((x.c 0).toStr))]).bind retPV).bind fun r =>
            (bif (Sh.bool).fits r then
              bif (!r.toBool) then
                some (.pv (.int .i64 3), [])
              else ((cl_ 108 [.pv (.lst ((x.c 1).toLst)), .pv (.bool false)]).bind retPV).bind fun r1 =>
                (bif (Sh.int .i64).fits r1 then
                  bif ((r1.toInt) != (0 : Int)) then
                    some (.pv (.int .i64 r1.toInt), [])
                  else lp_ [1, 0, 1, 4] (st67_1014 p_Traits (IntKind.i64.wrap (i + (1 : Int))) p_Name p_Version p_Uses p_Datas p_Impls p_Funcs p_Actors)
                else none)
            else none)
        else none)
    else none
  else lp_ [1, 1, 0, 1, 4] (st67_11014 p_Impls 0) := by kernel_rfl
theorem e67_1014 (p_Traits : List PV) (i : Int) (p_Name : List UInt8) (p_Version : Int) (p_Uses : List PV) (p_Datas : List PV) (p_Impls : List PV) (p_Funcs : List PV) (p_Actors : List PV) : L67_1014 p_Traits i p_Name p_Version p_Uses p_Datas p_Impls p_Funcs p_Actors =
  bif decide (i < (p_Traits.length : Int)) then
    bif decide (0 ≤ i) then
      (p_Traits[i.toNat]?).bind fun x =>
        (bif (Sh.agg [Sh.str, Sh.lst]).fits x then
          ((V 105 [.pv (.str ((x.c 0).toStr))]).bind retPV).bind fun r =>
            (bif (Sh.bool).fits r then
              bif (!r.toBool) then
                some (.pv (.int .i64 3), [])
              else ((V 108 [.pv (.lst ((x.c 1).toLst)), .pv (.bool false)]).bind retPV).bind fun r1 =>
                (bif (Sh.int .i64).fits r1 then
                  bif ((r1.toInt) != (0 : Int)) then
                    some (.pv (.int .i64 r1.toInt), [])
                  else L67_1014 p_Traits (IntKind.i64.wrap (i + (1 : Int))) p_Name p_Version p_Uses p_Datas p_Impls p_Funcs p_Actors
                else none)
            else none)
        else none)
    else none
  else L67_11014 p_Impls 0 :=
  (LV_eq pa 67 _ _).trans (f67_1014 p_Traits i p_Name p_Version p_Uses p_Datas p_Impls p_Funcs p_Actors V (LV Pr T 67))
theorem f67_11014 (p_Impls : List PV) (i : Int) (cl_ : FuncId → List Arg → Option Out) (lp_ : List Nat → AS → Option Out) : stepW Pr T cl_ lp_ 67 [1, 1, 0, 1, 4] (st67_11014 p_Impls i) =
  bif decide (i < (p_Impls.length : Int)) then
    bif decide (0 ≤ i) then
      (p_Impls[i.toNat]?).bind fun x =>
        (bif (Sh.agg [Sh.str, Sh.str, Sh.lst]).fits x then
          bif ((x.c 1).toStr == ([105, 110, 116] : List UInt8)) then
            lp_ [1, 1, 0, 1, 4, 5, 1, 1, 0, 4, 1, 1, 6] (st67_1101451104116 true p_Impls i ((x.c 0).toStr) ((x.c 1).toStr) ((x.c 2).toLst))
          else bif ((x.c 1).toStr == ([98, 111, 111, 108] : List UInt8)) then
            lp_ [1, 1, 0, 1, 4, 5, 1, 1, 0, 4, 1, 1, 6] (st67_1101451104116 true p_Impls i ((x.c 0).toStr) ((x.c 1).toStr) ((x.c 2).toLst))
          else bif ((x.c 1).toStr == ([116, 101, 120, 116] : List UInt8)) then
            lp_ [1, 1, 0, 1, 4, 5, 1, 1, 0, 4, 1, 1, 6] (st67_1101451104116 true p_Impls i ((x.c 0).toStr) ((x.c 1).toStr) ((x.c 2).toLst))
          else lp_ [1, 1, 0, 1, 4, 5, 1, 1, 0, 4, 1, 1, 6] (st67_1101451104116 ((x.c 1).toStr == ([117, 110, 105, 116] : List UInt8)) p_Impls i ((x.c 0).toStr) ((x.c 1).toStr) ((x.c 2).toLst))
        else none)
    else none
  else some (.pv (.int .i64 0), []) := by kernel_rfl
theorem e67_11014 (p_Impls : List PV) (i : Int) : L67_11014 p_Impls i =
  bif decide (i < (p_Impls.length : Int)) then
    bif decide (0 ≤ i) then
      (p_Impls[i.toNat]?).bind fun x =>
        (bif (Sh.agg [Sh.str, Sh.str, Sh.lst]).fits x then
          bif ((x.c 1).toStr == ([105, 110, 116] : List UInt8)) then
            L67_1101451104116 true p_Impls i ((x.c 0).toStr) ((x.c 1).toStr) ((x.c 2).toLst)
          else bif ((x.c 1).toStr == ([98, 111, 111, 108] : List UInt8)) then
            L67_1101451104116 true p_Impls i ((x.c 0).toStr) ((x.c 1).toStr) ((x.c 2).toLst)
          else bif ((x.c 1).toStr == ([116, 101, 120, 116] : List UInt8)) then
            L67_1101451104116 true p_Impls i ((x.c 0).toStr) ((x.c 1).toStr) ((x.c 2).toLst)
          else L67_1101451104116 ((x.c 1).toStr == ([117, 110, 105, 116] : List UInt8)) p_Impls i ((x.c 0).toStr) ((x.c 1).toStr) ((x.c 2).toLst)
        else none)
    else none
  else some (.pv (.int .i64 0), []) :=
  (LV_eq pa 67 _ _).trans (f67_11014 p_Impls i V (LV Pr T 67))
theorem f67_1101451104116 (b : Bool) (p_Impls : List PV) (i1 : Int) (v : List UInt8) (v1 : List UInt8) (v2 : List PV) (cl_ : FuncId → List Arg → Option Out) (lp_ : List Nat → AS → Option Out) : stepW Pr T cl_ lp_ 67 [1, 1, 0, 1, 4, 5, 1, 1, 0, 4, 1, 1, 6] (st67_1101451104116 b p_Impls i1 v v1 v2) =
  ((cl_ 105 [.pv (.str v)]).bind retPV).bind fun r =>
    (bif (Sh.bool).fits r then
      bif (!r.toBool) then
        some (.pv (.int .i64 3), [])
      else bif (!b) then
        ((cl_ 105 [.pv (.str v1)]).bind retPV).bind fun r1 =>
          (bif (Sh.bool).fits r1 then
            bif (!r1.toBool) then
              some (.pv (.int .i64 3), [])
            else lp_ [1, 1, 0, 1, 4, 5, 1, 1, 0, 4, 1, 1, 1, 6] (st67_11014511041116 p_Impls i1 v v1 v2)
          else none)
      else lp_ [1, 1, 0, 1, 4, 5, 1, 1, 0, 4, 1, 1, 1, 6] (st67_11014511041116 p_Impls i1 v v1 v2)
    else none) := by kernel_rfl
theorem e67_1101451104116 (b : Bool) (p_Impls : List PV) (i1 : Int) (v : List UInt8) (v1 : List UInt8) (v2 : List PV) : L67_1101451104116 b p_Impls i1 v v1 v2 =
  ((V 105 [.pv (.str v)]).bind retPV).bind fun r =>
    (bif (Sh.bool).fits r then
      bif (!r.toBool) then
        some (.pv (.int .i64 3), [])
      else bif (!b) then
        ((V 105 [.pv (.str v1)]).bind retPV).bind fun r1 =>
          (bif (Sh.bool).fits r1 then
            bif (!r1.toBool) then
              some (.pv (.int .i64 3), [])
            else L67_11014511041116 p_Impls i1 v v1 v2
          else none)
      else L67_11014511041116 p_Impls i1 v v1 v2
    else none) :=
  (LV_eq pa 67 _ _).trans (f67_1101451104116 b p_Impls i1 v v1 v2 V (LV Pr T 67))
theorem f67_11014511041116 (p_Impls : List PV) (i : Int) (v : List UInt8) (v1 : List UInt8) (v2 : List PV) (cl_ : FuncId → List Arg → Option Out) (lp_ : List Nat → AS → Option Out) : stepW Pr T cl_ lp_ 67 [1, 1, 0, 1, 4, 5, 1, 1, 0, 4, 1, 1, 1, 6] (st67_11014511041116 p_Impls i v v1 v2) =
  ((cl_ 108 [.pv (.lst v2), .pv (.bool true)]).bind retPV).bind fun r =>
    (bif (Sh.int .i64).fits r then
      bif ((r.toInt) != (0 : Int)) then
        some (.pv (.int .i64 r.toInt), [])
      else lp_ [1, 1, 0, 1, 4] (st67_11014 p_Impls (IntKind.i64.wrap (i + (1 : Int))))
    else none) := by kernel_rfl
theorem e67_11014511041116 (p_Impls : List PV) (i : Int) (v : List UInt8) (v1 : List UInt8) (v2 : List PV) : L67_11014511041116 p_Impls i v v1 v2 =
  ((V 108 [.pv (.lst v2), .pv (.bool true)]).bind retPV).bind fun r =>
    (bif (Sh.int .i64).fits r then
      bif ((r.toInt) != (0 : Int)) then
        some (.pv (.int .i64 r.toInt), [])
      else L67_11014 p_Impls (IntKind.i64.wrap (i + (1 : Int)))
    else none) :=
  (LV_eq pa 67 _ _).trans (f67_11014511041116 p_Impls i v v1 v2 V (LV Pr T 67))
/-! 68 roadstead/tree.fun -/
def st68_11014 (body : Bool) (f_Params : List PV) (f_Names : List PV) (i : Int) (f_Name : List UInt8) (f_Types : List PV) (f_Out_Kind : Int) (f_Out_Name : List UInt8) (f_Out_Args : List PV) (f_Body_Kind : Int) (f_Body_Num : Int) (f_Body_Text : List UInt8) (f_Body_Names : List PV) (f_Body_Types : List PV) (f_Body_Args : List PV) (f_Body_Arms : List PV) (f_Body_At : Int) : AS :=
  ⟨[.any, .pv (.bool body), .box 0 0, .any, .any, .any, .any, .any, .any, .any, .any, .any, .any, .any, .any, .any, .any, .any, .any, .any, .any, .any, .any, .any, .any, .any, .pv (.lst [.lst f_Params, .lst f_Names]), .pv (.int .i64 2), .pv (.int .i64 i), .any, .any, .any, .any, .any, .any, .any, .any, .any, .any, .any, .any, .any, .any, .any, .any, .any, .any, .any, .any, .any, .any, .any, .any, .any, .any, .any, .any, .any, .any, .any], ⟨[(false, [.pv (.str f_Name), .pv (.lst f_Params), .pv (.lst f_Names), .pv (.lst f_Types), .pv (.int .i64 f_Out_Kind), .pv (.str f_Out_Name), .pv (.lst f_Out_Args), .pv (.int .i64 f_Body_Kind), .pv (.int .i64 f_Body_Num), .pv (.str f_Body_Text), .pv (.lst f_Body_Names), .pv (.lst f_Body_Types), .pv (.lst f_Body_Args), .pv (.lst f_Body_Arms), .pv (.int .i64 f_Body_At)])], [], [], 0, 0⟩⟩
noncomputable def L68_11014 (body : Bool) (f_Params : List PV) (f_Names : List PV) (i : Int) (f_Name : List UInt8) (f_Types : List PV) (f_Out_Kind : Int) (f_Out_Name : List UInt8) (f_Out_Args : List PV) (f_Body_Kind : Int) (f_Body_Num : Int) (f_Body_Text : List UInt8) (f_Body_Names : List PV) (f_Body_Types : List PV) (f_Body_Args : List PV) (f_Body_Arms : List PV) (f_Body_At : Int) : Option Out := LV Pr T 68 [1, 1, 0, 1, 4] (st68_11014 body f_Params f_Names i f_Name f_Types f_Out_Kind f_Out_Name f_Out_Args f_Body_Kind f_Body_Num f_Body_Text f_Body_Names f_Body_Types f_Body_Args f_Body_Arms f_Body_At)
theorem f68 (f_Name : List UInt8) (f_Params : List PV) (f_Names : List PV) (f_Types : List PV) (f_Out_Kind : Int) (f_Out_Name : List UInt8) (f_Out_Args : List PV) (f_Body_Kind : Int) (f_Body_Num : Int) (f_Body_Text : List UInt8) (f_Body_Names : List PV) (f_Body_Types : List PV) (f_Body_Args : List PV) (f_Body_Arms : List PV) (f_Body_At : Int) (body : Bool) (cl_ : FuncId → List Arg → Option Out) (lp_ : List Nat → AS → Option Out) : runW Pr T cl_ lp_ 68 [.pv (.agg [.str f_Name, .lst f_Params, .lst f_Names, .lst f_Types, .int .i64 f_Out_Kind, .str f_Out_Name, .lst f_Out_Args, .int .i64 f_Body_Kind, .int .i64 f_Body_Num, .str f_Body_Text, .lst f_Body_Names, .lst f_Body_Types, .lst f_Body_Args, .lst f_Body_Arms, .int .i64 f_Body_At]), .pv (.bool body)] =
  ((cl_ 65 [.pv (.str f_Name)]).bind retPV).bind fun r =>
    (bif (Sh.bool).fits r then
      bif (!r.toBool) then
        some (.pv (.int .i64 3), [])
      else bif ((f_Names.length : Int) != (f_Types.length : Int)) then
        some (.pv (.int .i64 3), [])
      else lp_ [1, 1, 0, 1, 4] (st68_11014 body f_Params f_Names 0 f_Name f_Types f_Out_Kind f_Out_Name f_Out_Args f_Body_Kind f_Body_Num f_Body_Text f_Body_Names f_Body_Types f_Body_Args f_Body_Arms f_Body_At)
    else none) := by kernel_rfl
theorem e68 (f_Name : List UInt8) (f_Params : List PV) (f_Names : List PV) (f_Types : List PV) (f_Out_Kind : Int) (f_Out_Name : List UInt8) (f_Out_Args : List PV) (f_Body_Kind : Int) (f_Body_Num : Int) (f_Body_Text : List UInt8) (f_Body_Names : List PV) (f_Body_Types : List PV) (f_Body_Args : List PV) (f_Body_Arms : List PV) (f_Body_At : Int) (body : Bool) : V 68 [.pv (.agg [.str f_Name, .lst f_Params, .lst f_Names, .lst f_Types, .int .i64 f_Out_Kind, .str f_Out_Name, .lst f_Out_Args, .int .i64 f_Body_Kind, .int .i64 f_Body_Num, .str f_Body_Text, .lst f_Body_Names, .lst f_Body_Types, .lst f_Body_Args, .lst f_Body_Arms, .int .i64 f_Body_At]), .pv (.bool body)] =
  ((V 65 [.pv (.str f_Name)]).bind retPV).bind fun r =>
    (bif (Sh.bool).fits r then
      bif (!r.toBool) then
        some (.pv (.int .i64 3), [])
      else bif ((f_Names.length : Int) != (f_Types.length : Int)) then
        some (.pv (.int .i64 3), [])
      else L68_11014 body f_Params f_Names 0 f_Name f_Types f_Out_Kind f_Out_Name f_Out_Args f_Body_Kind f_Body_Num f_Body_Text f_Body_Names f_Body_Types f_Body_Args f_Body_Arms f_Body_At
    else none) :=
  (V_eq pa rfl _).trans (f68 f_Name f_Params f_Names f_Types f_Out_Kind f_Out_Name f_Out_Args f_Body_Kind f_Body_Num f_Body_Text f_Body_Names f_Body_Types f_Body_Args f_Body_Arms f_Body_At body V (LV Pr T 68))
theorem f68_11014 (body : Bool) (f_Params : List PV) (f_Names : List PV) (i : Int) (f_Name : List UInt8) (f_Types : List PV) (f_Out_Kind : Int) (f_Out_Name : List UInt8) (f_Out_Args : List PV) (f_Body_Kind : Int) (f_Body_Num : Int) (f_Body_Text : List UInt8) (f_Body_Names : List PV) (f_Body_Types : List PV) (f_Body_Args : List PV) (f_Body_Arms : List PV) (f_Body_At : Int) (cl_ : FuncId → List Arg → Option Out) (lp_ : List Nat → AS → Option Out) : stepW Pr T cl_ lp_ 68 [1, 1, 0, 1, 4] (st68_11014 body f_Params f_Names i f_Name f_Types f_Out_Kind f_Out_Name f_Out_Args f_Body_Kind f_Body_Num f_Body_Text f_Body_Names f_Body_Types f_Body_Args f_Body_Arms f_Body_At) =
  bif decide (i < (2 : Int)) then
    bif decide (0 ≤ i) then
      (([.lst f_Params, .lst f_Names] : List PV)[i.toNat]?).bind fun x =>
        (bif (Sh.lst).fits x then
          ((cl_ 106 [.pv (.lst x.toLst)]).bind retPV).bind fun r =>
            (bif (Sh.int .i64).fits r then
              bif ((r.toInt) != (0 : Int)) then
                some (.pv (.int .i64 r.toInt), [])
              else lp_ [1, 1, 0, 1, 4] (st68_11014 body f_Params f_Names (IntKind.i64.wrap (i + (1 : Int))) f_Name f_Types f_Out_Kind f_Out_Name f_Out_Args f_Body_Kind f_Body_Num f_Body_Text f_Body_Names f_Body_Types f_Body_Args f_Body_Arms f_Body_At)
            else none)
        else none)
    else none
  else bif headOk 3 f_Types then
    bif small 0 (f_Types.length) 48 then
      bif small (f_Types.length) 1 48 then
        ((cl_ 107 [.pv (.lst (f_Types ++ ([.agg [.int .i64 f_Out_Kind, .str f_Out_Name, .lst f_Out_Args]] : List PV))), .pv (.int .i64 40)]).bind retPV).bind fun r1 =>
          (bif (Sh.int .i64).fits r1 then
            bif ((r1.toInt) != (0 : Int)) then
              some (.pv (.int .i64 r1.toInt), [])
            else bif (!body) then
              ((cl_ 16 [.pv (.agg [.int .i64 f_Body_Kind, .int .i64 f_Body_Num, .str f_Body_Text, .lst f_Body_Names, .lst f_Body_Types, .lst f_Body_Args, .lst f_Body_Arms, .int .i64 f_Body_At]), .pv (.agg [.int .i64 0, .int .i64 0, .str [], .lst [], .lst [], .lst [], .lst [], .int .i64 0])]).bind retPV).bind fun r2 =>
                (bif (Sh.bool).fits r2 then
                  bif (!r2.toBool) then
                    some (.pv (.int .i64 3), [])
                  else some (.pv (.int .i64 0), [])
                else none)
            else ((cl_ 109 [.pv (.agg [.int .i64 f_Body_Kind, .int .i64 f_Body_Num, .str f_Body_Text, .lst f_Body_Names, .lst f_Body_Types, .lst f_Body_Args, .lst f_Body_Arms, .int .i64 f_Body_At]), .pv (.bool false)]).bind retPV).bind fun r3 =>
              (bif (Sh.int .i64).fits r3 then
                some (.pv (.int .i64 r3.toInt), [])
              else none)
          else none)
      else none
    else none
  else none := by kernel_rfl
theorem e68_11014 (body : Bool) (f_Params : List PV) (f_Names : List PV) (i : Int) (f_Name : List UInt8) (f_Types : List PV) (f_Out_Kind : Int) (f_Out_Name : List UInt8) (f_Out_Args : List PV) (f_Body_Kind : Int) (f_Body_Num : Int) (f_Body_Text : List UInt8) (f_Body_Names : List PV) (f_Body_Types : List PV) (f_Body_Args : List PV) (f_Body_Arms : List PV) (f_Body_At : Int) : L68_11014 body f_Params f_Names i f_Name f_Types f_Out_Kind f_Out_Name f_Out_Args f_Body_Kind f_Body_Num f_Body_Text f_Body_Names f_Body_Types f_Body_Args f_Body_Arms f_Body_At =
  bif decide (i < (2 : Int)) then
    bif decide (0 ≤ i) then
      (([.lst f_Params, .lst f_Names] : List PV)[i.toNat]?).bind fun x =>
        (bif (Sh.lst).fits x then
          ((V 106 [.pv (.lst x.toLst)]).bind retPV).bind fun r =>
            (bif (Sh.int .i64).fits r then
              bif ((r.toInt) != (0 : Int)) then
                some (.pv (.int .i64 r.toInt), [])
              else L68_11014 body f_Params f_Names (IntKind.i64.wrap (i + (1 : Int))) f_Name f_Types f_Out_Kind f_Out_Name f_Out_Args f_Body_Kind f_Body_Num f_Body_Text f_Body_Names f_Body_Types f_Body_Args f_Body_Arms f_Body_At
            else none)
        else none)
    else none
  else bif headOk 3 f_Types then
    bif small 0 (f_Types.length) 48 then
      bif small (f_Types.length) 1 48 then
        ((V 107 [.pv (.lst (f_Types ++ ([.agg [.int .i64 f_Out_Kind, .str f_Out_Name, .lst f_Out_Args]] : List PV))), .pv (.int .i64 40)]).bind retPV).bind fun r1 =>
          (bif (Sh.int .i64).fits r1 then
            bif ((r1.toInt) != (0 : Int)) then
              some (.pv (.int .i64 r1.toInt), [])
            else bif (!body) then
              ((V 16 [.pv (.agg [.int .i64 f_Body_Kind, .int .i64 f_Body_Num, .str f_Body_Text, .lst f_Body_Names, .lst f_Body_Types, .lst f_Body_Args, .lst f_Body_Arms, .int .i64 f_Body_At]), .pv (.agg [.int .i64 0, .int .i64 0, .str [], .lst [], .lst [], .lst [], .lst [], .int .i64 0])]).bind retPV).bind fun r2 =>
                (bif (Sh.bool).fits r2 then
                  bif (!r2.toBool) then
                    some (.pv (.int .i64 3), [])
                  else some (.pv (.int .i64 0), [])
                else none)
            else ((V 109 [.pv (.agg [.int .i64 f_Body_Kind, .int .i64 f_Body_Num, .str f_Body_Text, .lst f_Body_Names, .lst f_Body_Types, .lst f_Body_Args, .lst f_Body_Arms, .int .i64 f_Body_At]), .pv (.bool false)]).bind retPV).bind fun r3 =>
              (bif (Sh.int .i64).fits r3 then
                some (.pv (.int .i64 r3.toInt), [])
              else none)
          else none)
      else none
    else none
  else none :=
  (LV_eq pa 68 _ _).trans (f68_11014 body f_Params f_Names i f_Name f_Types f_Out_Kind f_Out_Name f_Out_Args f_Body_Kind f_Body_Num f_Body_Text f_Body_Names f_Body_Types f_Body_Args f_Body_Arms f_Body_At V (LV Pr T 68))
/-! 69 roadstead/tree.actor -/
theorem f69 (a_Name : List UInt8) (a_Names : List PV) (a_Types : List PV) (a_Msg_Kind : Int) (a_Msg_Name : List UInt8) (a_Msg_Args : List PV) (a_Body_Kind : Int) (a_Body_Num : Int) (a_Body_Text : List UInt8) (a_Body_Names : List PV) (a_Body_Types : List PV) (a_Body_Args : List PV) (a_Body_Arms : List PV) (a_Body_At : Int) (cl_ : FuncId → List Arg → Option Out) (lp_ : List Nat → AS → Option Out) : runW Pr T cl_ lp_ 69 [.pv (.agg [.str a_Name, .lst a_Names, .lst a_Types, .int .i64 a_Msg_Kind, .str a_Msg_Name, .lst a_Msg_Args, .int .i64 a_Body_Kind, .int .i64 a_Body_Num, .str a_Body_Text, .lst a_Body_Names, .lst a_Body_Types, .lst a_Body_Args, .lst a_Body_Arms, .int .i64 a_Body_At])] =
  ((cl_ 105 [.pv (.str a_Name)]).bind retPV).bind fun r =>
    (bif (Sh.bool).fits r then
      bif (!r.toBool) then
        some (.pv (.int .i64 3), [])
      else bif ((a_Names.length : Int) != (a_Types.length : Int)) then
        some (.pv (.int .i64 3), [])
      else ((cl_ 106 [.pv (.lst a_Names)]).bind retPV).bind fun r1 =>
        (bif (Sh.int .i64).fits r1 then
          bif ((r1.toInt) != (0 : Int)) then
            some (.pv (.int .i64 r1.toInt), [])
          else bif headOk 3 a_Types then
            bif small 0 (a_Types.length) 48 then
              bif small (a_Types.length) 1 48 then
                ((cl_ 107 [.pv (.lst (a_Types ++ ([.agg [.int .i64 a_Msg_Kind, .str a_Msg_Name, .lst a_Msg_Args]] : List PV))), .pv (.int .i64 40)]).bind retPV).bind fun r2 =>
                  (bif (Sh.int .i64).fits r2 then
                    bif ((r2.toInt) != (0 : Int)) then
                      some (.pv (.int .i64 r2.toInt), [])
                    else ((cl_ 109 [.pv (.agg [.int .i64 a_Body_Kind, .int .i64 a_Body_Num, .str a_Body_Text, .lst a_Body_Names, .lst a_Body_Types, .lst a_Body_Args, .lst a_Body_Arms, .int .i64 a_Body_At]), .pv (.bool true)]).bind retPV).bind fun r3 =>
                      (bif (Sh.int .i64).fits r3 then
                        some (.pv (.int .i64 r3.toInt), [])
                      else none)
                  else none)
              else none
            else none
          else none
        else none)
    else none) := by kernel_rfl
theorem e69 (a_Name : List UInt8) (a_Names : List PV) (a_Types : List PV) (a_Msg_Kind : Int) (a_Msg_Name : List UInt8) (a_Msg_Args : List PV) (a_Body_Kind : Int) (a_Body_Num : Int) (a_Body_Text : List UInt8) (a_Body_Names : List PV) (a_Body_Types : List PV) (a_Body_Args : List PV) (a_Body_Arms : List PV) (a_Body_At : Int) : V 69 [.pv (.agg [.str a_Name, .lst a_Names, .lst a_Types, .int .i64 a_Msg_Kind, .str a_Msg_Name, .lst a_Msg_Args, .int .i64 a_Body_Kind, .int .i64 a_Body_Num, .str a_Body_Text, .lst a_Body_Names, .lst a_Body_Types, .lst a_Body_Args, .lst a_Body_Arms, .int .i64 a_Body_At])] =
  ((V 105 [.pv (.str a_Name)]).bind retPV).bind fun r =>
    (bif (Sh.bool).fits r then
      bif (!r.toBool) then
        some (.pv (.int .i64 3), [])
      else bif ((a_Names.length : Int) != (a_Types.length : Int)) then
        some (.pv (.int .i64 3), [])
      else ((V 106 [.pv (.lst a_Names)]).bind retPV).bind fun r1 =>
        (bif (Sh.int .i64).fits r1 then
          bif ((r1.toInt) != (0 : Int)) then
            some (.pv (.int .i64 r1.toInt), [])
          else bif headOk 3 a_Types then
            bif small 0 (a_Types.length) 48 then
              bif small (a_Types.length) 1 48 then
                ((V 107 [.pv (.lst (a_Types ++ ([.agg [.int .i64 a_Msg_Kind, .str a_Msg_Name, .lst a_Msg_Args]] : List PV))), .pv (.int .i64 40)]).bind retPV).bind fun r2 =>
                  (bif (Sh.int .i64).fits r2 then
                    bif ((r2.toInt) != (0 : Int)) then
                      some (.pv (.int .i64 r2.toInt), [])
                    else ((V 109 [.pv (.agg [.int .i64 a_Body_Kind, .int .i64 a_Body_Num, .str a_Body_Text, .lst a_Body_Names, .lst a_Body_Types, .lst a_Body_Args, .lst a_Body_Arms, .int .i64 a_Body_At]), .pv (.bool true)]).bind retPV).bind fun r3 =>
                      (bif (Sh.int .i64).fits r3 then
                        some (.pv (.int .i64 r3.toInt), [])
                      else none)
                  else none)
              else none
            else none
          else none
        else none)
    else none) :=
  (V_eq pa rfl _).trans (f69 a_Name a_Names a_Types a_Msg_Kind a_Msg_Name a_Msg_Args a_Body_Kind a_Body_Num a_Body_Text a_Body_Names a_Body_Types a_Body_Args a_Body_Arms a_Body_At V (LV Pr T 69))
/-! 106 roadstead/tree.lows -/
def st106_11014 (l : List PV) (i : Int) : AS :=
  ⟨[.any, .any, .any, .any, .any, .any, .any, .any, .pv (.lst l), .pv (.int .i64 (l.length : Int)), .pv (.int .i64 i), .any, .any, .any, .any, .any, .any, .any], ⟨[], [], [], 0, 0⟩⟩
noncomputable def L106_11014 (l : List PV) (i : Int) : Option Out := LV Pr T 106 [1, 1, 0, 1, 4] (st106_11014 l i)
theorem f106 (l : List PV) (cl_ : FuncId → List Arg → Option Out) (lp_ : List Nat → AS → Option Out) : runW Pr T cl_ lp_ 106 [.pv (.lst l)] =
  bif decide ((l.length : Int) > (6 : Int)) then
    some (.pv (.int .i64 2), [])
  else lp_ [1, 1, 0, 1, 4] (st106_11014 l 0) := by kernel_rfl
theorem e106 (l : List PV) : V 106 [.pv (.lst l)] =
  bif decide ((l.length : Int) > (6 : Int)) then
    some (.pv (.int .i64 2), [])
  else L106_11014 l 0 :=
  (V_eq pa rfl _).trans (f106 l V (LV Pr T 106))
theorem f106_11014 (l : List PV) (i : Int) (cl_ : FuncId → List Arg → Option Out) (lp_ : List Nat → AS → Option Out) : stepW Pr T cl_ lp_ 106 [1, 1, 0, 1, 4] (st106_11014 l i) =
  bif decide (i < (l.length : Int)) then
    bif decide (0 ≤ i) then
      (l[i.toNat]?).bind fun x =>
        (bif (Sh.str).fits x then
          ((cl_ 65 [.pv (.str x.toStr)]).bind retPV).bind fun r =>
            (bif (Sh.bool).fits r then
              bif (!r.toBool) then
                some (.pv (.int .i64 3), [])
              else lp_ [1, 1, 0, 1, 4] (st106_11014 l (IntKind.i64.wrap (i + (1 : Int))))
            else none)
        else none)
    else none
  else some (.pv (.int .i64 0), []) := by kernel_rfl
theorem e106_11014 (l : List PV) (i : Int) : L106_11014 l i =
  bif decide (i < (l.length : Int)) then
    bif decide (0 ≤ i) then
      (l[i.toNat]?).bind fun x =>
        (bif (Sh.str).fits x then
          ((V 65 [.pv (.str x.toStr)]).bind retPV).bind fun r =>
            (bif (Sh.bool).fits r then
              bif (!r.toBool) then
                some (.pv (.int .i64 3), [])
              else L106_11014 l (IntKind.i64.wrap (i + (1 : Int)))
            else none)
        else none)
    else none
  else some (.pv (.int .i64 0), []) :=
  (LV_eq pa 106 _ _).trans (f106_11014 l i V (LV Pr T 106))
/-! 107 roadstead/tree.types -/
def st107_1014 (deep : Int) (l : List PV) (i : Int) : AS :=
  ⟨[.any, .pv (.int .i64 deep), .any, .any, .any, .any, .any, .any, .pv (.lst l), .pv (.int .i64 (l.length : Int)), .pv (.int .i64 i), .any, .any, .any, .any, .any, .any, .any, .any, .any, .any], ⟨[], [], [], 0, 0⟩⟩
noncomputable def L107_1014 (deep : Int) (l : List PV) (i : Int) : Option Out := LV Pr T 107 [1, 0, 1, 4] (st107_1014 deep l i)
theorem f107 (l : List PV) (deep : Int) (cl_ : FuncId → List Arg → Option Out) (lp_ : List Nat → AS → Option Out) : runW Pr T cl_ lp_ 107 [.pv (.lst l), .pv (.int .i64 deep)] =
  lp_ [1, 0, 1, 4] (st107_1014 deep l 0) := by kernel_rfl
theorem e107 (l : List PV) (deep : Int) : V 107 [.pv (.lst l), .pv (.int .i64 deep)] =
  L107_1014 deep l 0 :=
  (V_eq pa rfl _).trans (f107 l deep V (LV Pr T 107))
theorem f107_1014 (deep : Int) (l : List PV) (i : Int) (cl_ : FuncId → List Arg → Option Out) (lp_ : List Nat → AS → Option Out) : stepW Pr T cl_ lp_ 107 [1, 0, 1, 4] (st107_1014 deep l i) =
  bif decide (i < (l.length : Int)) then
    bif decide (0 ≤ i) then
      (l[i.toNat]?).bind fun x =>
        (bif (Sh.agg [Sh.int .i64, Sh.str, Sh.lst]).fits x then
          ((cl_ 132 [.pv (.agg [.int .i64 ((x.c 0).toInt), .str ((x.c 1).toStr), .lst ((x.c 2).toLst)]), .pv (.int .i64 deep)]).bind retPV).bind fun r =>
            (bif (Sh.int .i64).fits r then
              bif ((r.toInt) != (0 : Int)) then
                some (.pv (.int .i64 r.toInt), [])
              else lp_ [1, 0, 1, 4] (st107_1014 deep l (IntKind.i64.wrap (i + (1 : Int))))
            else none)
        else none)
    else none
  else some (.pv (.int .i64 0), []) := by kernel_rfl
theorem e107_1014 (deep : Int) (l : List PV) (i : Int) : L107_1014 deep l i =
  bif decide (i < (l.length : Int)) then
    bif decide (0 ≤ i) then
      (l[i.toNat]?).bind fun x =>
        (bif (Sh.agg [Sh.int .i64, Sh.str, Sh.lst]).fits x then
          ((V 132 [.pv (.agg [.int .i64 ((x.c 0).toInt), .str ((x.c 1).toStr), .lst ((x.c 2).toLst)]), .pv (.int .i64 deep)]).bind retPV).bind fun r =>
            (bif (Sh.int .i64).fits r then
              bif ((r.toInt) != (0 : Int)) then
                some (.pv (.int .i64 r.toInt), [])
              else L107_1014 deep l (IntKind.i64.wrap (i + (1 : Int)))
            else none)
        else none)
    else none
  else some (.pv (.int .i64 0), []) :=
  (LV_eq pa 107 _ _).trans (f107_1014 deep l i V (LV Pr T 107))
/-! 108 roadstead/tree.funs -/
def st108_11014 (body : Bool) (l : List PV) (i : Int) : AS :=
  ⟨[.any, .pv (.bool body), .any, .any, .any, .any, .any, .any, .any, .any, .any, .pv (.lst l), .pv (.int .i64 (l.length : Int)), .pv (.int .i64 i), .any, .any, .any, .any, .any, .any, .any, .any, .any, .any], ⟨[], [], [], 0, 0⟩⟩
noncomputable def L108_11014 (body : Bool) (l : List PV) (i : Int) : Option Out := LV Pr T 108 [1, 1, 0, 1, 4] (st108_11014 body l i)
theorem f108 (l : List PV) (body : Bool) (cl_ : FuncId → List Arg → Option Out) (lp_ : List Nat → AS → Option Out) : runW Pr T cl_ lp_ 108 [.pv (.lst l), .pv (.bool body)] =
  bif decide ((l.length : Int) > (12 : Int)) then
    some (.pv (.int .i64 2), [])
  else lp_ [1, 1, 0, 1, 4] (st108_11014 body l 0) := by kernel_rfl
theorem e108 (l : List PV) (body : Bool) : V 108 [.pv (.lst l), .pv (.bool body)] =
  bif decide ((l.length : Int) > (12 : Int)) then
    some (.pv (.int .i64 2), [])
  else L108_11014 body l 0 :=
  (V_eq pa rfl _).trans (f108 l body V (LV Pr T 108))
theorem f108_11014 (body : Bool) (l : List PV) (i : Int) (cl_ : FuncId → List Arg → Option Out) (lp_ : List Nat → AS → Option Out) : stepW Pr T cl_ lp_ 108 [1, 1, 0, 1, 4] (st108_11014 body l i) =
  bif decide (i < (l.length : Int)) then
    bif decide (0 ≤ i) then
      (l[i.toNat]?).bind fun x =>
        (bif (Sh.agg [Sh.str, Sh.lst, Sh.lst, Sh.lst, Sh.int .i64, Sh.str, Sh.lst, Sh.int .i64, Sh.int .i64, Sh.str, Sh.lst, Sh.lst, Sh.lst, Sh.lst, Sh.int .i64]).fits x then
          ((cl_ 68 [.pv (.agg [.str ((x.c 0).toStr), .lst ((x.c 1).toLst), .lst ((x.c 2).toLst), .lst ((x.c 3).toLst), .int .i64 ((x.c 4).toInt), .str ((x.c 5).toStr), .lst ((x.c 6).toLst), .int .i64 ((x.c 7).toInt), .int .i64 ((x.c 8).toInt), .str ((x.c 9).toStr), .lst ((x.c 10).toLst), .lst ((x.c 11).toLst), .lst ((x.c 12).toLst), .lst ((x.c 13).toLst), .int .i64 ((x.c 14).toInt)]), .pv (.bool body)]).bind retPV).bind fun r =>
            (bif (Sh.int .i64).fits r then
              bif ((r.toInt) != (0 : Int)) then
                some (.pv (.int .i64 r.toInt), [])
              else lp_ [1, 1, 0, 1, 4] (st108_11014 body l (IntKind.i64.wrap (i + (1 : Int))))
            else none)
        else none)
    else none
  else some (.pv (.int .i64 0), []) := by kernel_rfl
theorem e108_11014 (body : Bool) (l : List PV) (i : Int) : L108_11014 body l i =
  bif decide (i < (l.length : Int)) then
    bif decide (0 ≤ i) then
      (l[i.toNat]?).bind fun x =>
        (bif (Sh.agg [Sh.str, Sh.lst, Sh.lst, Sh.lst, Sh.int .i64, Sh.str, Sh.lst, Sh.int .i64, Sh.int .i64, Sh.str, Sh.lst, Sh.lst, Sh.lst, Sh.lst, Sh.int .i64]).fits x then
          ((V 68 [.pv (.agg [.str ((x.c 0).toStr), .lst ((x.c 1).toLst), .lst ((x.c 2).toLst), .lst ((x.c 3).toLst), .int .i64 ((x.c 4).toInt), .str ((x.c 5).toStr), .lst ((x.c 6).toLst), .int .i64 ((x.c 7).toInt), .int .i64 ((x.c 8).toInt), .str ((x.c 9).toStr), .lst ((x.c 10).toLst), .lst ((x.c 11).toLst), .lst ((x.c 12).toLst), .lst ((x.c 13).toLst), .int .i64 ((x.c 14).toInt)]), .pv (.bool body)]).bind retPV).bind fun r =>
            (bif (Sh.int .i64).fits r then
              bif ((r.toInt) != (0 : Int)) then
                some (.pv (.int .i64 r.toInt), [])
              else L108_11014 body l (IntKind.i64.wrap (i + (1 : Int)))
            else none)
        else none)
    else none
  else some (.pv (.int .i64 0), []) :=
  (LV_eq pa 108 _ _).trans (f108_11014 body l i V (LV Pr T 108))
/-! 109 roadstead/tree.whole -/
theorem f109 (e_Kind : Int) (e_Num : Int) (e_Text : List UInt8) (e_Names : List PV) (e_Types : List PV) (e_Args : List PV) (e_Arms : List PV) (e_At : Int) (may : Bool) (cl_ : FuncId → List Arg → Option Out) (lp_ : List Nat → AS → Option Out) : runW Pr T cl_ lp_ 109 [.pv (.agg [.int .i64 e_Kind, .int .i64 e_Num, .str e_Text, .lst e_Names, .lst e_Types, .lst e_Args, .lst e_Arms, .int .i64 e_At]), .pv (.bool may)] =
  ((cl_ 38 [.pv (.agg [.int .i64 e_Kind, .int .i64 e_Num, .str e_Text, .lst e_Names, .lst e_Types, .lst e_Args, .lst e_Arms, .int .i64 e_At])]).bind retPV).bind fun r =>
    (bif (Sh.int .i64).fits r then
      bif decide ((r.toInt) > (400 : Int)) then
        some (.pv (.int .i64 2), [])
      else ((cl_ 133 [.pv (.agg [.int .i64 e_Kind, .int .i64 e_Num, .str e_Text, .lst e_Names, .lst e_Types, .lst e_Args, .lst e_Arms, .int .i64 e_At])]).bind retPV).bind fun r1 =>
        (bif (Sh.int .i64).fits r1 then
          bif decide ((r1.toInt) > (40 : Int)) then
            some (.pv (.int .i64 2), [])
          else ((cl_ 134 [.pv (.agg [.int .i64 e_Kind, .int .i64 e_Num, .str e_Text, .lst e_Names, .lst e_Types, .lst e_Args, .lst e_Arms, .int .i64 e_At]), .pv (.bool may)]).bind retPV).bind fun r2 =>
            (bif (Sh.int .i64).fits r2 then
              some (.pv (.int .i64 r2.toInt), [])
            else none)
        else none)
    else none) := by kernel_rfl
theorem e109 (e_Kind : Int) (e_Num : Int) (e_Text : List UInt8) (e_Names : List PV) (e_Types : List PV) (e_Args : List PV) (e_Arms : List PV) (e_At : Int) (may : Bool) : V 109 [.pv (.agg [.int .i64 e_Kind, .int .i64 e_Num, .str e_Text, .lst e_Names, .lst e_Types, .lst e_Args, .lst e_Arms, .int .i64 e_At]), .pv (.bool may)] =
  ((V 38 [.pv (.agg [.int .i64 e_Kind, .int .i64 e_Num, .str e_Text, .lst e_Names, .lst e_Types, .lst e_Args, .lst e_Arms, .int .i64 e_At])]).bind retPV).bind fun r =>
    (bif (Sh.int .i64).fits r then
      bif decide ((r.toInt) > (400 : Int)) then
        some (.pv (.int .i64 2), [])
      else ((V 133 [.pv (.agg [.int .i64 e_Kind, .int .i64 e_Num, .str e_Text, .lst e_Names, .lst e_Types, .lst e_Args, .lst e_Arms, .int .i64 e_At])]).bind retPV).bind fun r1 =>
        (bif (Sh.int .i64).fits r1 then
          bif decide ((r1.toInt) > (40 : Int)) then
            some (.pv (.int .i64 2), [])
          else ((V 134 [.pv (.agg [.int .i64 e_Kind, .int .i64 e_Num, .str e_Text, .lst e_Names, .lst e_Types, .lst e_Args, .lst e_Arms, .int .i64 e_At]), .pv (.bool may)]).bind retPV).bind fun r2 =>
            (bif (Sh.int .i64).fits r2 then
              some (.pv (.int .i64 r2.toInt), [])
            else none)
        else none)
    else none) :=
  (V_eq pa rfl _).trans (f109 e_Kind e_Num e_Text e_Names e_Types e_Args e_Arms e_At may V (LV Pr T 109))
/-! 132 roadstead/tree.typ -/
def st132_111101416 (deep : Int) (t_Kind : Int) (b : Bool) (t_Name : List UInt8) (t_Args : List PV) : AS :=
  ⟨[.any, .pv (.int .i64 deep), .box 0 0, .any, .any, .pv (.int .i64 0), .pv (.int .i64 0), .pv (.bool false), .any, .any, .any, .pv (.int .i64 t_Kind), .pv (.bool b), .any, .any, .any, .any, .any, .any, .any, .any, .any, .any, .any, .any, .any, .any, .any, .any, .any, .any, .any, .any, .any, .any, .any, .any, .any, .any, .any, .any, .any, .any, .any, .any, .any, .any, .any, .any, .any, .any, .any, .any, .any, .any, .any, .any, .any, .any, .any, .any, .any, .any, .any, .any, .any, .any, .any, .any, .any, .any, .any, .any, .any, .any, .any, .any, .any, .any, .any, .any, .any, .any, .any, .any, .any, .any, .any, .any, .any, .any], ⟨[(false, [.pv (.int .i64 t_Kind), .pv (.str t_Name), .pv (.lst t_Args)])], [], [], 0, 0⟩⟩
noncomputable def L132_111101416 (deep : Int) (t_Kind : Int) (b : Bool) (t_Name : List UInt8) (t_Args : List PV) : Option Out := LV Pr T 132 [1, 1, 1, 1, 0, 1, 4, 1, 6] (st132_111101416 deep t_Kind b t_Name t_Args)
def st132_111116 (deep : Int) (i1 : Int) (i : Int) (b : Bool) (t_Kind : Int) (t_Name : List UInt8) (t_Args : List PV) : AS :=
  ⟨[.any, .pv (.int .i64 deep), .box 0 0, .any, .any, .pv (.int .i64 i1), .pv (.int .i64 i), .pv (.bool b), .any, .any, .any, .any, .any, .any, .any, .any, .any, .any, .any, .any, .any, .any, .any, .any, .any, .any, .any, .any, .any, .any, .any, .any, .any, .any, .any, .any, .any, .any, .any, .any, .any, .any, .any, .any, .any, .any, .any, .any, .any, .any, .any, .any, .any, .any, .any, .any, .any, .any, .any, .any, .any, .any, .any, .any, .any, .any, .any, .any, .any, .any, .any, .any, .any, .any, .any, .any, .any, .any, .any, .any, .any, .any, .any, .any, .any, .any, .any, .any, .any, .any, .any], ⟨[(false, [.pv (.int .i64 t_Kind), .pv (.str t_Name), .pv (.lst t_Args)])], [], [], 0, 0⟩⟩
noncomputable def L132_111116 (deep : Int) (i1 : Int) (i : Int) (b : Bool) (t_Kind : Int) (t_Name : List UInt8) (t_Args : List PV) : Option Out := LV Pr T 132 [1, 1, 1, 1, 1, 6] (st132_111116 deep i1 i b t_Kind t_Name t_Args)
def st132_11111116 (deep : Int) (t_Kind : Int) (t_Name : List UInt8) (t_Args : List PV) : AS :=
  ⟨[.any, .pv (.int .i64 deep), .box 0 0, .any, .any, .any, .any, .any, .any, .any, .any, .any, .any, .any, .any, .any, .any, .any, .any, .any, .any, .any, .any, .any, .any, .any, .any, .any, .any, .any, .any, .any, .any, .any, .any, .any, .any, .any, .any, .any, .any, .any, .any, .any, .any, .any, .any, .any, .any, .any, .any, .any, .any, .any, .any, .any, .any, .any, .any, .any, .any, .any, .any, .any, .any, .any, .any, .any, .any, .any, .any, .any, .any, .any, .any, .any, .any, .any, .any, .any, .any, .any, .any, .any, .any, .any, .any, .any, .any, .any, .any], ⟨[(false, [.pv (.int .i64 t_Kind), .pv (.str t_Name), .pv (.lst t_Args)])], [], [], 0, 0⟩⟩
noncomputable def L132_11111116 (deep : Int) (t_Kind : Int) (t_Name : List UInt8) (t_Args : List PV) : Option Out := LV Pr T 132 [1, 1, 1, 1, 1, 1, 1, 6] (st132_11111116 deep t_Kind t_Name t_Args)
theorem f132 (t_Kind : Int) (t_Name : List UInt8) (t_Args : List PV) (deep : Int) (cl_ : FuncId → List Arg → Option Out) (lp_ : List Nat → AS → Option Out) : runW Pr T cl_ lp_ 132 [.pv (.agg [.int .i64 t_Kind, .str t_Name, .lst t_Args]), .pv (.int .i64 deep)] =
  bif decide (deep < (1 : Int)) then
    some (.pv (.int .i64 2), [])
  else bif (t_Kind == (1 : Int)) then
    lp_ [1, 1, 1, 1, 0, 1, 4, 1, 6] (st132_111101416 deep t_Kind (t_Kind == (1 : Int)) t_Name t_Args)
  else bif (t_Kind == (2 : Int)) then
    lp_ [1, 1, 1, 1, 0, 1, 4, 1, 6] (st132_111101416 deep t_Kind (t_Kind == (2 : Int)) t_Name t_Args)
  else bif (t_Kind == (3 : Int)) then
    lp_ [1, 1, 1, 1, 0, 1, 4, 1, 6] (st132_111101416 deep t_Kind (t_Kind == (3 : Int)) t_Name t_Args)
  else lp_ [1, 1, 1, 1, 0, 1, 4, 1, 6] (st132_111101416 deep t_Kind (t_Kind == (4 : Int)) t_Name t_Args) := by kernel_rfl
theorem e132 (t_Kind : Int) (t_Name : List UInt8) (t_Args : List PV) (deep : Int) : V 132 [.pv (.agg [.int .i64 t_Kind, .str t_Name, .lst t_Args]), .pv (.int .i64 deep)] =
  bif decide (deep < (1 : Int)) then
    some (.pv (.int .i64 2), [])
  else bif (t_Kind == (1 : Int)) then
    L132_111101416 deep t_Kind (t_Kind == (1 : Int)) t_Name t_Args
  else bif (t_Kind == (2 : Int)) then
    L132_111101416 deep t_Kind (t_Kind == (2 : Int)) t_Name t_Args
  else bif (t_Kind == (3 : Int)) then
    L132_111101416 deep t_Kind (t_Kind == (3 : Int)) t_Name t_Args
  else L132_111101416 deep t_Kind (t_Kind == (4 : Int)) t_Name t_Args :=
  (V_eq pa rfl _).trans (f132 t_Kind t_Name t_Args deep V (LV Pr T 132))
theorem f132_111101416 (deep : Int) (t_Kind : Int) (b : Bool) (t_Name : List UInt8) (t_Args : List PV) (cl_ : FuncId → List Arg → Option Out) (lp_ : List Nat → AS → Option Out) : stepW Pr T cl_ lp_ 132 [1, 1, 1, 1, 0, 1, 4, 1, 6] (st132_111101416 deep t_Kind b t_Name t_Args) =
  bif b then
    lp_ [1, 1, 1, 1, 1, 6] (st132_111116 deep 0 0 false t_Kind t_Name t_Args)
  else bif (t_Kind == (5 : Int)) then
    ((cl_ 65 [.pv (.str t_Name)]).bind retPV).bind fun r =>
      (bif (Sh.bool).fits r then
        bif r.toBool then
          lp_ [1, 1, 1, 1, 1, 6] (st132_111116 deep 0 0 true t_Kind t_Name t_Args)
        else lp_ [1, 1, 1, 1, 1, 6] (st132_111116 deep 0 0 (t_Name == ([115, 101, 108, 102] : List UInt8)) t_Kind t_Name t_Args)
      else none)
  else bif (t_Kind == (6 : Int)) then
    ((cl_ 105 [.pv (.str t_Name)]).bind retPV).bind fun r1 =>
      (bif (Sh.bool).fits r1 then
        bif r1.toBool then
          bif (!(t_Name == ([82, 101, 102] : List UInt8))) then
            lp_ [1, 1, 1, 1, 1, 6] (st132_111116 deep 0 6 (!(t_Name == ([67, 101, 108, 108] : List UInt8))) t_Kind t_Name t_Args)
          else lp_ [1, 1, 1, 1, 1, 6] (st132_111116 deep 0 6 false t_Kind t_Name t_Args)
        else lp_ [1, 1, 1, 1, 1, 6] (st132_111116 deep 0 6 false t_Kind t_Name t_Args)
      else none)
  else bif (t_Kind == (7 : Int)) then
    lp_ [1, 1, 1, 1, 1, 6] (st132_111116 deep 1 7 false t_Kind t_Name t_Args)
  else bif (t_Kind == (8 : Int)) then
    bif (t_Kind == (8 : Int)) then
      lp_ [1, 1, 1, 1, 1, 6] (st132_111116 deep 1 1 false t_Kind t_Name t_Args)
    else some (.pv (.int .i64 3), [])
  else bif (t_Kind == (9 : Int)) then
    lp_ [1, 1, 1, 1, 1, 6] (st132_111116 deep 1 1 false t_Kind t_Name t_Args)
  else some (.pv (.int .i64 3), []) := by kernel_rfl
theorem e132_111101416 (deep : Int) (t_Kind : Int) (b : Bool) (t_Name : List UInt8) (t_Args : List PV) : L132_111101416 deep t_Kind b t_Name t_Args =
  bif b then
    L132_111116 deep 0 0 false t_Kind t_Name t_Args
  else bif (t_Kind == (5 : Int)) then
    ((V 65 [.pv (.str t_Name)]).bind retPV).bind fun r =>
      (bif (Sh.bool).fits r then
        bif r.toBool then
          L132_111116 deep 0 0 true t_Kind t_Name t_Args
        else L132_111116 deep 0 0 (t_Name == ([115, 101, 108, 102] : List UInt8)) t_Kind t_Name t_Args
      else none)
  else bif (t_Kind == (6 : Int)) then
    ((V 105 [.pv (.str t_Name)]).bind retPV).bind fun r1 =>
      (bif (Sh.bool).fits r1 then
        bif r1.toBool then
          bif (!(t_Name == ([82, 101, 102] : List UInt8))) then
            L132_111116 deep 0 6 (!(t_Name == ([67, 101, 108, 108] : List UInt8))) t_Kind t_Name t_Args
          else L132_111116 deep 0 6 false t_Kind t_Name t_Args
        else L132_111116 deep 0 6 false t_Kind t_Name t_Args
      else none)
  else bif (t_Kind == (7 : Int)) then
    L132_111116 deep 1 7 false t_Kind t_Name t_Args
  else bif (t_Kind == (8 : Int)) then
    bif (t_Kind == (8 : Int)) then
      L132_111116 deep 1 1 false t_Kind t_Name t_Args
    else some (.pv (.int .i64 3), [])
  else bif (t_Kind == (9 : Int)) then
    L132_111116 deep 1 1 false t_Kind t_Name t_Args
  else some (.pv (.int .i64 3), []) :=
  (LV_eq pa 132 _ _).trans (f132_111101416 deep t_Kind b t_Name t_Args V (LV Pr T 132))
theorem f132_111116 (deep : Int) (i1 : Int) (i : Int) (b : Bool) (t_Kind : Int) (t_Name : List UInt8) (t_Args : List PV) (cl_ : FuncId → List Arg → Option Out) (lp_ : List Nat → AS → Option Out) : stepW Pr T cl_ lp_ 132 [1, 1, 1, 1, 1, 6] (st132_111116 deep i1 i b t_Kind t_Name t_Args) =
  bif decide ((t_Args.length : Int) > (7 : Int)) then
    some (.pv (.int .i64 2), [])
  else bif decide ((t_Args.length : Int) < i1) then
    some (.pv (.int .i64 3), [])
  else bif decide ((t_Args.length : Int) > i) then
    some (.pv (.int .i64 3), [])
  else bif (!b) then
    bif (!(t_Name == ([] : List UInt8))) then
      some (.pv (.int .i64 3), [])
    else bif (!b) then
      bif (t_Kind == (5 : Int)) then
        some (.pv (.int .i64 3), [])
      else bif (t_Kind == (6 : Int)) then
        some (.pv (.int .i64 3), [])
      else lp_ [1, 1, 1, 1, 1, 1, 1, 6] (st132_11111116 deep t_Kind t_Name t_Args)
    else lp_ [1, 1, 1, 1, 1, 1, 1, 6] (st132_11111116 deep t_Kind t_Name t_Args)
  else bif (!b) then
    bif (t_Kind == (5 : Int)) then
      some (.pv (.int .i64 3), [])
    else bif (t_Kind == (6 : Int)) then
      some (.pv (.int .i64 3), [])
    else lp_ [1, 1, 1, 1, 1, 1, 1, 6] (st132_11111116 deep t_Kind t_Name t_Args)
  else lp_ [1, 1, 1, 1, 1, 1, 1, 6] (st132_11111116 deep t_Kind t_Name t_Args) := by kernel_rfl
theorem e132_111116 (deep : Int) (i1 : Int) (i : Int) (b : Bool) (t_Kind : Int) (t_Name : List UInt8) (t_Args : List PV) : L132_111116 deep i1 i b t_Kind t_Name t_Args =
  bif decide ((t_Args.length : Int) > (7 : Int)) then
    some (.pv (.int .i64 2), [])
  else bif decide ((t_Args.length : Int) < i1) then
    some (.pv (.int .i64 3), [])
  else bif decide ((t_Args.length : Int) > i) then
    some (.pv (.int .i64 3), [])
  else bif (!b) then
    bif (!(t_Name == ([] : List UInt8))) then
      some (.pv (.int .i64 3), [])
    else bif (!b) then
      bif (t_Kind == (5 : Int)) then
        some (.pv (.int .i64 3), [])
      else bif (t_Kind == (6 : Int)) then
        some (.pv (.int .i64 3), [])
      else L132_11111116 deep t_Kind t_Name t_Args
    else L132_11111116 deep t_Kind t_Name t_Args
  else bif (!b) then
    bif (t_Kind == (5 : Int)) then
      some (.pv (.int .i64 3), [])
    else bif (t_Kind == (6 : Int)) then
      some (.pv (.int .i64 3), [])
    else L132_11111116 deep t_Kind t_Name t_Args
  else L132_11111116 deep t_Kind t_Name t_Args :=
  (LV_eq pa 132 _ _).trans (f132_111116 deep i1 i b t_Kind t_Name t_Args V (LV Pr T 132))
theorem f132_11111116 (deep : Int) (t_Kind : Int) (t_Name : List UInt8) (t_Args : List PV) (cl_ : FuncId → List Arg → Option Out) (lp_ : List Nat → AS → Option Out) : stepW Pr T cl_ lp_ 132 [1, 1, 1, 1, 1, 1, 1, 6] (st132_11111116 deep t_Kind t_Name t_Args) =
  ((cl_ 107 [.pv (.lst t_Args), .pv (.int .i64 (IntKind.i64.wrap (deep - (1 : Int))))]).bind retPV).bind fun r =>
    (bif (Sh.int .i64).fits r then
      some (.pv (.int .i64 r.toInt), [])
    else none) := by kernel_rfl
theorem e132_11111116 (deep : Int) (t_Kind : Int) (t_Name : List UInt8) (t_Args : List PV) : L132_11111116 deep t_Kind t_Name t_Args =
  ((V 107 [.pv (.lst t_Args), .pv (.int .i64 (IntKind.i64.wrap (deep - (1 : Int))))]).bind retPV).bind fun r =>
    (bif (Sh.int .i64).fits r then
      some (.pv (.int .i64 r.toInt), [])
    else none) :=
  (LV_eq pa 132 _ _).trans (f132_11111116 deep t_Kind t_Name t_Args V (LV Pr T 132))
/-! 133 roadstead/tree.Deep -/
def st133_11014 (i : Int) (e_Args : List PV) (i1 : Int) (e_Kind : Int) (e_Num : Int) (e_Text : List UInt8) (e_Names : List PV) (e_Types : List PV) (e_Arms : List PV) (e_At : Int) : AS :=
  ⟨[.any, .box 0 0, .any, .pv (.int .i64 i), .any, .any, .any, .any, .any, .pv (.lst e_Args), .pv (.int .i64 (e_Args.length : Int)), .pv (.int .i64 i1), .any, .any, .any, .any, .any, .any, .any, .any, .any, .any, .any, .any, .any, .any, .any, .any, .any, .any, .any, .any, .any, .any, .any, .any, .any, .any], ⟨[(false, [.pv (.int .i64 e_Kind), .pv (.int .i64 e_Num), .pv (.str e_Text), .pv (.lst e_Names), .pv (.lst e_Types), .pv (.lst e_Args), .pv (.lst e_Arms), .pv (.int .i64 e_At)])], [], [], 0, 0⟩⟩
noncomputable def L133_11014 (i : Int) (e_Args : List PV) (i1 : Int) (e_Kind : Int) (e_Num : Int) (e_Text : List UInt8) (e_Names : List PV) (e_Types : List PV) (e_Arms : List PV) (e_At : Int) : Option Out := LV Pr T 133 [1, 1, 0, 1, 4] (st133_11014 i e_Args i1 e_Kind e_Num e_Text e_Names e_Types e_Arms e_At)
def st133_111014 (i1 : Int) (e_Arms : List PV) (i : Int) : AS :=
  ⟨[.any, .any, .any, .pv (.int .i64 i1), .any, .any, .any, .any, .any, .any, .any, .any, .any, .any, .any, .any, .any, .any, .any, .any, .any, .pv (.lst e_Arms), .pv (.int .i64 (e_Arms.length : Int)), .pv (.int .i64 i), .any, .any, .any, .any, .any, .any, .any, .any, .any, .any, .any, .any, .any, .any], ⟨[], [], [], 0, 0⟩⟩
noncomputable def L133_111014 (i1 : Int) (e_Arms : List PV) (i : Int) : Option Out := LV Pr T 133 [1, 1, 1, 0, 1, 4] (st133_111014 i1 e_Arms i)
theorem f133 (e_Kind : Int) (e_Num : Int) (e_Text : List UInt8) (e_Names : List PV) (e_Types : List PV) (e_Args : List PV) (e_Arms : List PV) (e_At : Int) (cl_ : FuncId → List Arg → Option Out) (lp_ : List Nat → AS → Option Out) : runW Pr T cl_ lp_ 133 [.pv (.agg [.int .i64 e_Kind, .int .i64 e_Num, .str e_Text, .lst e_Names, .lst e_Types, .lst e_Args, .lst e_Arms, .int .i64 e_At])] =
  lp_ [1, 1, 0, 1, 4] (st133_11014 0 e_Args 0 e_Kind e_Num e_Text e_Names e_Types e_Arms e_At) := by kernel_rfl
theorem e133 (e_Kind : Int) (e_Num : Int) (e_Text : List UInt8) (e_Names : List PV) (e_Types : List PV) (e_Args : List PV) (e_Arms : List PV) (e_At : Int) : V 133 [.pv (.agg [.int .i64 e_Kind, .int .i64 e_Num, .str e_Text, .lst e_Names, .lst e_Types, .lst e_Args, .lst e_Arms, .int .i64 e_At])] =
  L133_11014 0 e_Args 0 e_Kind e_Num e_Text e_Names e_Types e_Arms e_At :=
  (V_eq pa rfl _).trans (f133 e_Kind e_Num e_Text e_Names e_Types e_Args e_Arms e_At V (LV Pr T 133))
theorem f133_11014 (i : Int) (e_Args : List PV) (i1 : Int) (e_Kind : Int) (e_Num : Int) (e_Text : List UInt8) (e_Names : List PV) (e_Types : List PV) (e_Arms : List PV) (e_At : Int) (cl_ : FuncId → List Arg → Option Out) (lp_ : List Nat → AS → Option Out) : stepW Pr T cl_ lp_ 133 [1, 1, 0, 1, 4] (st133_11014 i e_Args i1 e_Kind e_Num e_Text e_Names e_Types e_Arms e_At) =
  bif decide (i1 < (e_Args.length : Int)) then
    bif decide (0 ≤ i1) then
      (e_Args[i1.toNat]?).bind fun x =>
        (bif (Sh.agg [Sh.int .i64, Sh.int .i64, Sh.str, Sh.lst, Sh.lst, Sh.lst, Sh.lst, Sh.int .i64]).fits x then
          ((cl_ 133 [.pv (.agg [.int .i64 ((x.c 0).toInt), .int .i64 ((x.c 1).toInt), .str ((x.c 2).toStr), .lst ((x.c 3).toLst), .lst ((x.c 4).toLst), .lst ((x.c 5).toLst), .lst ((x.c 6).toLst), .int .i64 ((x.c 7).toInt)])]).bind retPV).bind fun r =>
            (bif (Sh.int .i64).fits r then
              lp_ [1, 1, 0, 1, 4] (st133_11014 (bif decide ((r.toInt) > i) then (r.toInt) else i) e_Args (IntKind.i64.wrap (i1 + (1 : Int))) e_Kind e_Num e_Text e_Names e_Types e_Arms e_At)
            else none)
        else none)
    else none
  else lp_ [1, 1, 1, 0, 1, 4] (st133_111014 i e_Arms 0) := by kernel_rfl
theorem e133_11014 (i : Int) (e_Args : List PV) (i1 : Int) (e_Kind : Int) (e_Num : Int) (e_Text : List UInt8) (e_Names : List PV) (e_Types : List PV) (e_Arms : List PV) (e_At : Int) : L133_11014 i e_Args i1 e_Kind e_Num e_Text e_Names e_Types e_Arms e_At =
  bif decide (i1 < (e_Args.length : Int)) then
    bif decide (0 ≤ i1) then
      (e_Args[i1.toNat]?).bind fun x =>
        (bif (Sh.agg [Sh.int .i64, Sh.int .i64, Sh.str, Sh.lst, Sh.lst, Sh.lst, Sh.lst, Sh.int .i64]).fits x then
          ((V 133 [.pv (.agg [.int .i64 ((x.c 0).toInt), .int .i64 ((x.c 1).toInt), .str ((x.c 2).toStr), .lst ((x.c 3).toLst), .lst ((x.c 4).toLst), .lst ((x.c 5).toLst), .lst ((x.c 6).toLst), .int .i64 ((x.c 7).toInt)])]).bind retPV).bind fun r =>
            (bif (Sh.int .i64).fits r then
              L133_11014 (bif decide ((r.toInt) > i) then (r.toInt) else i) e_Args (IntKind.i64.wrap (i1 + (1 : Int))) e_Kind e_Num e_Text e_Names e_Types e_Arms e_At
            else none)
        else none)
    else none
  else L133_111014 i e_Arms 0 :=
  (LV_eq pa 133 _ _).trans (f133_11014 i e_Args i1 e_Kind e_Num e_Text e_Names e_Types e_Arms e_At V (LV Pr T 133))
theorem f133_111014 (i1 : Int) (e_Arms : List PV) (i : Int) (cl_ : FuncId → List Arg → Option Out) (lp_ : List Nat → AS → Option Out) : stepW Pr T cl_ lp_ 133 [1, 1, 1, 0, 1, 4] (st133_111014 i1 e_Arms i) =
  bif decide (i < (e_Arms.length : Int)) then
    bif decide (0 ≤ i) then
      (e_Arms[i.toNat]?).bind fun x =>
        (bif (Sh.agg [Sh.int .i64, Sh.int .i64, Sh.str, Sh.lst, Sh.int .i64, Sh.int .i64, Sh.str, Sh.lst, Sh.lst, Sh.lst, Sh.lst, Sh.int .i64]).fits x then
          ((cl_ 133 [.pv (.agg [.int .i64 ((x.c 4).toInt), .int .i64 ((x.c 5).toInt), .str ((x.c 6).toStr), .lst ((x.c 7).toLst), .lst ((x.c 8).toLst), .lst ((x.c 9).toLst), .lst ((x.c 10).toLst), .int .i64 ((x.c 11).toInt)])]).bind retPV).bind fun r =>
            (bif (Sh.int .i64).fits r then
              ((cl_ 142 [.pv (.agg [.int .i64 ((x.c 0).toInt), .int .i64 ((x.c 1).toInt), .str ((x.c 2).toStr), .lst ((x.c 3).toLst)])]).bind retPV).bind fun r1 =>
                (bif (Sh.int .i64).fits r1 then
                  lp_ [1, 1, 1, 0, 1, 4] (st133_111014 (bif decide ((r1.toInt) > (bif decide ((r.toInt) > i1) then (r.toInt) else i1)) then (r1.toInt) else (bif decide ((r.toInt) > i1) then (r.toInt) else i1)) e_Arms (IntKind.i64.wrap (i + (1 : Int))))
                else none)
            else none)
        else none)
    else none
  else some (.pv (.int .i64 (IntKind.i64.wrap (i1 + (1 : Int)))), []) := by kernel_rfl
theorem e133_111014 (i1 : Int) (e_Arms : List PV) (i : Int) : L133_111014 i1 e_Arms i =
  bif decide (i < (e_Arms.length : Int)) then
    bif decide (0 ≤ i) then
      (e_Arms[i.toNat]?).bind fun x =>
        (bif (Sh.agg [Sh.int .i64, Sh.int .i64, Sh.str, Sh.lst, Sh.int .i64, Sh.int .i64, Sh.str, Sh.lst, Sh.lst, Sh.lst, Sh.lst, Sh.int .i64]).fits x then
          ((V 133 [.pv (.agg [.int .i64 ((x.c 4).toInt), .int .i64 ((x.c 5).toInt), .str ((x.c 6).toStr), .lst ((x.c 7).toLst), .lst ((x.c 8).toLst), .lst ((x.c 9).toLst), .lst ((x.c 10).toLst), .int .i64 ((x.c 11).toInt)])]).bind retPV).bind fun r =>
            (bif (Sh.int .i64).fits r then
              ((V 142 [.pv (.agg [.int .i64 ((x.c 0).toInt), .int .i64 ((x.c 1).toInt), .str ((x.c 2).toStr), .lst ((x.c 3).toLst)])]).bind retPV).bind fun r1 =>
                (bif (Sh.int .i64).fits r1 then
                  L133_111014 (bif decide ((r1.toInt) > (bif decide ((r.toInt) > i1) then (r.toInt) else i1)) then (r1.toInt) else (bif decide ((r.toInt) > i1) then (r.toInt) else i1)) e_Arms (IntKind.i64.wrap (i + (1 : Int)))
                else none)
            else none)
        else none)
    else none
  else some (.pv (.int .i64 (IntKind.i64.wrap (i1 + (1 : Int)))), []) :=
  (LV_eq pa 133 _ _).trans (f133_111014 i1 e_Arms i V (LV Pr T 133))
/-! 142 roadstead/tree.patDeep -/
def st142_11014 (i : Int) (p_Args : List PV) (i1 : Int) : AS :=
  ⟨[.any, .any, .any, .pv (.int .i64 i), .any, .any, .any, .pv (.lst p_Args), .pv (.int .i64 (p_Args.length : Int)), .pv (.int .i64 i1), .any, .any, .any, .any, .any, .any, .any, .any, .any, .any], ⟨[], [], [], 0, 0⟩⟩
noncomputable def L142_11014 (i : Int) (p_Args : List PV) (i1 : Int) : Option Out := LV Pr T 142 [1, 1, 0, 1, 4] (st142_11014 i p_Args i1)
theorem f142 (p_Kind : Int) (p_Num : Int) (p_Text : List UInt8) (p_Args : List PV) (cl_ : FuncId → List Arg → Option Out) (lp_ : List Nat → AS → Option Out) : runW Pr T cl_ lp_ 142 [.pv (.agg [.int .i64 p_Kind, .int .i64 p_Num, .str p_Text, .lst p_Args])] =
  lp_ [1, 1, 0, 1, 4] (st142_11014 0 p_Args 0) := by kernel_rfl
theorem e142 (p_Kind : Int) (p_Num : Int) (p_Text : List UInt8) (p_Args : List PV) : V 142 [.pv (.agg [.int .i64 p_Kind, .int .i64 p_Num, .str p_Text, .lst p_Args])] =
  L142_11014 0 p_Args 0 :=
  (V_eq pa rfl _).trans (f142 p_Kind p_Num p_Text p_Args V (LV Pr T 142))
theorem f142_11014 (i : Int) (p_Args : List PV) (i1 : Int) (cl_ : FuncId → List Arg → Option Out) (lp_ : List Nat → AS → Option Out) : stepW Pr T cl_ lp_ 142 [1, 1, 0, 1, 4] (st142_11014 i p_Args i1) =
  bif decide (i1 < (p_Args.length : Int)) then
    bif decide (0 ≤ i1) then
      (p_Args[i1.toNat]?).bind fun x =>
        (bif (Sh.agg [Sh.int .i64, Sh.int .i64, Sh.str, Sh.lst]).fits x then
          ((cl_ 142 [.pv (.agg [.int .i64 ((x.c 0).toInt), .int .i64 ((x.c 1).toInt), .str ((x.c 2).toStr), .lst ((x.c 3).toLst)])]).bind retPV).bind fun r =>
            (bif (Sh.int .i64).fits r then
              lp_ [1, 1, 0, 1, 4] (st142_11014 (bif decide ((r.toInt) > i) then (r.toInt) else i) p_Args (IntKind.i64.wrap (i1 + (1 : Int))))
            else none)
        else none)
    else none
  else some (.pv (.int .i64 (IntKind.i64.wrap (i + (1 : Int)))), []) := by kernel_rfl
theorem e142_11014 (i : Int) (p_Args : List PV) (i1 : Int) : L142_11014 i p_Args i1 =
  bif decide (i1 < (p_Args.length : Int)) then
    bif decide (0 ≤ i1) then
      (p_Args[i1.toNat]?).bind fun x =>
        (bif (Sh.agg [Sh.int .i64, Sh.int .i64, Sh.str, Sh.lst]).fits x then
          ((V 142 [.pv (.agg [.int .i64 ((x.c 0).toInt), .int .i64 ((x.c 1).toInt), .str ((x.c 2).toStr), .lst ((x.c 3).toLst)])]).bind retPV).bind fun r =>
            (bif (Sh.int .i64).fits r then
              L142_11014 (bif decide ((r.toInt) > i) then (r.toInt) else i) p_Args (IntKind.i64.wrap (i1 + (1 : Int)))
            else none)
        else none)
    else none
  else some (.pv (.int .i64 (IntKind.i64.wrap (i + (1 : Int)))), []) :=
  (LV_eq pa 142 _ _).trans (f142_11014 i p_Args i1 V (LV Pr T 142))
end Go.AL.S6
