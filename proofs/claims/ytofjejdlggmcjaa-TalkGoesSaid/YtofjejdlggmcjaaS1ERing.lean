/- Equations of functions in the abstract machine: printed by gen.py. -/
import Derived.Test.YtofjejdlggmcjaaS1T
set_option linter.unusedVariables false
set_option maxRecDepth 100000
namespace Go.AL.S1
open Go Go.AL
/-! 61 roadstead/talk.Ring -/
def st61_111014 (n_Lines : List PV) (i : Int) (n_Who : List PV) : AS :=
  ⟨[.any, .box 0 0, .any, .any, .any, .pv .nils, .any, .any, .any, .any, .any, .any, .any, .any, .any, .pv (.lst n_Lines), .pv (.int .i64 (n_Lines.length : Int)), .pv (.int .i64 i), .any, .any, .any, .any, .any, .any, .any, .any, .any, .any, .any, .any, .any, .any, .any, .any, .any, .any, .any, .any, .any, .any, .any, .any, .any, .any, .any, .any, .any, .any, .any, .any, .any], ⟨[(false, [.pv (.lst n_Lines), .pv (.lst n_Who)])], [], [], 0, 0⟩⟩
noncomputable def L61_111014 (n_Lines : List PV) (i : Int) (n_Who : List PV) : Option Out := LV Pr T 61 [1, 1, 1, 0, 1, 4] (st61_111014 n_Lines i n_Who)
def st61_11101451104116 (i1 : Int) (n_Lines : List PV) (n_Who : List PV) : AS :=
  ⟨[.any, .box 0 0, .any, .any, .any, .pv .nils, .pv (.int .i64 i1), .any, .pv .nils, .any, .any, .any, .any, .any, .any, .pv (.lst n_Lines), .pv (.int .i64 (n_Lines.length : Int)), .pv (.int .i64 i1), .any, .any, .any, .any, .any, .any, .any, .any, .any, .any, .any, .any, .any, .any, .any, .any, .any, .any, .any, .any, .any, .any, .any, .any, .any, .any, .any, .any, .any, .any, .any, .any, .any], ⟨[(false, [.pv (.lst n_Lines), .pv (.lst n_Who)])], [], [], 0, 0⟩⟩
noncomputable def L61_11101451104116 (i1 : Int) (n_Lines : List PV) (n_Who : List PV) : Option Out := LV Pr T 61 [1, 1, 1, 0, 1, 4, 5, 1, 1, 0, 4, 1, 1, 6] (st61_11101451104116 i1 n_Lines n_Who)
def st61_11101451104116v1 (i1 : Int) (v : List PV) (n_Lines : List PV) (n_Who : List PV) : AS :=
  ⟨[.any, .box 0 0, .any, .any, .any, .pv .nils, .pv (.int .i64 i1), .any, .pv (.lst v), .any, .any, .any, .any, .any, .any, .pv (.lst n_Lines), .pv (.int .i64 (n_Lines.length : Int)), .pv (.int .i64 i1), .any, .any, .any, .any, .any, .any, .any, .any, .any, .any, .any, .any, .any, .any, .any, .any, .any, .any, .any, .any, .any, .any, .any, .any, .any, .any, .any, .any, .any, .any, .any, .any, .any], ⟨[(false, [.pv (.lst n_Lines), .pv (.lst n_Who)])], [], [], 0, 0⟩⟩
noncomputable def L61_11101451104116v1 (i1 : Int) (v : List PV) (n_Lines : List PV) (n_Who : List PV) : Option Out := LV Pr T 61 [1, 1, 1, 0, 1, 4, 5, 1, 1, 0, 4, 1, 1, 6] (st61_11101451104116v1 i1 v n_Lines n_Who)
def st61_111014v1 (i1 : Int) (v : List PV) (n_Lines : List PV) (i : Int) (n_Who : List PV) : AS :=
  ⟨[.any, .box 0 0, .any, .any, .any, .pv (.lst (([.int .i64 i1] : List PV) ++ v)), .any, .any, .any, .any, .any, .any, .any, .any, .any, .pv (.lst n_Lines), .pv (.int .i64 (n_Lines.length : Int)), .pv (.int .i64 i), .any, .any, .any, .any, .any, .any, .any, .any, .any, .any, .any, .any, .any, .any, .any, .any, .any, .any, .any, .any, .any, .any, .any, .any, .any, .any, .any, .any, .any, .any, .any, .any, .any], ⟨[(false, [.pv (.lst n_Lines), .pv (.lst n_Who)])], [], [], 0, 0⟩⟩
noncomputable def L61_111014v1 (i1 : Int) (v : List PV) (n_Lines : List PV) (i : Int) (n_Who : List PV) : Option Out := LV Pr T 61 [1, 1, 1, 0, 1, 4] (st61_111014v1 i1 v n_Lines i n_Who)
def st61_11101451104116v2 (i1 : Int) (v : List PV) (i2 : Int) (n_Lines : List PV) (n_Who : List PV) : AS :=
  ⟨[.any, .box 0 0, .any, .any, .any, .pv (.lst (([.int .i64 i1] : List PV) ++ v)), .pv (.int .i64 i2), .any, .pv .nils, .any, .any, .any, .any, .any, .any, .pv (.lst n_Lines), .pv (.int .i64 (n_Lines.length : Int)), .pv (.int .i64 i2), .any, .any, .any, .any, .any, .any, .any, .any, .any, .any, .any, .any, .any, .any, .any, .any, .any, .any, .any, .any, .any, .any, .any, .any, .any, .any, .any, .any, .any, .any, .any, .any, .any], ⟨[(false, [.pv (.lst n_Lines), .pv (.lst n_Who)])], [], [], 0, 0⟩⟩
noncomputable def L61_11101451104116v2 (i1 : Int) (v : List PV) (i2 : Int) (n_Lines : List PV) (n_Who : List PV) : Option Out := LV Pr T 61 [1, 1, 1, 0, 1, 4, 5, 1, 1, 0, 4, 1, 1, 6] (st61_11101451104116v2 i1 v i2 n_Lines n_Who)
def st61_11101451104116v3 (i1 : Int) (v : List PV) (i2 : Int) (v1 : List PV) (n_Lines : List PV) (n_Who : List PV) : AS :=
  ⟨[.any, .box 0 0, .any, .any, .any, .pv (.lst (([.int .i64 i1] : List PV) ++ v)), .pv (.int .i64 i2), .any, .pv (.lst v1), .any, .any, .any, .any, .any, .any, .pv (.lst n_Lines), .pv (.int .i64 (n_Lines.length : Int)), .pv (.int .i64 i2), .any, .any, .any, .any, .any, .any, .any, .any, .any, .any, .any, .any, .any, .any, .any, .any, .any, .any, .any, .any, .any, .any, .any, .any, .any, .any, .any, .any, .any, .any, .any, .any, .any], ⟨[(false, [.pv (.lst n_Lines), .pv (.lst n_Who)])], [], [], 0, 0⟩⟩
noncomputable def L61_11101451104116v3 (i1 : Int) (v : List PV) (i2 : Int) (v1 : List PV) (n_Lines : List PV) (n_Who : List PV) : Option Out := LV Pr T 61 [1, 1, 1, 0, 1, 4, 5, 1, 1, 0, 4, 1, 1, 6] (st61_11101451104116v3 i1 v i2 v1 n_Lines n_Who)
theorem e61 (n_Lines : List PV) (n_Who : List PV) : V 61 [.pv (.agg [.lst n_Lines, .lst n_Who])] =
  ((V 63 [.pv (.agg [.lst n_Lines, .lst n_Who])]).bind retPV).bind fun r =>
    (bif (Sh.int .i64).fits r then
      bif ((r.toInt) != (0 : Int)) then
        some (.pv (.tup [.lst [], .int .i64 r.toInt]), [])
      else L61_111014 n_Lines 0 n_Who
    else none) :=
  (V_eq pa rfl _).trans (by kernel_rfl)
theorem e61_111014 (n_Lines : List PV) (i : Int) (n_Who : List PV) : L61_111014 n_Lines i n_Who =
  bif decide (i < (n_Lines.length : Int)) then
    bif decide (0 ≤ i) then
      (n_Lines[i.toNat]?).bind fun x =>
        (bif (Sh.agg [Sh.int .i64, Sh.int .i64]).fits x then
          ((V 96 [.pv (.agg [.lst n_Lines, .lst n_Who]), .pv (.int .i64 ((x.c 1).toInt)), .pv (.int .i64 ((x.c 0).toInt)), .pv (.int .i64 i)]).bind retPV).bind fun r =>
            (bif r.isNils then
              L61_11101451104116 i n_Lines n_Who
            else bif (Sh.lst).fits r then
              L61_11101451104116v1 i r.toLst n_Lines n_Who
            else none)
        else none)
    else none
  else some (.pv (.tup [.lst [], .int .i64 4]), []) :=
  (LV_eq pa 61 _ _).trans (by kernel_rfl)
theorem e61_11101451104116 (i1 : Int) (n_Lines : List PV) (n_Who : List PV) : L61_11101451104116 i1 n_Lines n_Who =
  L61_111014 n_Lines (IntKind.i64.wrap (i1 + (1 : Int))) n_Who :=
  (LV_eq pa 61 _ _).trans (by kernel_rfl)
theorem e61_11101451104116v1 (i1 : Int) (v : List PV) (n_Lines : List PV) (n_Who : List PV) : L61_11101451104116v1 i1 v n_Lines n_Who =
  (some? v).bind fun _ =>
    (bif headOk 1 v then
      bif small 1 (v.length) 8 then
        L61_111014v1 i1 v n_Lines (IntKind.i64.wrap (i1 + (1 : Int))) n_Who
      else none
    else none) :=
  (LV_eq pa 61 _ _).trans (by kernel_rfl)
theorem e61_111014v1 (i1 : Int) (v : List PV) (n_Lines : List PV) (i : Int) (n_Who : List PV) : L61_111014v1 i1 v n_Lines i n_Who =
  bif decide (i < (n_Lines.length : Int)) then
    bif decide (0 ≤ i) then
      (n_Lines[i.toNat]?).bind fun x =>
        (bif (Sh.agg [Sh.int .i64, Sh.int .i64]).fits x then
          ((V 96 [.pv (.agg [.lst n_Lines, .lst n_Who]), .pv (.int .i64 ((x.c 1).toInt)), .pv (.int .i64 ((x.c 0).toInt)), .pv (.int .i64 i)]).bind retPV).bind fun r =>
            (bif r.isNils then
              L61_11101451104116v2 i1 v i n_Lines n_Who
            else bif (Sh.lst).fits r then
              L61_11101451104116v3 i1 v i r.toLst n_Lines n_Who
            else none)
        else none)
    else none
  else (some? (([.int .i64 i1] : List PV) ++ v)).bind fun _ =>
    (some (.pv (.tup [.lst (([.int .i64 i1] : List PV) ++ v), .int .i64 0]), [])) :=
  (LV_eq pa 61 _ _).trans (by kernel_rfl)
theorem e61_11101451104116v2 (i1 : Int) (v : List PV) (i2 : Int) (n_Lines : List PV) (n_Who : List PV) : L61_11101451104116v2 i1 v i2 n_Lines n_Who =
  L61_111014v1 i1 v n_Lines (IntKind.i64.wrap (i2 + (1 : Int))) n_Who :=
  (LV_eq pa 61 _ _).trans (by kernel_rfl)
theorem e61_11101451104116v3 (i1 : Int) (v : List PV) (i2 : Int) (v1 : List PV) (n_Lines : List PV) (n_Who : List PV) : L61_11101451104116v3 i1 v i2 v1 n_Lines n_Who =
  (some? v1).bind fun _ =>
    ((some? (([.int .i64 i1] : List PV) ++ v)).bind fun _ =>
      (bif decide ((IntKind.i64.wrap ((v1.length : Int) + (1 : Int))) < ((([.int .i64 i1] : List PV) ++ v).length : Int)) then
        bif headOk 1 v1 then
          bif small 1 (v1.length) 8 then
            L61_111014v1 i2 v1 n_Lines (IntKind.i64.wrap (i2 + (1 : Int))) n_Who
          else none
        else none
      else L61_111014v1 i1 v n_Lines (IntKind.i64.wrap (i2 + (1 : Int))) n_Who)) :=
  (LV_eq pa 61 _ _).trans (by kernel_rfl)
/-! 96 roadstead/talk.way -/
def st96_11014 (from_ : Int) (to_ : Int) (but : Int) (n_Who : List PV) (i : Int) (n_Lines : List PV) (l : List PV) : AS :=
  ⟨[.any, .pv (.int .i64 from_), .pv (.int .i64 to_), .pv (.int .i64 but), .box 0 0, .any, .any, .any, .any, .vec 0 0, .any, .any, .any, .any, .any, .any, .any, .any, .any, .any, .any, .any, .any, .any, .any, .pv (.int .i64 ((List.replicate (n_Who.length : Int).toNat (.int .i64 0) : List PV).length : Int)), .pv (.int .i64 i), .any, .any, .any, .any, .any, .any, .any, .any, .any, .any, .any, .any, .any, .any, .any, .any, .any, .any, .any, .any, .any, .any, .any, .any, .any, .any, .any, .any, .any, .any, .any, .any, .any, .any, .any, .any, .any, .any, .any, .any, .any, .any, .any, .any, .any, .any, .any, .any, .any, .any, .any, .any, .any, .any, .any, .any, .any, .any, .any, .any, .any, .any, .any, .any, .any, .any, .any, .any, .any, .any, .any, .any, .any, .any, .any, .any, .any, .any, .any, .any, .any, .any, .any, .any, .any, .any, .any, .any, .any, .any, .any, .any, .any, .any, .any, .any, .any, .any, .any, .any, .any, .any, .any, .any, .any, .any, .any, .any, .any, .any, .any, .any, .any], ⟨[(false, [.pv (.lst n_Lines), .pv (.lst n_Who)])], [some (0, 1, l)], [], 0, 0⟩⟩
noncomputable def L96_11014 (from_ : Int) (to_ : Int) (but : Int) (n_Who : List PV) (i : Int) (n_Lines : List PV) (l : List PV) : Option Out := LV Pr T 96 [1, 1, 0, 1, 4] (st96_11014 from_ to_ but n_Who i n_Lines l)
def st96_11111104 (from_ : Int) (to_ : Int) (but : Int) (l : List PV) (n_Lines : List PV) (n_Who : List PV) (l1 : List PV) (l4 : List PV) : AS :=
  ⟨[.any, .pv (.int .i64 from_), .pv (.int .i64 to_), .pv (.int .i64 but), .box 0 0, .any, .any, .any, .any, .vec 0 0, .any, .vec 1 0, .bld 0 0 l, .any, .any, .any, .any, .any, .any, .any, .any, .any, .any, .any, .any, .any, .any, .any, .any, .any, .any, .any, .any, .any, .any, .any, .any, .any, .any, .any, .any, .any, .any, .any, .any, .any, .any, .any, .any, .any, .any, .any, .any, .any, .any, .any, .any, .any, .any, .any, .any, .any, .any, .any, .any, .any, .any, .any, .any, .any, .any, .any, .any, .any, .any, .any, .any, .any, .any, .any, .any, .any, .any, .any, .any, .any, .any, .any, .any, .any, .any, .any, .any, .any, .any, .any, .any, .any, .any, .any, .any, .any, .any, .any, .any, .any, .any, .any, .any, .any, .any, .any, .any, .any, .any, .any, .any, .any, .any, .any, .any, .any, .any, .any, .any, .any, .any, .any, .any, .any, .any, .any, .any, .any, .any, .any, .any, .any, .any, .any], ⟨[(false, [.pv (.lst n_Lines), .pv (.lst n_Who)])], [some (0, 1, l1), some (0, 1, l4)], [(0, 1)], 0, 0⟩⟩
noncomputable def L96_11111104 (from_ : Int) (to_ : Int) (but : Int) (l : List PV) (n_Lines : List PV) (n_Who : List PV) (l1 : List PV) (l4 : List PV) : Option Out := LV Pr T 96 [1, 1, 1, 1, 1, 1, 0, 4] (st96_11111104 from_ to_ but l n_Lines n_Who l1 l4)
def st96_111111045141114 (from_ : Int) (to_ : Int) (but : Int) (l2 : List PV) (i1 : Int) (n_Lines : List PV) (i : Int) (n_Who : List PV) (l1 : List PV) (l3 : List PV) : AS :=
  ⟨[.any, .pv (.int .i64 from_), .pv (.int .i64 to_), .pv (.int .i64 but), .box 0 0, .any, .any, .any, .any, .vec 0 0, .any, .vec 1 0, .bld 0 0 l2, .pv (.int .i64 i1), .any, .any, .any, .any, .any, .any, .any, .any, .any, .any, .any, .any, .any, .any, .any, .any, .any, .any, .any, .any, .any, .any, .any, .any, .any, .any, .any, .any, .any, .any, .any, .any, .any, .any, .any, .any, .any, .any, .any, .any, .any, .any, .any, .any, .pv (.lst n_Lines), .pv (.int .i64 (n_Lines.length : Int)), .pv (.int .i64 i), .any, .any, .any, .any, .any, .any, .any, .any, .any, .any, .any, .any, .any, .any, .any, .any, .any, .any, .any, .any, .any, .any, .any, .any, .any, .any, .any, .any, .any, .any, .any, .any, .any, .any, .any, .any, .any, .any, .any, .any, .any, .any, .any, .any, .any, .any, .any, .any, .any, .any, .any, .any, .any, .any, .any, .any, .any, .any, .any, .any, .any, .any, .any, .any, .any, .any, .any, .any, .any, .any, .any, .any, .any, .any, .any, .any, .any, .any, .any], ⟨[(false, [.pv (.lst n_Lines), .pv (.lst n_Who)])], [some (0, 1, l1), some (0, 1, l3)], [(0, 1)], 0, 0⟩⟩
noncomputable def L96_111111045141114 (from_ : Int) (to_ : Int) (but : Int) (l2 : List PV) (i1 : Int) (n_Lines : List PV) (i : Int) (n_Who : List PV) (l1 : List PV) (l3 : List PV) : Option Out := LV Pr T 96 [1, 1, 1, 1, 1, 1, 0, 4, 5, 1, 4, 1, 1, 1, 4] (st96_111111045141114 from_ to_ but l2 i1 n_Lines i n_Who l1 l3)
def st96_11111116 (from_ : Int) (to_ : Int) (n_Lines : List PV) (n_Who : List PV) (l1 : List PV) (l : List PV) : AS :=
  ⟨[.any, .pv (.int .i64 from_), .pv (.int .i64 to_), .any, .box 0 0, .any, .any, .any, .any, .vec 0 0, .any, .vec 1 0, .any, .any, .any, .any, .any, .any, .any, .any, .any, .any, .any, .any, .any, .any, .any, .any, .any, .any, .any, .any, .any, .any, .any, .any, .any, .any, .any, .any, .any, .any, .any, .any, .any, .any, .any, .any, .any, .any, .any, .any, .any, .any, .any, .any, .any, .any, .any, .any, .any, .any, .any, .any, .any, .any, .any, .any, .any, .any, .any, .any, .any, .any, .any, .any, .any, .any, .any, .any, .any, .any, .any, .any, .any, .any, .any, .any, .any, .any, .any, .any, .any, .any, .any, .any, .any, .any, .any, .any, .any, .any, .any, .any, .any, .any, .any, .any, .any, .any, .any, .any, .any, .any, .any, .any, .any, .any, .any, .any, .any, .any, .any, .any, .any, .any, .any, .any, .any, .any, .any, .any, .any, .any, .any, .any, .any, .any, .any, .any], ⟨[(false, [.pv (.lst n_Lines), .pv (.lst n_Who)])], [some (0, 1, l1), some (0, 1, l)], [], 0, 0⟩⟩
noncomputable def L96_11111116 (from_ : Int) (to_ : Int) (n_Lines : List PV) (n_Who : List PV) (l1 : List PV) (l : List PV) : Option Out := LV Pr T 96 [1, 1, 1, 1, 1, 1, 1, 6] (st96_11111116 from_ to_ n_Lines n_Who l1 l)
def st96_111111045141114511041116 (from_ : Int) (to_ : Int) (but : Int) (l : List PV) (i2 : Int) (i3 : Int) (i4 : Int) (n_Lines : List PV) (n_Who : List PV) (l1 : List PV) (l4 : List PV) : AS :=
  ⟨[.any, .pv (.int .i64 from_), .pv (.int .i64 to_), .pv (.int .i64 but), .box 0 0, .any, .any, .any, .any, .vec 0 0, .any, .vec 1 0, .bld 0 0 l, .pv (.int .i64 i2), .pv (.int .i64 i3), .any, .pv (.int .i64 i4), .any, .any, .any, .any, .any, .any, .any, .any, .any, .any, .any, .any, .any, .any, .any, .any, .any, .any, .any, .any, .any, .any, .any, .any, .any, .any, .any, .any, .any, .any, .any, .any, .any, .any, .any, .any, .any, .any, .any, .any, .any, .pv (.lst n_Lines), .pv (.int .i64 (n_Lines.length : Int)), .pv (.int .i64 i3), .any, .any, .any, .any, .any, .any, .any, .any, .any, .any, .any, .any, .any, .any, .any, .any, .any, .any, .any, .any, .any, .any, .any, .any, .any, .any, .any, .any, .any, .any, .any, .any, .any, .any, .any, .any, .any, .any, .any, .any, .any, .any, .any, .any, .any, .any, .any, .any, .any, .any, .any, .any, .any, .any, .any, .any, .any, .any, .any, .any, .any, .any, .any, .any, .any, .any, .any, .any, .any, .any, .any, .any, .any, .any, .any, .any, .any, .any, .any], ⟨[(false, [.pv (.lst n_Lines), .pv (.lst n_Who)])], [some (0, 1, l1), some (0, 1, l4)], [(0, 1)], 0, 0⟩⟩
noncomputable def L96_111111045141114511041116 (from_ : Int) (to_ : Int) (but : Int) (l : List PV) (i2 : Int) (i3 : Int) (i4 : Int) (n_Lines : List PV) (n_Who : List PV) (l1 : List PV) (l4 : List PV) : Option Out := LV Pr T 96 [1, 1, 1, 1, 1, 1, 0, 4, 5, 1, 4, 1, 1, 1, 4, 5, 1, 1, 0, 4, 1, 1, 1, 6] (st96_111111045141114511041116 from_ to_ but l i2 i3 i4 n_Lines n_Who l1 l4)
def st96_111111111014 (from_ : Int) (to_ : Int) (n_Lines : List PV) (n_Who : List PV) (l1 : List PV) : AS :=
  ⟨[.any, .pv (.int .i64 from_), .any, .any, .box 0 0, .any, .any, .any, .any, .vec 0 0, .any, .any, .any, .any, .any, .any, .any, .pv .nils, .pv (.int .i64 to_), .any, .any, .any, .any, .any, .any, .any, .any, .any, .any, .any, .any, .any, .any, .any, .any, .any, .any, .any, .any, .any, .any, .any, .any, .any, .any, .any, .any, .any, .any, .any, .any, .any, .any, .any, .any, .any, .any, .any, .any, .any, .any, .any, .any, .any, .any, .any, .any, .any, .any, .any, .any, .any, .any, .any, .any, .any, .any, .any, .any, .any, .any, .any, .any, .any, .any, .any, .any, .any, .any, .any, .any, .any, .any, .any, .any, .any, .any, .any, .any, .any, .any, .any, .any, .any, .any, .any, .any, .any, .any, .any, .any, .any, .any, .any, .any, .any, .any, .any, .any, .any, .any, .any, .any, .any, .any, .any, .any, .any, .any, .any, .any, .any, .any, .any, .any, .any, .any, .any, .any, .any], ⟨[(false, [.pv (.lst n_Lines), .pv (.lst n_Who)])], [some (0, 1, l1)], [], 0, 0⟩⟩
noncomputable def L96_111111111014 (from_ : Int) (to_ : Int) (n_Lines : List PV) (n_Who : List PV) (l1 : List PV) : Option Out := LV Pr T 96 [1, 1, 1, 1, 1, 1, 1, 1, 1, 0, 1, 4] (st96_111111111014 from_ to_ n_Lines n_Who l1)
def st96_111111111014v1 (from_ : Int) (v : Int) (v1 : Int) (to_ : Int) (n_Lines : List PV) (n_Who : List PV) (l1 : List PV) (l : List PV) : AS :=
  ⟨[.any, .pv (.int .i64 from_), .any, .any, .box 0 0, .any, .any, .any, .any, .vec 0 0, .any, .any, .any, .any, .any, .any, .any, .vec 1 0, .pv (.int .i64 (IntKind.i64.wrap ((IntKind.i64.wrap ((v) + (v1))) - to_))), .any, .any, .any, .any, .any, .any, .any, .any, .any, .any, .any, .any, .any, .any, .any, .any, .any, .any, .any, .any, .any, .any, .any, .any, .any, .any, .any, .any, .any, .any, .any, .any, .any, .any, .any, .any, .any, .any, .any, .any, .any, .any, .any, .any, .any, .any, .any, .any, .any, .any, .any, .any, .any, .any, .any, .any, .any, .any, .any, .any, .any, .any, .any, .any, .any, .any, .any, .any, .any, .any, .any, .any, .any, .any, .any, .any, .any, .any, .any, .any, .any, .any, .any, .any, .any, .any, .any, .any, .any, .any, .any, .any, .any, .any, .any, .any, .any, .any, .any, .any, .any, .any, .any, .any, .any, .any, .any, .any, .any, .any, .any, .any, .any, .any, .any, .any, .any, .any, .any, .any, .any], ⟨[(false, [.pv (.lst n_Lines), .pv (.lst n_Who)])], [some (0, 1, l1), some (0, 1, l)], [], 0, 0⟩⟩
noncomputable def L96_111111111014v1 (from_ : Int) (v : Int) (v1 : Int) (to_ : Int) (n_Lines : List PV) (n_Who : List PV) (l1 : List PV) (l : List PV) : Option Out := LV Pr T 96 [1, 1, 1, 1, 1, 1, 1, 1, 1, 0, 1, 4] (st96_111111111014v1 from_ v v1 to_ n_Lines n_Who l1 l)
theorem e96 (n_Lines : List PV) (n_Who : List PV) (from_ : Int) (to_ : Int) (but : Int) : V 96 [.pv (.agg [.lst n_Lines, .lst n_Who]), .pv (.int .i64 from_), .pv (.int .i64 to_), .pv (.int .i64 but)] =
  bif (decide (0 ≤ (n_Who.length : Int)) && decide ((n_Who.length : Int) ≤ (n_Who.length : Int)) && decide ((n_Who.length : Int) ≤ 2147483648) && Nat.ble 8 65536 && Nat.blt 0 1) then
    L96_11014 from_ to_ but n_Who 0 n_Lines (List.replicate (n_Who.length : Int).toNat (.int .i64 0) : List PV)
  else none :=
  (V_eq pa rfl _).trans (by kernel_rfl)
theorem e96_11014 (from_ : Int) (to_ : Int) (but : Int) (n_Who : List PV) (i : Int) (n_Lines : List PV) (l : List PV) : L96_11014 from_ to_ but n_Who i n_Lines l =
  bif decide (i < ((List.replicate (n_Who.length : Int).toNat (.int .i64 0) : List PV).length : Int)) then
    bif (decide (0 ≤ i) && decide (i < (l.length : Int))) then
      (l[i.toNat]?).bind fun z =>
        (bif (Nat.blt 0 z.cells.length && true) then
          L96_11014 from_ to_ but n_Who (IntKind.i64.wrap (i + (1 : Int))) n_Lines (l.set i.toNat (z.setc 0 (.int .i64 (-1))))
        else none)
    else none
  else bif (decide (0 ≤ (n_Who.length : Int)) && decide ((n_Who.length : Int) ≤ (n_Who.length : Int)) && decide ((n_Who.length : Int) ≤ 2147483648) && Nat.ble 1 65536 && Nat.blt 0 1) then
    bif (decide (0 ≤ from_) && decide (from_ < ((List.replicate (n_Who.length : Int).toNat (.bool false) : List PV).length : Int))) then
      ((List.replicate (n_Who.length : Int).toNat (.bool false) : List PV)[from_.toNat]?).bind fun z1 =>
        (bif (Nat.blt 0 z1.cells.length && true) then
          L96_11111104 from_ to_ but [.int .i64 from_] n_Lines n_Who l ((List.replicate (n_Who.length : Int).toNat (.bool false) : List PV).set from_.toNat (z1.setc 0 (.bool true)))
        else none)
    else none
  else none :=
  (LV_eq pa 96 _ _).trans (by kernel_rfl)
theorem e96_11111104 (from_ : Int) (to_ : Int) (but : Int) (l : List PV) (n_Lines : List PV) (n_Who : List PV) (l1 : List PV) (l4 : List PV) : L96_11111104 from_ to_ but l n_Lines n_Who l1 l4 =
  bif decide ((l.length : Int) > (0 : Int)) then
    bif (decide (0 ≤ to_) && decide (to_ < (l4.length : Int))) then
      (l4[to_.toNat]?).bind fun y =>
        (bif (Nat.blt 0 y.cells.length && (Sh.bool).fits (y.cl 0)) then
          bif (!(y.cl 0).toBool) then
            (l[(0 : Int).toNat]?).bind fun x =>
              (bif (Sh.int .i64).fits x then
                bif headOk 1 l then
                  bif (decide (0 ≤ (1 : Int)) && decide ((1 : Int) ≤ (l.length : Int))) then
                    L96_111111045141114 from_ to_ but (l.drop (1 : Int).toNat) x.toInt n_Lines 0 n_Who l1 l4
                  else none
                else none
              else none)
          else L96_11111116 from_ to_ n_Lines n_Who l1 l4
        else none)
    else none
  else L96_11111116 from_ to_ n_Lines n_Who l1 l4 :=
  (LV_eq pa 96 _ _).trans (by kernel_rfl)
theorem e96_111111045141114 (from_ : Int) (to_ : Int) (but : Int) (l2 : List PV) (i1 : Int) (n_Lines : List PV) (i : Int) (n_Who : List PV) (l1 : List PV) (l3 : List PV) : L96_111111045141114 from_ to_ but l2 i1 n_Lines i n_Who l1 l3 =
  bif decide (i < (n_Lines.length : Int)) then
    bif decide (0 ≤ i) then
      (n_Lines[i.toNat]?).bind fun x =>
        (bif (Sh.agg [Sh.int .i64, Sh.int .i64]).fits x then
          bif (i == but) then
            L96_111111045141114 from_ to_ but l2 i1 n_Lines (IntKind.i64.wrap (i + (1 : Int))) n_Who l1 l3
          else bif (((x.c 0).toInt) != i1) then
            bif (((x.c 1).toInt) != i1) then
              L96_111111045141114 from_ to_ but l2 i1 n_Lines (IntKind.i64.wrap (i + (1 : Int))) n_Who l1 l3
            else bif (decide (0 ≤ (IntKind.i64.wrap ((IntKind.i64.wrap (((x.c 0).toInt) + ((x.c 1).toInt))) - i1))) && decide ((IntKind.i64.wrap ((IntKind.i64.wrap (((x.c 0).toInt) + ((x.c 1).toInt))) - i1)) < (l3.length : Int))) then
              (l3[(IntKind.i64.wrap ((IntKind.i64.wrap (((x.c 0).toInt) + ((x.c 1).toInt))) - i1)).toNat]?).bind fun y =>
                (bif (Nat.blt 0 y.cells.length && (Sh.bool).fits (y.cl 0)) then
                  bif (y.cl 0).toBool then
                    L96_111111045141114 from_ to_ but l2 i1 n_Lines (IntKind.i64.wrap (i + (1 : Int))) n_Who l1 l3
                  else L96_111111045141114511041116 from_ to_ but l2 i1 i (IntKind.i64.wrap ((IntKind.i64.wrap (((x.c 0).toInt) + ((x.c 1).toInt))) - i1)) n_Lines n_Who l1 l3
                else none)
            else none
          else bif (decide (0 ≤ (IntKind.i64.wrap ((IntKind.i64.wrap (((x.c 0).toInt) + ((x.c 1).toInt))) - i1))) && decide ((IntKind.i64.wrap ((IntKind.i64.wrap (((x.c 0).toInt) + ((x.c 1).toInt))) - i1)) < (l3.length : Int))) then
            (l3[(IntKind.i64.wrap ((IntKind.i64.wrap (((x.c 0).toInt) + ((x.c 1).toInt))) - i1)).toNat]?).bind fun y1 =>
              (bif (Nat.blt 0 y1.cells.length && (Sh.bool).fits (y1.cl 0)) then
                bif (y1.cl 0).toBool then
                  L96_111111045141114 from_ to_ but l2 i1 n_Lines (IntKind.i64.wrap (i + (1 : Int))) n_Who l1 l3
                else L96_111111045141114511041116 from_ to_ but l2 i1 i (IntKind.i64.wrap ((IntKind.i64.wrap (((x.c 0).toInt) + ((x.c 1).toInt))) - i1)) n_Lines n_Who l1 l3
              else none)
          else none
        else none)
    else none
  else L96_11111104 from_ to_ but l2 n_Lines n_Who l1 l3 :=
  (LV_eq pa 96 _ _).trans (by kernel_rfl)
theorem e96_11111116 (from_ : Int) (to_ : Int) (n_Lines : List PV) (n_Who : List PV) (l1 : List PV) (l : List PV) : L96_11111116 from_ to_ n_Lines n_Who l1 l =
  bif (decide (0 ≤ to_) && decide (to_ < (l.length : Int))) then
    (l[to_.toNat]?).bind fun y =>
      (bif (Nat.blt 0 y.cells.length && (Sh.bool).fits (y.cl 0)) then
        bif (!(y.cl 0).toBool) then
          some (.pv .nils, [])
        else L96_111111111014 from_ to_ n_Lines n_Who l1
      else none)
  else none :=
  (LV_eq pa 96 _ _).trans (by kernel_rfl)
theorem e96_111111045141114511041116 (from_ : Int) (to_ : Int) (but : Int) (l : List PV) (i2 : Int) (i3 : Int) (i4 : Int) (n_Lines : List PV) (n_Who : List PV) (l1 : List PV) (l4 : List PV) : L96_111111045141114511041116 from_ to_ but l i2 i3 i4 n_Lines n_Who l1 l4 =
  bif (decide (0 ≤ i4) && decide (i4 < (l4.length : Int))) then
    (l4[i4.toNat]?).bind fun z =>
      (bif (Nat.blt 0 z.cells.length && true) then
        bif (decide (0 ≤ i4) && decide (i4 < (l1.length : Int))) then
          (l1[i4.toNat]?).bind fun z1 =>
            (bif (Nat.blt 0 z1.cells.length && true) then
              bif small (l.length) 1 8 then
                L96_111111045141114 from_ to_ but (l ++ [.int .i64 i4]) i2 n_Lines (IntKind.i64.wrap (i3 + (1 : Int))) n_Who (l1.set i4.toNat (z1.setc 0 (.int .i64 i3))) (l4.set i4.toNat (z.setc 0 (.bool true)))
              else none
            else none)
        else none
      else none)
  else none :=
  (LV_eq pa 96 _ _).trans (by kernel_rfl)
theorem e96_111111111014 (from_ : Int) (to_ : Int) (n_Lines : List PV) (n_Who : List PV) (l1 : List PV) : L96_111111111014 from_ to_ n_Lines n_Who l1 =
  bif (to_ != from_) then
    bif (decide (0 ≤ to_) && decide (to_ < (l1.length : Int))) then
      (l1[to_.toNat]?).bind fun y =>
        (bif (Nat.blt 0 y.cells.length && (Sh.int .i64).fits (y.cl 0)) then
          bif decide (0 ≤ ((y.cl 0).toInt)) then
            (n_Lines[((y.cl 0).toInt).toNat]?).bind fun x =>
              (bif (Sh.agg [Sh.int .i64, Sh.int .i64]).fits x then
                bif decide (0 ≤ ((y.cl 0).toInt)) then
                  (n_Lines[((y.cl 0).toInt).toNat]?).bind fun x1 =>
                    (bif (Sh.agg [Sh.int .i64, Sh.int .i64]).fits x1 then
                      L96_111111111014v1 from_ ((x.c 0).toInt) ((x1.c 1).toInt) to_ n_Lines n_Who l1 [.int .i64 ((y.cl 0).toInt)]
                    else none)
                else none
              else none)
          else none
        else none)
    else none
  else none :=
  (LV_eq pa 96 _ _).trans (by kernel_rfl)
theorem e96_111111111014v1 (from_ : Int) (v : Int) (v1 : Int) (to_ : Int) (n_Lines : List PV) (n_Who : List PV) (l1 : List PV) (l : List PV) : L96_111111111014v1 from_ v v1 to_ n_Lines n_Who l1 l =
  bif ((IntKind.i64.wrap ((IntKind.i64.wrap ((v) + (v1))) - to_)) != from_) then
    bif (decide (0 ≤ (IntKind.i64.wrap ((IntKind.i64.wrap ((v) + (v1))) - to_))) && decide ((IntKind.i64.wrap ((IntKind.i64.wrap ((v) + (v1))) - to_)) < (l1.length : Int))) then
      (l1[(IntKind.i64.wrap ((IntKind.i64.wrap ((v) + (v1))) - to_)).toNat]?).bind fun y =>
        (bif (Nat.blt 0 y.cells.length && (Sh.int .i64).fits (y.cl 0)) then
          bif small (l.length) 1 8 then
            bif decide (0 ≤ ((y.cl 0).toInt)) then
              (n_Lines[((y.cl 0).toInt).toNat]?).bind fun x =>
                (bif (Sh.agg [Sh.int .i64, Sh.int .i64]).fits x then
                  bif decide (0 ≤ ((y.cl 0).toInt)) then
                    (n_Lines[((y.cl 0).toInt).toNat]?).bind fun x1 =>
                      (bif (Sh.agg [Sh.int .i64, Sh.int .i64]).fits x1 then
                        L96_111111111014v1 from_ ((x.c 0).toInt) ((x1.c 1).toInt) (IntKind.i64.wrap ((IntKind.i64.wrap ((v) + (v1))) - to_)) n_Lines n_Who l1 (l ++ [.int .i64 ((y.cl 0).toInt)])
                      else none)
                  else none
                else none)
            else none
          else none
        else none)
    else none
  else (V 109 [.vec 1 l]).bind fun r =>
    (bif refFits [] [1] r.2 then
      (retPV (r.1, [])).bind fun r1 =>
        (bif (Sh.tup []).fits r1 then
          some (.pv (.lst (Out.v r 0)), [])
        else none)
    else none) :=
  (LV_eq pa 96 _ _).trans (by kernel_rfl)
/-! 109 slices.Reverse[[]int,int] -/
def st109_14 (i : Int) (i1 : Int) (s : List PV) : AS :=
  ⟨[.vec 0 0, .any, .pv (.int .i64 i), .pv (.int .i64 i1), .any, .any, .any, .any, .any, .any, .any, .any, .any, .any, .any, .any, .any, .any, .any, .any, .any, .any, .any, .any, .any, .any, .any, .any], ⟨[], [some (0, 1, s)], [], 0, 1⟩⟩
noncomputable def L109_14 (i : Int) (i1 : Int) (s : List PV) : Option Out := LV Pr T 109 [1, 4] (st109_14 i i1 s)
theorem e109 (s : List PV) : V 109 [.vec 1 s] =
  bif ((s.all fun x => Nat.beq x.cells.length 1) && true) then
    L109_14 0 (IntKind.i64.wrap ((s.length : Int) - (1 : Int))) s
  else none :=
  (V_eq pa rfl _).trans (by kernel_rfl)
theorem e109_14 (i : Int) (i1 : Int) (s : List PV) : L109_14 i i1 s =
  bif decide (i < i1) then
    bif (decide (0 ≤ i1) && decide (i1 < (s.length : Int))) then
      (s[i1.toNat]?).bind fun y =>
        (bif (Nat.blt 0 y.cells.length && (Sh.int .i64).fits (y.cl 0)) then
          bif (decide (0 ≤ i) && decide (i < (s.length : Int))) then
            (s[i.toNat]?).bind fun y1 =>
              (bif (Nat.blt 0 y1.cells.length && (Sh.int .i64).fits (y1.cl 0)) then
                bif (decide (0 ≤ i) && decide (i < (s.length : Int))) then
                  (s[i.toNat]?).bind fun z =>
                    (bif (Nat.blt 0 z.cells.length && true) then
                      bif (decide (0 ≤ i1) && decide (i1 < ((s.set i.toNat (z.setc 0 (.int .i64 ((y.cl 0).toInt)))).length : Int))) then
                        ((s.set i.toNat (z.setc 0 (.int .i64 ((y.cl 0).toInt))))[i1.toNat]?).bind fun z1 =>
                          (bif (Nat.blt 0 z1.cells.length && true) then
                            L109_14 (IntKind.i64.wrap (i + (1 : Int))) (IntKind.i64.wrap (i1 - (1 : Int))) ((s.set i.toNat (z.setc 0 (.int .i64 ((y.cl 0).toInt)))).set i1.toNat (z1.setc 0 (.int .i64 ((y1.cl 0).toInt))))
                          else none)
                      else none
                    else none)
                else none
              else none)
          else none
        else none)
    else none
  else some (.pv (.tup []), [.vec s]) :=
  (LV_eq pa 109 _ _).trans (by kernel_rfl)
/-! 17 roadstead/roadkeep2.TalkGoes -/
def st17_1111111014 (v : List PV) (n_Who : List PV) (i : Int) : AS :=
  ⟨[.any, .any, .any, .any, .any, .any, .any, .any, .any, .any, .pv (.lst v), .any, .any, .any, .any, .any, .any, .any, .any, .any, .any, .any, .any, .any, .any, .any, .any, .any, .any, .any, .any, .any, .any, .any, .any, .any, .any, .any, .any, .any, .any, .any, .any, .any, .any, .any, .any, .any, .any, .any, .any, .any, .any, .any, .pv (.lst n_Who), .pv (.int .i64 (n_Who.length : Int)), .pv (.int .i64 i), .any, .any, .any, .any, .any, .any, .any, .any, .any, .any, .any, .any], ⟨[], [], [], 0, 0⟩⟩
noncomputable def L17_1111111014 (v : List PV) (n_Who : List PV) (i : Int) : Option Out := LV Pr T 17 [1, 1, 1, 1, 1, 1, 1, 0, 1, 4] (st17_1111111014 v n_Who i)
theorem e17 (n_Lines : List PV) (n_Who : List PV) (picks : List PV) : V 17 [.pv (.agg [.lst n_Lines, .lst n_Who]), .pv (.lst picks)] =
  ((V 21 []).bind retPV).bind fun r =>
    (bif (Sh.bool).fits r then
      bif (!r.toBool) then
        some (.pv (.bool false), [])
      else ((V 31 [.pv (.agg [.lst n_Lines, .lst n_Who])]).bind retPV).bind fun r1 =>
        (bif (Sh.tup [Sh.int .i64, Sh.int .i64]).fits r1 then
          ((V 61 [.pv (.agg [.lst n_Lines, .lst n_Who])]).bind retPV).bind fun r2 =>
            (bif (Sh.tup [Sh.lst, Sh.int .i64]).fits r2 then
              bif (((r1.r 1).toInt) != (0 : Int)) then
                some (.pv (.bool true), [])
              else bif decide (((r1.r 0).toInt) ≥ (0 : Int)) then
                some (.pv (.bool true), [])
              else bif (((r2.r 1).toInt) != (4 : Int)) then
                some (.pv (.bool true), [])
              else ((V 22 [.pv (.agg [.lst n_Lines, .lst n_Who]), .pv (.lst picks)]).bind retPV).bind fun r3 =>
                (bif (Sh.tup [Sh.lst, Sh.lst, Sh.int .i64]).fits r3 then
                  bif (((r3.r 2).toInt) != (0 : Int)) then
                    some (.pv (.bool false), [])
                  else bif (((r3.r 1).toLst.length : Int) != (n_Who.length : Int)) then
                    some (.pv (.bool false), [])
                  else L17_1111111014 ((r3.r 1).toLst) n_Who 0
                else none)
            else none)
        else none)
    else none) :=
  (V_eq pa rfl _).trans (by kernel_rfl)
theorem e17_1111111014 (v : List PV) (n_Who : List PV) (i : Int) : L17_1111111014 v n_Who i =
  bif decide (i < (n_Who.length : Int)) then
    bif decide (0 ≤ i) then
      (n_Who[i.toNat]?).bind fun x =>
        (bif (Sh.lst).fits x then
          bif decide (0 ≤ i) then
            (v[i.toNat]?).bind fun x1 =>
              (bif (Sh.int .i64).fits x1 then
                bif ((x1.toInt) != (x.toLst.length : Int)) then
                  some (.pv (.bool false), [])
                else L17_1111111014 v n_Who (IntKind.i64.wrap (i + (1 : Int)))
              else none)
          else none
        else none)
    else none
  else some (.pv (.bool true), []) :=
  (LV_eq pa 17 _ _).trans (by kernel_rfl)
end Go.AL.S1
