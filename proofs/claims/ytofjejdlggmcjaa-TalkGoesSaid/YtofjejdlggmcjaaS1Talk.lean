/- Talks: check, ready, run, in plain Lean. -/
import Derived.Test.YtofjejdlggmcjaaS1ETalk
import Derived.Test.YtofjejdlggmcjaaAL4
set_option linter.unusedVariables false
set_option linter.unusedSimpArgs false
namespace Go.AL.S1
open Go Go.AL

abbrev Line := Int × Int
abbrev Deed := Int × Bool × Int
def eLine (x : Line) : PV := .agg [.int .i64 x.1, .int .i64 x.2]
def eDeed (x : Deed) : PV := .agg [.int .i64 x.1, .bool x.2.1, .int .i64 x.2.2]
def eDs (w : List Deed) : PV := .lst (w.map eDeed)
def eInt (n : Int) : PV := .int .i64 n
def eNat (n : Nat) : PV := .int .i64 n
abbrev eNet (ls : List Line) (ws : List (List Deed)) : PV := .agg [.lst (ls.map eLine), .lst (ws.map eDs)]

theorem line_fits (x : Line) : (Sh.agg [Sh.int .i64, Sh.int .i64]).fits (eLine x) = true := nrfl rfl
theorem line_a (x : Line) : ((eLine x).c 0).toInt = x.1 := nrfl rfl
theorem line_b (x : Line) : ((eLine x).c 1).toInt = x.2 := nrfl rfl
theorem deed_fits (x : Deed) : (Sh.agg [Sh.int .i64, Sh.bool, Sh.int .i64]).fits (eDeed x) = true := nrfl rfl
theorem deed_l (x : Deed) : ((eDeed x).c 0).toInt = x.1 := nrfl rfl
theorem deed_s (x : Deed) : ((eDeed x).c 1).toBool = x.2.1 := nrfl rfl
theorem deed_m (x : Deed) : ((eDeed x).c 2).toInt = x.2.2 := nrfl rfl
theorem ds_fits (w : List Deed) : Sh.lst.fits (eDs w) = true := nrfl rfl
theorem ds_l (w : List Deed) : (eDs w).toLst = w.map eDeed := nrfl rfl

/-! #### Check -/
def ckL (m : Int) : List Line → Int
  | [] => 0
  | x :: l => if x.1 < 0 then 1 else if x.2 < 0 then 1 else if x.1 ≥ m then 1 else if x.2 ≥ m then 1 else if x.1 = x.2 then 1 else ckL m l
def ckD (ls : List Line) (i : Int) : List Deed → Int
  | [] => 0
  | d :: l => if d.1 < 0 then 1 else if d.1 ≥ ls.length then 1 else if d.2.2 < 0 then 1 else if d.2.2 > 20 then 1 else
    match ls[d.1.toNat]? with
    | some x => if x.1 ≠ i ∧ x.2 ≠ i then 7 else ckD ls i l
    | none => 0
def ckW (ls : List Line) : Nat → List (List Deed) → Int
  | _, [] => 0
  | i, w :: l => if (w.length : Int) > 40 then 2 else if ckD ls i w ≠ 0 then ckD ls i w else ckW ls (i + 1) l
def check (ls : List Line) (ws : List (List Deed)) : Int :=
  if (ws.length : Int) > 8 then 2 else if (ls.length : Int) > 12 then 2 else if ckL ws.length ls ≠ 0 then ckL ws.length ls else ckW ls 0 ws

theorem l63a {ls : List Line} {ws : List (List Deed)} (hls : ls.length ≤ maxLen) : ∀ (l : List Line) (k : Nat), ls.drop k = l → L63_11014 (ls.map eLine) k (ws.map eDs) =
    if ckL ws.length l ≠ 0 then some (.pv (.int .i64 (ckL ws.length l)), []) else L63_111014 (ws.map eDs) 0 (ls.map eLine)
  | [], k, h => by
    rw [e63_11014, endK_map h]
    rfl
  | x :: l, k, h => by
    have A := atK_map (f := eLine) h hls
    have ih := l63a (ws := ws) hls l (k + 1) (atK h hls).drop
    rw [e63_11014]
    simp only [A.lt, A.ge, A.get, A.next, cond_true, Option.bind_some]
    simp only [Bool.cond_decide]
    simp only [cond_true, line_fits, line_a, line_b, Bool.cond_decide, List.length_map, ckL]
    by_cases h1 : x.1 < 0
    · simp [h1]
    by_cases h2 : x.2 < 0
    · simp [h1, h2]
    by_cases h3 : x.1 ≥ (ws.length : Int)
    · simp [h1, h2, h3]
    by_cases h4 : x.2 ≥ (ws.length : Int)
    · simp [h1, h2, h3, h4]
    by_cases h5 : x.1 = x.2
    · simp [h1, h2, h3, h4, h5]
    · have h5' : (x.1 == x.2) = false := by simpa using h5
      simp only [h1, h2, h3, h4, h5, h5', if_false, cond_false]
      exact ih

theorem l63c {ls : List Line} {ws : List (List Deed)} {w : List Deed} (hw : w.length ≤ maxLen) (i : Nat) : ∀ (l : List Deed) (k : Nat), w.drop k = l → L63_111014511041114 i (ws.map eDs) (w.map eDeed) k (ls.map eLine) =
    if ckD ls i l ≠ 0 then some (.pv (.int .i64 (ckD ls i l)), []) else L63_111014 (ws.map eDs) (IntKind.i64.wrap ((i : Int) + 1)) (ls.map eLine)
  | [], k, h => by
    rw [e63_111014511041114, endK_map h]
    rfl
  | d :: l, k, h => by
    have A := atK_map (f := eDeed) h hw
    have ih := l63c (ls := ls) (ws := ws) hw i l (k + 1) (atK h hw).drop
    rw [e63_111014511041114]
    simp only [A.lt, A.ge, A.get, A.next, cond_true, Option.bind_some]
    simp only [Bool.cond_decide]
    simp only [cond_true, deed_fits, deed_l, deed_m, Bool.cond_decide, List.length_map, ckD]
    by_cases h1 : d.1 < 0
    · simp [h1]
    by_cases h2 : d.1 ≥ (ls.length : Int)
    · simp [h1, h2]
    by_cases h3 : d.2.2 < 0
    · simp [h1, h2, h3]
    by_cases h4 : d.2.2 > 20
    · simp [h1, h2, h3, h4]
    obtain ⟨x, hx, _⟩ := get_int (xs := ls) (i := d.1) (by omega) (by omega)
    have h0 : 0 ≤ d.1 := by omega
    simp only [if_neg h1, if_neg h2, if_neg h3, if_neg h4, if_pos h0, List.getElem?_map, hx, Option.map_some, Option.bind_some, line_fits, line_a, line_b, cond_true]
    by_cases h5 : x.1 = i
    · rw [show (x.1 != (i : Int)) = false from by simpa using h5, if_neg (show ¬ (x.1 ≠ (i : Int) ∧ x.2 ≠ (i : Int)) from by simp [h5])]
      exact ih
    · rw [show (x.1 != (i : Int)) = true from by simpa using h5]
      by_cases h6 : x.2 = i
      · rw [show (x.2 != (i : Int)) = false from by simpa using h6, if_neg (show ¬ (x.1 ≠ (i : Int) ∧ x.2 ≠ (i : Int)) from by simp [h6])]
        exact ih
      · rw [show (x.2 != (i : Int)) = true from by simpa using h6, if_pos (show (x.1 ≠ (i : Int) ∧ x.2 ≠ (i : Int)) from ⟨h5, h6⟩)]
        rfl

theorem l63b {ls : List Line} {ws : List (List Deed)} (hws : ws.length ≤ maxLen) : ∀ (l : List (List Deed)) (k : Nat), ws.drop k = l → L63_111014 (ws.map eDs) k (ls.map eLine) = some (.pv (.int .i64 (ckW ls k l)), [])
  | [], k, h => by
    rw [e63_111014, endK_map h]
    rfl
  | w :: l, k, h => by
    have A := atK_map (f := eDs) h hws
    have ih := l63b (ls := ls) hws l (k + 1) (atK h hws).drop
    rw [e63_111014]
    simp only [A.lt, A.ge, A.get, cond_true, Option.bind_some]
    simp only [Bool.cond_decide]
    simp only [cond_true, ds_fits, ds_l, List.length_map, Bool.cond_decide, ckW]
    by_cases h1 : (w.length : Int) > 40
    · simp [h1]
    · simp only [h1, if_false]
      have hw : w.length ≤ maxLen := by simp [maxLen]; omega
      have := l63c (ls := ls) (ws := ws) hw k w 0 rfl
      rw [show ((0 : Nat) : Int) = 0 from rfl] at this
      rw [this, A.next, ih]
      split <;> rfl

theorem v63 {ls : List Line} {ws : List (List Deed)} (hls : ls.length ≤ maxLen) (hws : ws.length ≤ maxLen) : V 63 [.pv (eNet ls ws)] = some (.pv (.int .i64 (check ls ws)), []) := by
  have h1 := l63a (ws := ws) hls ls 0 rfl
  have h2 := l63b (ls := ls) hws ws 0 rfl
  rw [show ((0 : Nat) : Int) = 0 from rfl] at h1 h2
  rw [e63]
  simp only [List.length_map, Bool.cond_decide, h1, h2, check]
  repeat' (split <;> try rfl)
end Go.AL.S1
