/- Tokens by their spelling: names, numbers, signs, texts; where they stand, they are read. -/
import Derived.Test.YtlmodlihiglnhaaDoorS8Text
set_option linter.unusedVariables false
set_option linter.unusedSimpArgs false
set_option maxRecDepth 20000
namespace Go.AL.S8.Tok
open Go Go.AL Go.AL.S8

def lowB (c : UInt8) : Bool := bif decide ((c.toNat : Int) ≥ 97) then decide ((c.toNat : Int) ≤ 122) else false
def greatB (c : UInt8) : Bool := bif decide ((c.toNat : Int) ≥ 65) then decide ((c.toNat : Int) ≤ 90) else false
def digB (c : UInt8) : Bool := bif decide ((c.toNat : Int) ≥ 48) then decide ((c.toNat : Int) ≤ 57) else false
def innB (c : UInt8) : Bool := bif lowB c then true else bif greatB c then true else bif digB c then true else (c.toNat : Int) == 95
theorem v81 (c : UInt8) : V 81 [.pv (.int .u8 (c.toNat : Int))] = some (.pv (.bool (lowB c)), []) := by
  rw [e81]; unfold lowB; cases decide ((c.toNat : Int) ≥ 97) <;> rfl
theorem v82 (c : UInt8) : V 82 [.pv (.int .u8 (c.toNat : Int))] = some (.pv (.bool (greatB c)), []) := by
  rw [e82]; unfold greatB; cases decide ((c.toNat : Int) ≥ 65) <;> rfl
theorem v47 (c : UInt8) : V 47 [.pv (.int .u8 (c.toNat : Int))] = some (.pv (.bool (digB c)), []) := by
  rw [e47]; unfold digB; cases decide ((c.toNat : Int) ≥ 48) <;> rfl
theorem v83 (c : UInt8) : V 83 [.pv (.int .u8 (c.toNat : Int))] = some (.pv (.bool (innB c)), []) := by
  rw [e83, v81, v82, v47]
  simp only [Option.bind_some, retPV_pv, fits_bool, toBool_bool, cond_true]
  unfold innB
  cases lowB c <;> cases greatB c <;> cases digB c <;> rfl
/-- Is it a word of the language? -/
noncomputable def wordB (s : Str) : Bool := match V 46 [.pv (.str s)] with
  | some (.pv (.bool b), _) => b
  | _ => false
theorem v46 (s : Str) : V 46 [.pv (.str s)] = some (.pv (.bool (wordB s)), []) := by
  obtain ⟨b, hb⟩ := b103 s
  unfold wordB
  rw [hb]
/-- What follows begins with nothing of the kind. -/
def Stops (p : UInt8 → Bool) (rest : Str) : Prop := ∀ c l, rest = c :: l → p c = false
theorem mid (pre run rest : Str) : ((pre ++ (run ++ rest)).take (pre.length + run.length)).drop pre.length = run := by
  rw [← List.append_assoc, ← List.length_append, List.take_left, List.drop_left]
theorem midI (pre run rest : Str) : ((pre ++ (run ++ rest)).take ((pre.length + run.length : Nat) : Int).toNat).drop ((pre.length : Nat) : Int).toNat = run := by
  rw [Int.toNat_natCast, Int.toNat_natCast]; exact mid pre run rest

/-! #### Names -/
theorem scanN (i : Nat) (c : UInt8) : ∀ (run pre rest : Str), run.all innB = true → pre.length + run.length ≤ 5000 → L43_111041204 (pre ++ (run ++ rest)) i c pre.length = L43_111041204 (pre ++ (run ++ rest)) i c (pre.length + run.length : Nat)
  | [], pre, rest, _, _ => by simp
  | x :: run, pre, rest, h, hl => by
    simp only [List.all_cons, Bool.and_eq_true] at h
    simp only [List.length_cons] at hl
    have ih := scanN i c run (pre ++ [x]) rest h.2 (by simp only [List.length_append, List.length_cons, List.length_nil]; omega)
    have e : pre ++ [x] ++ (run ++ rest) = pre ++ (x :: run ++ rest) := by simp
    rw [e] at ih
    have hx : (pre ++ (x :: run ++ rest))[pre.length]? = some x := at0
    rw [e43_111041204]
    simp only [dlt (lt_of hx), dge, gI hx, cond_true, Option.bind_some, v83, retPV_pv, fits_bool, toBool_bool, h.1, wr1 (show pre.length ≤ 5000 by omega)]
    simp only [List.length_append, List.length_cons, List.length_nil, Nat.zero_add] at ih
    rw [ih, show pre.length + 1 + run.length = pre.length + (x :: run).length by simp only [List.length_cons]; omega]
theorem stopN (i : Nat) (c : UInt8) (pre rest : Str) (h : Stops innB rest) : L43_111041204 (pre ++ rest) i c pre.length = L43_111041216 (pre ++ rest) i c pre.length := by
  rw [e43_111041204]
  cases rest with
  | nil => rw [dnlt (by simp)]; rfl
  | cons x rest =>
    have hx : (pre ++ x :: rest)[pre.length]? = some x := at0
    simp only [dlt (lt_of hx), dge, gI hx, cond_true, Option.bind_some, v83, retPV_pv, fits_bool, toBool_bool, h x rest rfl, cond_false]
noncomputable def kindN (c : UInt8) (run : Str) : Int := bif lowB c then (bif wordB run then 3 else 1) else 2
theorem wsub {i n : Nat} (h : i + n ≤ 5000) : IntKind.i64.wrap (((i + n : Nat) : Int) - (i : Int)) = (n : Int) := by
  rw [wrap_i64 (by omega) (by omega)]; omega
theorem nxName {c : UInt8} {run pre rest : Str} (hc : (bif lowB c then true else greatB c) = true) (hin : (c :: run).all innB = true) (hs : Stops innB rest) (hl : pre.length + (c :: run).length ≤ 5000) :
    nxV (pre ++ (c :: run ++ rest)) pre.length = tkO (kindN c (c :: run)) (c :: run) pre.length (pre.length + (c :: run).length : Nat) (decide (((c :: run).length : Int) ≤ 16)) := by
  have hx : (pre ++ (c :: run ++ rest))[pre.length]? = some c := at0
  have e0 : nxV (pre ++ (c :: run ++ rest)) pre.length = L43_1110416 (pre ++ (c :: run ++ rest)) pre.length c (bif lowB c then true else greatB c) := by
    unfold nxV
    rw [e43]
    simp only [dge, gI hx, cond_true, Option.bind_some, v81, v82, retPV_pv, fits_bool, toBool_bool]
    cases lowB c <;> rfl
  have e1 := scanN pre.length c (c :: run) pre rest hin hl
  have e2 := stopN pre.length c (pre ++ c :: run) rest hs
  rw [List.append_assoc, List.length_append] at e2
  have hlen : (pre.length + (c :: run).length : Nat) ≤ (pre ++ (c :: run ++ rest)).length := by simp only [List.length_append]; omega
  rw [e0, hc, e43_1110416]
  simp only [cond_true]
  rw [e1, e2, e43_111041216, dge, decide_eq_true (show ((pre.length : Nat) : Int) ≤ ((pre.length + (c :: run).length : Nat) : Int) by omega), decide_eq_true (show ((pre.length + (c :: run).length : Nat) : Int) ≤ ((pre ++ (c :: run ++ rest)).length : Int) by omega), v81, midI, v46]
  simp only [Bool.and_self, cond_true, Option.bind_some, retPV_pv, fits_bool, toBool_bool]
  have last : ∀ k : Int, L43_11104121116 pre.length (pre.length + (c :: run).length : Nat) k (pre ++ (c :: run ++ rest)) = tkO k (c :: run) pre.length (pre.length + (c :: run).length : Nat) (decide (((c :: run).length : Int) ≤ 16)) := fun k => by
    rw [e43_11104121116, midI, wsub hl]; rfl
  unfold kindN
  cases lowB c with
  | false => exact last 2
  | true =>
    cases wordB (c :: run) with
    | true => exact last 3
    | false => exact last 1

/-! #### Numbers -/
theorem scanG (i : Nat) : ∀ (run pre rest : Str), run.all digB = true → pre.length + run.length ≤ 5000 → L43_11104131204 (pre ++ (run ++ rest)) i pre.length = L43_11104131204 (pre ++ (run ++ rest)) i (pre.length + run.length : Nat)
  | [], pre, rest, _, _ => by simp
  | x :: run, pre, rest, h, hl => by
    simp only [List.all_cons, Bool.and_eq_true] at h
    simp only [List.length_cons] at hl
    have ih := scanG i run (pre ++ [x]) rest h.2 (by simp only [List.length_append, List.length_cons, List.length_nil]; omega)
    have e : pre ++ [x] ++ (run ++ rest) = pre ++ (x :: run ++ rest) := by simp
    rw [e] at ih
    have hx : (pre ++ (x :: run ++ rest))[pre.length]? = some x := at0
    rw [e43_11104131204]
    simp only [dlt (lt_of hx), dge, gI hx, cond_true, Option.bind_some, v47, retPV_pv, fits_bool, toBool_bool, h.1, wr1 (show pre.length ≤ 5000 by omega)]
    simp only [List.length_append, List.length_cons, List.length_nil, Nat.zero_add] at ih
    rw [ih, show pre.length + 1 + run.length = pre.length + (x :: run).length by simp only [List.length_cons]; omega]
theorem stopG (i : Nat) (pre rest : Str) (h : Stops digB rest) : L43_11104131204 (pre ++ rest) i pre.length = L43_11104131216 (pre ++ rest) i pre.length := by
  rw [e43_11104131204]
  cases rest with
  | nil => rw [dnlt (by simp)]; rfl
  | cons x rest =>
    have hx : (pre ++ x :: rest)[pre.length]? = some x := at0
    simp only [dlt (lt_of hx), dge, gI hx, cond_true, Option.bind_some, v47, retPV_pv, fits_bool, toBool_bool, h x rest rfl, cond_false]
def okG (rest : Str) : Bool := match rest with
  | [] => true
  | x :: _ => !innB x
theorem low_not_dig {c : UInt8} (h : digB c = true) : lowB c = false ∧ greatB c = false := by
  have h1 : 48 ≤ c.toNat ∧ c.toNat ≤ 57 := by
    unfold digB at h
    cases h0 : decide ((c.toNat : Int) ≥ 48) with
    | false => rw [h0] at h; cases h
    | true =>
      rw [h0] at h
      have := of_decide_eq_true h0
      have := of_decide_eq_true h
      omega
  unfold lowB greatB
  rw [decide_eq_false (show ¬ (c.toNat : Int) ≥ 97 by omega), decide_eq_false (show ¬ (c.toNat : Int) ≥ 65 by omega)]
  exact ⟨rfl, rfl⟩
theorem nxDig {c : UInt8} {run pre rest : Str} (hin : (c :: run).all digB = true) (hs : Stops digB rest) (hl : pre.length + (c :: run).length ≤ 5000) :
    nxV (pre ++ (c :: run ++ rest)) pre.length = tkO 4 (c :: run) pre.length (pre.length + (c :: run).length : Nat) (okG rest) := by
  have hx : (pre ++ (c :: run ++ rest))[pre.length]? = some c := at0
  have hd : digB c = true := by simp only [List.all_cons, Bool.and_eq_true] at hin; exact hin.1
  obtain ⟨n1, n2⟩ := low_not_dig hd
  have e1 := scanG pre.length (c :: run) pre rest hin hl
  have e2 := stopG pre.length (pre ++ c :: run) rest hs
  rw [List.append_assoc, List.length_append] at e2
  have hlen : (pre.length + (c :: run).length : Nat) ≤ (pre ++ (c :: run ++ rest)).length := by simp only [List.length_append]; omega
  unfold nxV
  rw [e43]
  simp only [dge, gI hx, cond_true, Option.bind_some, v81, v82, retPV_pv, fits_bool, toBool_bool, n1, n2, cond_false]
  rw [e43_1110416, v47, hd]
  simp only [cond_true, cond_false, Option.bind_some, retPV_pv, fits_bool, toBool_bool]
  rw [e1, e2, e43_11104131216, dge, decide_eq_true (show ((pre.length : Nat) : Int) ≤ ((pre.length + (c :: run).length : Nat) : Int) by omega), decide_eq_true (show ((pre.length + (c :: run).length : Nat) : Int) ≤ ((pre ++ (c :: run ++ rest)).length : Int) by omega), midI]
  simp only [Bool.and_self, cond_true]
  cases rest with
  | nil =>
    have hd2 : decide (((pre.length + (c :: run).length : Nat) : Int) ≥ ((List.length (pre ++ (c :: run ++ [])) : Nat) : Int)) = true := decide_eq_true (by simp only [List.length_append, List.length_nil]; omega)
    rw [hd2]
    rfl
  | cons x rest =>
    have hy : (pre ++ (c :: run ++ x :: rest))[pre.length + (c :: run).length]? = some x := by
      rw [← List.append_assoc, ← List.length_append]; exact at0
    have := lt_of hy
    have hd2 : decide (((pre.length + (c :: run).length : Nat) : Int) ≥ ((List.length (pre ++ (c :: run ++ x :: rest)) : Nat) : Int)) = false := decide_eq_false (by omega)
    rw [hd2, dge]
    simp only [cond_true, cond_false, gI hy, Option.bind_some, v83, retPV_pv, fits_bool, toBool_bool]
    rfl
end Go.AL.S8.Tok
