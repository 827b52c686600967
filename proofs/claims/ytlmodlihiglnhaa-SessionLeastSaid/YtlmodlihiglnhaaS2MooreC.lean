/- Sessions: classes made finer: MOORE. -/
import Derived.Test.YtlmodlihiglnhaaS2MooreB
set_option linter.unusedVariables false
set_option linter.unusedSimpArgs false
namespace Go.AL.S2.Se
open Go Go.AL Go.AL.S2

theorem set_mid {α : Type} (A : List α) (x y : α) (B : List α) : (A ++ x :: B).set A.length y = A ++ y :: B := by
  rw [List.set_append_right _ _ (Nat.le_refl _)]; simp

theorem l10a {ls : List Sta} (hw : WF ls) {cl : List Nat} (hcl : cl.length = ls.length) : ∀ (rest : List Nat) (i : Nat), i + rest.length = ls.length →
    L10_111045411014 (ls.map eSt) (fineP (alk ls cl) i).2 i (cl.map eN) (((fineP (alk ls cl) i).1 ++ rest).map eN) = bif (fineP (alk ls cl) ls.length).1 == cl then T31 ls cl else L10_11104 (ls.map eSt) ((fineP (alk ls cl) ls.length).1.map eN)
  | [], i, h => by
    have hn := hw.n
    have hi : i = ls.length := by simpa using h
    subst hi
    rw [e10_111045411014]
    have hl := fineP_len (alk ls cl) ls.length
    simp only [List.length_map, dF (Int.lt_irrefl _), cond_false, List.append_nil]
    rw [lent_bool (v30 _ cl (by omega) (show (fineP (alk ls cl) ls.length).1.length ≤ maxLen by simp [maxLen]; omega)), toBool_bool]
    simp only [T31]
  | r0 :: rest, i, h => by
    have hn := hw.n
    simp only [List.length_cons] at h
    have hl := fineP_len (alk ls cl) i
    have ih := l10a hw hcl rest (i + 1) (by omega)
    have hlen : ((fineP (alk ls cl) i).1 ++ r0 :: rest).length = ls.length := by simp [hl]; omega
    have hg : ((fineP (alk ls cl) i).1 ++ r0 :: rest)[i]? = some r0 := by
      rw [List.getElem?_append_right (by omega), hl]; simp
    have hset : ∀ x v : Nat, ((fineP (alk ls cl) i).1 ++ x :: rest).set i v = (fineP (alk ls cl) i).1 ++ v :: rest := fun x v => by
      have := set_mid (fineP (alk ls cl) i).1 x v rest
      rw [hl] at this; exact this
    have hsz : ∀ x : Nat, ((fineP (alk ls cl) i).1 ++ x :: rest).length = ls.length := fun x => by simp [hl]; omega
    rw [e10_111045411014]
    simp only [List.length_map, dT (show (i : Int) < ((ls.length : Nat) : Int) by omega), cond_true, dT (Int.natCast_nonneg i), hlen, Bool.and_self, Int.toNat_natCast, get_map (f := eN) hg, Option.bind_some, nc_set, nc_eta, ← List.map_set, hset]
    have hc := l10c hw hcl (hsz (fineP (alk ls cl) i).2) (show i < ls.length by omega) (fineP (alk ls cl) i).2 i 0 (by omega)
    rw [show ((0 : Nat) : Int) = 0 from rfl] at hc
    rw [hc]
    have hv : put1 ((fineP (alk ls cl) i).1 ++ (fineP (alk ls cl) i).2 :: rest) i (fst1 (alk ls cl i) i 0) = (fineP (alk ls cl) i).1 ++ nxtV (alk ls cl) i (fineP (alk ls cl) i) :: rest := by
      unfold nxtV
      cases hf : fst1 (alk ls cl i) i 0 with
      | none => rfl
      | some j =>
        obtain ⟨_, j2, _⟩ := fst1_some hf
        simp only [put1]
        rw [hset]
        have : ((fineP (alk ls cl) i).1 ++ (fineP (alk ls cl) i).2 :: rest).getD j 0 = (fineP (alk ls cl) i).1.getD j 0 := by
          simp [List.getD, List.getElem?_append_left (show j < (fineP (alk ls cl) i).1.length by omega)]
        rw [this]
    rw [hv]
    have hgv : ((fineP (alk ls cl) i).1 ++ nxtV (alk ls cl) i (fineP (alk ls cl) i) :: rest)[i]? = some (nxtV (alk ls cl) i (fineP (alk ls cl) i)) := by
      rw [List.getElem?_append_right (by omega), hl]; simp
    rw [e10_111045411014511041116]
    simp only [dT (Int.natCast_nonneg i), List.length_map, hsz, dT (show (i : Int) < ((ls.length : Nat) : Int) by omega), Bool.and_self, cond_true, Int.toNat_natCast, get_map (f := eN) hgv, Option.bind_some, nc_fits, nc_i, beq_cast]
    obtain ⟨_, b2, _⟩ : True ∧ (fineP (alk ls cl) i).2 ≤ i ∧ True := by
      refine ⟨trivial, ?_, trivial⟩
      have : ∀ i, (fineP (alk ls cl) i).2 ≤ i := fun i => by
        induction i with
        | zero => exact Nat.le_refl _
        | succ i ih => simp only [fineP]; split <;> omega
      exact this i
    rw [wrap_i64 (n := (i : Int) + 1) (by omega) (by omega), wrap_i64 (n := ((fineP (alk ls cl) i).2 : Int) + 1) (by omega) (by omega)]
    rw [← ih]
    have e1 : ((i : Int) + 1) = ((i + 1 : Nat) : Int) := by omega
    have e2 : (((fineP (alk ls cl) i).2 : Int) + 1) = (((fineP (alk ls cl) i).2 + 1 : Nat) : Int) := by omega
    rw [e1, e2]
    simp only [fineP]
    by_cases hv2 : nxtV (alk ls cl) i (fineP (alk ls cl) i) = (fineP (alk ls cl) i).2
    · simp [hv2]
    · rw [show (nxtV (alk ls cl) i (fineP (alk ls cl) i) == (fineP (alk ls cl) i).2) = false from by simpa using hv2]
      simp [hv2]

theorem zeros (n : Nat) : List.replicate n (PV.int .i64 0) = (List.replicate n 0).map eN := by simp [eN]
theorem l10r {ls : List Sta} (hw : WF ls) {cl : List Nat} (hcl : cl.length = ls.length) : L10_11104 (ls.map eSt) (cl.map eN) = bif (fineP (alk ls cl) ls.length).1 == cl then T31 ls cl else L10_11104 (ls.map eSt) ((fineP (alk ls cl) ls.length).1.map eN) := by
  have hn := hw.n
  have h := l10a hw hcl (List.replicate ls.length 0) 0 (by simp)
  rw [e10_11104]
  simp only [List.length_map, dT (Int.natCast_nonneg _), dT (Int.le_refl _), dT (show (ls.length : Int) ≤ 2147483648 by omega), Bool.and_self, Bool.true_and, show Nat.ble 8 65536 = true from rfl, show Nat.blt 0 1 = true from rfl, cond_true, Int.toNat_natCast, zeros]
  simpa [fineP] using h

end Go.AL.S2.Se
