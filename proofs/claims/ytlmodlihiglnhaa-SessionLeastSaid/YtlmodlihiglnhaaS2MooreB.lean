/- Sessions: classes made finer: MOORE. -/
import Derived.Test.YtlmodlihiglnhaaS2MooreA
set_option linter.unusedVariables false
set_option linter.unusedSimpArgs false
namespace Go.AL.S2.Se
open Go Go.AL Go.AL.S2

theorem lent_bool {x : Option Out} {b : Bool} (h : x = some (.pv (.bool b), [])) (F : PV → Option Out) : (x.bind fun r => (retPV r).bind fun r1 => bif Sh.bool.fits r1 then F r1 else none) = F (.bool b) := by
  subst h; rfl
def put1 (fine : List Nat) (i : Nat) : Option Nat → List Nat
  | some j => fine.set i (fine.getD j 0)
  | none => fine
theorem l10c {ls : List Sta} (hw : WF ls) {cl fine : List Nat} (hcl : cl.length = ls.length) (hf : fine.length = ls.length) {i : Nat} (hi : i < ls.length) (n : Int) (c : Nat) : ∀ (k : Nat), k + c = i → L10_1110454110145110411014 (ls.map eSt) n i k (cl.map eN) (fine.map eN) = L10_111045411014511041116 (ls.map eSt) n i (cl.map eN) ((put1 fine i (fst1 (alk ls cl i) c k)).map eN) := by
  induction c with
  | zero =>
    intro k hk
    rw [e10_1110454110145110411014, dF (show ¬ (k : Int) < (i : Int) by omega)]
    simp only [cond_false, fst1, put1]
  | succ c ih =>
    intro k hk
    have hn := hw.n
    have ih := ih (k + 1) (by omega)
    have h29 := v29 hw hcl hi (show k < ls.length by omega)
    have g1 := get_map (f := eN) (getD_at 0 (show k < fine.length by omega))
    have g2 := get_map (f := eN) (getD_at 0 (show i < fine.length by omega))
    rw [e10_1110454110145110411014, dT (show (k : Int) < (i : Int) by omega)]
    rw [cond_true, lent_bool h29, toBool_bool]
    cases ha : alk ls cl i k with
    | true =>
      have hf1 : fst1 (alk ls cl i) (c + 1) k = some k := by simp [fst1, ha]
      rw [hf1]
      simp only [cond_true, put1, dT (Int.natCast_nonneg k), dT (Int.natCast_nonneg i), List.length_map, dT (show (k : Int) < ((fine.length : Nat) : Int) by omega), dT (show (i : Int) < ((fine.length : Nat) : Int) by omega), Bool.and_self, Int.toNat_natCast, g1, g2, Option.bind_some, nc_fits, nc_set, nc_i, nc_eta, List.map_set]
    | false =>
      have hf1 : fst1 (alk ls cl i) (c + 1) k = fst1 (alk ls cl i) c (k + 1) := by simp [fst1, ha]
      rw [hf1]
      simp only [cond_false]
      rw [wrap_i64 (show -9223372036854775808 ≤ (k : Int) + 1 by omega) (by omega), show (k : Int) + 1 = ((k + 1 : Nat) : Int) from by omega]
      exact ih

end Go.AL.S2.Se
