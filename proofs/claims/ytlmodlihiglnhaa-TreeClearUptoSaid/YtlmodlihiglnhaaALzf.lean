/- A function that asks whether its list is nil. -/
import Derived.Test.YtlmodlihiglnhaaALze
set_option linter.unusedVariables false
set_option linter.unusedSimpArgs false
namespace Go.AL
open Go.RowKit

theorem nil_or_nn {M : Mem} {xs : List PV} {v : Value} (h : PRep M (.lst xs) v) : (xs = [] ∧ v = .slice none 0 0) ∨ PRep M (.nn xs) v := by
  obtain ⟨A, c, rfl⟩ := rep_lst h
  cases A with
  | some ad => exact .inr (.nn xs ad _ c h)
  | none =>
    have hc : c = 0 := by
      cases h with
      | lst xs A cap sz vs hsz hcap hs ho hA hm hr =>
        rcases Nat.eq_zero_or_pos c with h0 | h0
        · exact h0
        · exact absurd rfl (hA h0)
    have hl := (rep_cap h).2
    subst hc
    have : xs = [] := List.eq_nil_of_length_eq_zero (by omega)
    subst this
    exact .inl ⟨rfl, rfl⟩

theorem cspec_one {P : Program} {f : FuncId} {p q : PV} {out : Out} (h : CSpec P f [.pv q] out) {F : Nat → Prop} {M : Mem} {G : Gh} {w : World} {vs : Array Value} (hS : SRel F w M G ⟨[], [], []⟩ w) (hF : FRel G ⟨[], [], []⟩ [.pv p] vs) (hpq : ∀ v, PRep G.M p v → vs[0]? = some v → PRep G.M q v) :
    Calls P f vs w fun e w' => ∃ v G' s', e = .returned v ∧ SRel F w M G' s' w' ∧ OutRel G' s' out v := by
  refine h.2 F M G w vs hS ⟨hF.1, fun i a v h1 h2 => ?_⟩
  cases i with
  | zero => simp [enterT] at h1; subst h1; exact hpq v (hF.2 0 _ v rfl h2) h2
  | succ i => simp [enterT] at h1

/-- A list that may be nil. -/
theorem cspec_fork {P : Program} {f : FuncId} {p : PV} {xs : List PV} {out : Out} (hw : p.weak = .lst xs) (h1 : CSpec P f [.pv (.nn xs)] out) (h2 : xs = [] → CSpec P f [.pv .nils] out) : CSpec P f [.pv p] out := by
  refine ⟨h1.1, fun F M G w vs hS hF => ?_⟩
  have hsz : vs.size = 1 := hF.1
  have hv : vs[0]? = some vs[0] := Array.getElem?_eq_getElem (by omega)
  have hp : PRep G.M p vs[0] := hF.2 0 _ _ rfl hv
  have hl := PRep.weak hp
  rw [hw] at hl
  rcases nil_or_nn hl with ⟨hx, e⟩ | hn
  · refine cspec_one (p := p) (h2 hx) hS hF fun v _ h => ?_
    rw [hv] at h
    obtain rfl := Option.some.inj h
    rw [e]; exact .nils
  · refine cspec_one (p := p) h1 hS hF fun v _ h => ?_
    rw [hv] at h
    obtain rfl := Option.some.inj h
    exact hn
end Go.AL
