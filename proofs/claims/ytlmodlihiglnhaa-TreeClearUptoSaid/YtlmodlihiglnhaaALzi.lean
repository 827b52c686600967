/- Loops over a list, by their equations; the copy of a list. -/
import Derived.Test.YtlmodlihiglnhaaALzh
set_option linter.unusedVariables false
set_option linter.unusedSimpArgs false
namespace Go.AL
open Go.RowKit

/-- A walk over a list, from its front. -/
def walkL {α ρ : Type} (B : Int → α → Option ρ → Option ρ) (fin : Option ρ) : List α → Nat → Option ρ
  | [], _ => fin
  | y :: l, k => B k y (walkL B fin l (k + 1))

theorem wrap_nat {k : Nat} (h : k ≤ maxLen) : IntKind.i64.wrap (k : Int) = k := by
  have : (k : Int) ≤ 9223372036854775807 := by simp [maxLen] at h; omega
  rw [IntKind.wrap_i64]; omega

theorem loop_walk {α ρ : Type} {xs : List α} {L : Nat → Int → Option ρ} {fin : Option ρ} {B : Int → α → Option ρ → Option ρ} (hlen : xs.length ≤ maxLen)
    (h : ∀ m i, L (m + 1) i = bif decide (i < (xs.length : Int)) then (bif decide (0 ≤ i) then (xs[i.toNat]?).bind (fun x => B i x (L m (IntKind.i64.wrap (i + 1)))) else none) else fin) :
    ∀ (l pre : List α) (m : Nat), xs = pre ++ l → l.length < m → L m (pre.length : Int) = walkL B fin l pre.length := by
  intro l
  induction l with
  | nil =>
    intro pre m hx hm
    obtain ⟨m, rfl⟩ : ∃ m', m = m' + 1 := ⟨m - 1, by simp at hm; omega⟩
    rw [h]
    have : decide ((pre.length : Int) < (xs.length : Int)) = false := by subst hx; simp
    rw [this]
    rfl
  | cons y l ih =>
    intro pre m hx hm
    obtain ⟨m, rfl⟩ : ∃ m', m = m' + 1 := ⟨m - 1, by simp at hm; omega⟩
    rw [h]
    have hl : xs.length = pre.length + (l.length + 1) := by subst hx; simp
    have h1 : decide ((pre.length : Int) < (xs.length : Int)) = true := decide_eq_true (by omega)
    have h2 : decide (0 ≤ (pre.length : Int)) = true := decide_eq_true (by omega)
    have h3 : xs[(pre.length : Int).toNat]? = some y := by subst hx; simp
    have h4 := ih (pre ++ [y]) m (by subst hx; simp) (by simp at hm; omega)
    have h5 : IntKind.i64.wrap ((pre.length : Int) + 1) = ((pre ++ [y]).length : Nat) := by
      have := wrap_nat (k := pre.length + 1) (by omega)
      simpa using this
    rw [h1, h2, h3]
    simp only [cond_true, Option.bind_some, walkL]
    rw [h5, h4]
    simp

theorem loop_walk0 {α ρ : Type} {xs : List α} {L : Nat → Int → Option ρ} {fin : Option ρ} {B : Int → α → Option ρ → Option ρ} (hlen : xs.length ≤ maxLen)
    (h : ∀ m i, L (m + 1) i = bif decide (i < (xs.length : Int)) then (bif decide (0 ≤ i) then (xs[i.toNat]?).bind (fun x => B i x (L m (IntKind.i64.wrap (i + 1)))) else none) else fin) {m : Nat} (hm : xs.length < m) : L m 0 = walkL B fin xs 0 :=
  loop_walk hlen h xs [] m rfl hm

/-- The copy of a list, or nil. -/
def cloneOut (sz bytes : Nat) (xs : List PV) : Option Out := bif headOk sz xs then bif small 0 xs.length bytes then some (.bld sz xs, []) else none else none
def clonePrim (sz bytes : Nat) (call : FuncId → List Arg → Option Out) (args : List Arg) : Option Out :=
  match args with
  | [.pv p] => match p.weak with
    | .lst xs => cloneOut sz bytes xs
    | _ => none
  | _ => none

/-- The copy that goes on being written. -/
def cloneOutV (sz bytes : Nat) (xs : List PV) : Option Out := bif headOk sz xs then bif small 0 xs.length bytes then some (.vec sz xs, []) else none else none
def clonePrimV (sz bytes : Nat) (call : FuncId → List Arg → Option Out) (args : List Arg) : Option Out :=
  match args with
  | [.pv p] => match p.weak with
    | .lst xs => cloneOutV sz bytes xs
    | _ => none
  | _ => none

theorem clone_okV {P : Program} (hT : TOk P) (hF : FOk P) (hm : P.follows .mixedOrders = true) {f : FuncId} {sz bytes : Nat} {E : Env} (hc : CallOk P E.call) (h1 : ∀ xs, run P E f 0 [.pv (.nn xs)] = cloneOutV sz bytes xs) (h2 : run P E f 0 [.pv .nils] = some (.vec sz [], []))
    {call : FuncId → List Arg → Option Out} {args : List Arg} {out : Out} (h : clonePrimV sz bytes call args = some out) : CSpec P f args out := by
  unfold clonePrimV at h
  split at h
  · split at h
    · rename_i p xs hw
      refine cspec_fork hw (run_sound hT hF hc (draw_sound hT hF hm hc) ((h1 xs).trans h)) fun hx => ?_
      subst hx
      have : out = (.vec sz [], []) := by
        unfold cloneOutV at h
        replace h := bif_some h; obtain ⟨_, h⟩ := h
        replace h := bif_some h; obtain ⟨_, h⟩ := h
        exact (Option.some.inj h).symm
      subst this
      exact run_sound hT hF hc (draw_sound hT hF hm hc) h2
    · cases h
  · cases h

theorem clone_ok {P : Program} (hT : TOk P) (hF : FOk P) (hm : P.follows .mixedOrders = true) {f : FuncId} {sz bytes : Nat} {E : Env} (hc : CallOk P E.call) (h1 : ∀ xs, run P E f 0 [.pv (.nn xs)] = cloneOut sz bytes xs) (h2 : run P E f 0 [.pv .nils] = some (.bld sz [], []))
    {call : FuncId → List Arg → Option Out} {args : List Arg} {out : Out} (h : clonePrim sz bytes call args = some out) : CSpec P f args out := by
  unfold clonePrim at h
  split at h
  · split at h
    · rename_i p xs hw
      refine cspec_fork hw (run_sound hT hF hc (draw_sound hT hF hm hc) ((h1 xs).trans h)) fun hx => ?_
      subst hx
      have : out = (.bld sz [], []) := by
        unfold cloneOut at h
        replace h := bif_some h; obtain ⟨_, h⟩ := h
        replace h := bif_some h; obtain ⟨_, h⟩ := h
        exact (Option.some.inj h).symm
      subst this
      exact run_sound hT hF hc (draw_sound hT hF hm hc) h2
    · cases h
  · cases h
end Go.AL
