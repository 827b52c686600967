/- TokenPlaces: the row. -/
import Derived.Test.YtofjejdlggmcjaaS1Tok2
import Derived.Test.YtofjejdlggmcjaaALzl
import Derived.WalkKit
import Derived.ProofKit
import Derived.OpenShut
import Derived.ShutString
import Derived.ChangeOld
import Derived.Below
import Derived.SizedLaws
import Derived.JoinedCond
import Derived.Deep.CondSized
set_option linter.unusedVariables false
set_option linter.unusedSimpArgs false
namespace Go.AL.S1.tokenPlaces
open Go Go.AL Go.AL.S1
def S : List TypeId := [9]
theorem closed : closedT Pr S = true := by kernel_rfl
theorem u9 : Pr.underlying 9 = some .string := by kernel_rfl
theorem args_law : ∀ ps, ArgsFit Pr [9] ps → AL.V Pr T 12 (ps.map .pv) = some (.pv (.bool true), []) := by
  intro ps h
  cases h with | cons a0 h =>
  cases h
  obtain ⟨s, e0, _⟩ := elem_str u9 a0
  simp only [List.map_cons, List.map_nil, e0]
  exact Go.AL.S1.Tok.law12 s

end Go.AL.S1.tokenPlaces
namespace Go.Proofs.Ytofjejdlggmcjaa.tokenPlaces
open Go.ChangeShapes Go.WideShapes Go.ChangeAt Go.RowKit
theorem own : ownKnob Try.prog.godebug = none := by kernel_rfl
def nilS : Value := .slice none 0 0
set_option maxRecDepth 100000 in
theorem lifted (os : Os) (started : os.Started) (H : Type) (enc : TypeId × Value → H) :
    ReturnsInHanded {} Try.checked os 12 .any (Rows.tokenPlacesSpec.pre6 enc Try.prog Try.f12 Rows.tokenPlacesRow.domain false) (Rows.tokenPlacesSpec.post enc Try.prog Try.f12 false true false false) := by
  refine returnsInHanded_of_change_sized (C := Try.checked) own started (by kernel_rfl) Try.func12
    (ChangeSpec.witness6 (enc := enc) (C := Try.checked) false ⟨#[], #[.string ByteArray.empty], []⟩ 8 (by kernel_rfl) (by kernel_rfl) (by kernel_rfl) (by kernel_rfl)) ?_
  intro W base args ds gs before hval0 hW hcnd hsz0 _
  have hW' := hW
  obtain ⟨p, q, hA0, hV, rfl, hfz, hnd⟩ := hW
  have hA : DataW.TrodAll enc Try.prog W 0 (fun _ => true) true Try.f12.params.toList args.toList ds p := hA0
  obtain ⟨rfl, rfl⟩ := trodVars_none hV
  have hsz : (DataW.weightsEach Try.prog (Try.f12.params.toList ++ []) (ds ++ [])).all (· ≤ reachBytes) = true := hsz0
  rw [List.append_nil, List.append_nil] at hsz
  rw [Try.params12] at hA hval0 hsz
  refine (Go.AL.law_callsV Go.AL.S1.pa Go.AL.S1.snd Go.AL.S1.tokenPlaces.closed (f := 12) (ts := [9]) (by kernel_rfl) hA (fun j t v e1 e2 => hval0 j t v (by simpa using e1) e2) hsz Go.AL.S1.tokenPlaces.args_law).mono fun e W' ⟨he, bel, hpost⟩ => ?_
  subst he
  have hlen : ∀ {ts : List TypeId} {vs : List Value} {ds : List (DataW H)} {p : List MemPlace}, DataW.TrodAll enc Try.prog W 0 (fun _ => true) true ts vs ds p → ds.length = ts.length := by
    intro ts
    induction ts with
    | nil => intro vs ds p h; cases vs <;> cases ds <;> first | rfl | exact h.elim
    | cons t ts ih => intro vs ds p h; cases vs <;> cases ds <;> first | exact h.elim | (obtain ⟨_, _, _, h2, _⟩ := h; simp [ih h2])
  have hl : ds.length = 1 := hlen hA
  obtain ⟨d1, rfl⟩ : ∃ d1, ds = [d1] := by
    match ds, hl with
    | [d1], _ => exact ⟨d1, rfl⟩
  exact ⟨_, rfl, _, _, _, [], _, [], hW', trodAll_mk1 (shut_bool Try.underlying4 _), (by rw [Try.params12]; exact hpost), rfl, bel.frame _, fun h => by cases h⟩
theorem over : Rows.tokenPlacesRow.holds Try.pinned (OpenSpec.ofChange Rows.tokenPlacesSpec) :=
  OpenClaim.holds_of_wide 12 Try.f12 rfl rfl rfl rfl rfl rfl rfl ⟨rfl, rfl, rfl, rfl, rfl⟩ rfl rfl rfl rfl rfl (by kernel_rfl) Try.func12 (by kernel_rfl)
    (of_decide_eq_true (by kernel_rfl)) (by unfold Func.isWrapper; first | (rw [if_pos (by decide +kernel)]; kernel_rfl) | (rw [if_neg (by decide +kernel)]; exact ⟨rfl, rfl⟩))
    (fun os started H enc _ => lifted os started H enc)
theorem proved : Rows.TokenPlacesSaid := over
end Go.Proofs.Ytofjejdlggmcjaa.tokenPlaces
namespace Go.Proofs.Ytofjejdlggmcjaa
/-- The row, under a short name. -/
theorem tokenPlaces_holds : Rows.TokenPlacesSaid := tokenPlaces.proved
end Go.Proofs.Ytofjejdlggmcjaa
#print axioms Go.Proofs.Ytofjejdlggmcjaa.tokenPlaces_holds
