/- SessionDual: the row. -/
import Derived.Test.YtofjejdlggmcjaaS1Sub
import Derived.Test.YtofjejdlggmcjaaAL4
import Derived.WalkKit
import Derived.ProofKit
import Derived.OpenShut
import Derived.ShutString
import Derived.ChangeOld
import Derived.Below
import Derived.SizedLaws
import Derived.JoinedCond
import Derived.Deep.CondSized
set_option linter.unusedVariables false
set_option linter.unusedSimpArgs false
namespace Go.AL.S1.sessionDual
open Go Go.AL Go.AL.S1
def S : List TypeId := [51, 120, 3, 118, 117]
theorem closed : closedT Pr S = true := by kernel_rfl
theorem u51 : Pr.underlying 51 = some (.slice 120) := by kernel_rfl
theorem by120 : Pr.bytesOf 120 = 32 := by kernel_rfl
theorem f120 : ftypes Pr 120 = some [3, 118] := by kernel_rfl
theorem is120 : isStruct Pr 120 = true := by kernel_rfl
theorem u3 : Pr.underlying 3 = some (.int .i64) := by kernel_rfl
theorem u118 : Pr.underlying 118 = some (.slice 117) := by kernel_rfl
theorem by117 : Pr.bytesOf 117 = 16 := by kernel_rfl
theorem f117 : ftypes Pr 117 = some [3, 3] := by kernel_rfl
theorem is117 : isStruct Pr 117 = true := by kernel_rfl
open Go.AL.S1.Se
theorem br_of {pvs : List PV} (h : Fits Pr 117 pvs) : ∃ x : Br, pvElem Pr 117 pvs = eBr x ∧ True := by
  obtain ⟨a, b, rfl, h1, h⟩ := (fits_parts f117 h).c1
  obtain ⟨c, d, rfl, h2, h⟩ := h.c1
  obtain rfl := h.c0
  obtain ⟨m, rfl, _⟩ := fits_int u3 h1
  obtain ⟨n, rfl, _⟩ := fits_int u3 h2
  exact ⟨(m, n), by rw [elem_struct is117]; rfl, trivial⟩
theorem st_of {pvs : List PV} (h : Fits Pr 120 pvs) : ∃ x : Sta, pvElem Pr 120 pvs = eSt x ∧ True := by
  obtain ⟨a, b, rfl, h1, h⟩ := (fits_parts f120 h).c1
  obtain ⟨c, d, rfl, h2, h⟩ := h.c1
  obtain rfl := h.c0
  obtain ⟨m, rfl, _⟩ := fits_int u3 h1
  obtain ⟨bs, rfl, _⟩ := lst_of u118 (fun _ => br_of) h2
  exact ⟨(m, bs), by rw [elem_struct is120]; rfl, trivial⟩
theorem sts_of {pvs : List PV} (h : Fits Pr 51 pvs) : ∃ ls : List Sta, pvElem Pr 51 pvs = .lst (ls.map eSt) ∧ ls.length ≤ maxLen ∧ ls.length * 32 ≤ reachBytes := by
  obtain ⟨xs, e, h1, h2, _⟩ := elem_lst u51 (fun _ => st_of) h
  rw [by120] at h2
  exact ⟨xs, e, h1, h2⟩
theorem args_law : ∀ ps, ArgsFit Pr [51, 51] ps → AL.V Pr T 10 (ps.map .pv) = some (.pv (.bool true), []) := by
  intro ps h
  cases h with | cons a0 h => cases h with | cons a1 h =>
  cases h
  obtain ⟨a, e0, ha, _⟩ := sts_of a0
  obtain ⟨b, e1, hb, _⟩ := sts_of a1
  simp only [List.map_cons, List.map_nil, e0, e1]
  exact Go.AL.S1.Se.law10 ha hb

end Go.AL.S1.sessionDual
namespace Go.Proofs.Ytofjejdlggmcjaa.sessionDual
open Go.ChangeShapes Go.WideShapes Go.ChangeAt Go.RowKit
theorem own : ownKnob Try.prog.godebug = none := by kernel_rfl
def nilS : Value := .slice none 0 0
set_option maxRecDepth 100000 in
theorem lifted (os : Os) (started : os.Started) (H : Type) (enc : TypeId × Value → H) :
    ReturnsInHanded {} Try.checked os 10 .any (Rows.sessionDualSpec.pre6 enc Try.prog Try.f10 Rows.sessionDualRow.domain false) (Rows.sessionDualSpec.post enc Try.prog Try.f10 false true false false) := by
  refine returnsInHanded_of_change_sized (C := Try.checked) own started (by kernel_rfl) Try.func10
    (ChangeSpec.witness6 (enc := enc) (C := Try.checked) false ⟨#[], #[nilS, nilS], []⟩ 8 (by kernel_rfl) (by kernel_rfl) (by kernel_rfl) (by kernel_rfl)) ?_
  intro W base args ds gs before hval0 hW hcnd hsz0 _
  have hW' := hW
  obtain ⟨p, q, hA0, hV, rfl, hfz, hnd⟩ := hW
  have hA : DataW.TrodAll enc Try.prog W 0 (fun _ => true) true Try.f10.params.toList args.toList ds p := hA0
  obtain ⟨rfl, rfl⟩ := trodVars_none hV
  have hsz : (DataW.weightsEach Try.prog (Try.f10.params.toList ++ []) (ds ++ [])).all (· ≤ reachBytes) = true := hsz0
  rw [List.append_nil, List.append_nil] at hsz
  rw [Try.params10] at hA hval0 hsz
  refine (Go.AL.law_callsV Go.AL.S1.pa Go.AL.S1.snd Go.AL.S1.sessionDual.closed (f := 10) (ts := [51, 51]) (by kernel_rfl) hA (fun j t v e1 e2 => hval0 j t v (by simpa using e1) e2) hsz Go.AL.S1.sessionDual.args_law).mono fun e W' ⟨he, bel, hpost⟩ => ?_
  subst he
  have hlen : ∀ {ts : List TypeId} {vs : List Value} {ds : List (DataW H)} {p : List MemPlace}, DataW.TrodAll enc Try.prog W 0 (fun _ => true) true ts vs ds p → ds.length = ts.length := by
    intro ts
    induction ts with
    | nil => intro vs ds p h; cases vs <;> cases ds <;> first | rfl | exact h.elim
    | cons t ts ih => intro vs ds p h; cases vs <;> cases ds <;> first | exact h.elim | (obtain ⟨_, _, _, h2, _⟩ := h; simp [ih h2])
  have hl : ds.length = 2 := hlen hA
  obtain ⟨d1, d2, rfl⟩ : ∃ d1 d2, ds = [d1, d2] := by
    match ds, hl with
    | [d1, d2], _ => exact ⟨d1, d2, rfl⟩
  exact ⟨_, rfl, _, _, _, [], _, [], hW', trodAll_mk1 (shut_bool Try.underlying4 _), (by rw [Try.params10]; exact hpost), rfl, bel.frame _, fun h => by cases h⟩
theorem over : Rows.sessionDualRow.holds Try.pinned (OpenSpec.ofChange Rows.sessionDualSpec) :=
  OpenClaim.holds_of_wide 10 Try.f10 rfl rfl rfl rfl rfl rfl rfl ⟨rfl, rfl, rfl, rfl, rfl⟩ rfl rfl rfl rfl rfl (by kernel_rfl) Try.func10 (by kernel_rfl)
    (of_decide_eq_true (by kernel_rfl)) (by unfold Func.isWrapper; first | (rw [if_pos (by decide +kernel)]; kernel_rfl) | (rw [if_neg (by decide +kernel)]; exact ⟨rfl, rfl⟩))
    (fun os started H enc _ => lifted os started H enc)
theorem proved : Rows.SessionDualSaid := over
end Go.Proofs.Ytofjejdlggmcjaa.sessionDual
namespace Go.Proofs.Ytofjejdlggmcjaa
/-- The row, under a short name. -/
theorem sessionDual_holds : Rows.SessionDualSaid := sessionDual.proved
end Go.Proofs.Ytofjejdlggmcjaa
#print axioms Go.Proofs.Ytofjejdlggmcjaa.sessionDual_holds
