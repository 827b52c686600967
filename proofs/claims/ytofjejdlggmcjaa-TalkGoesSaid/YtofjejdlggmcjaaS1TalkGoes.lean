/- TalkGoes: the row. -/
import Derived.Test.YtofjejdlggmcjaaS1Ring
import Derived.Test.YtofjejdlggmcjaaAL4
import Derived.WalkKit
import Derived.ProofKit
import Derived.OpenShut
import Derived.ShutString
import Derived.ChangeOld
import Derived.Below
import Derived.SizedLaws
import Derived.JoinedCond
import Derived.Deep.CondSized
set_option linter.unusedVariables false
set_option linter.unusedSimpArgs false
namespace Go.AL.S1.talkGoes
open Go Go.AL Go.AL.S1
def S : List TypeId := [45, 42, 112, 3, 43, 66, 68, 4, 46]
theorem closed : closedT Pr S = true := by kernel_rfl
theorem f45 : ftypes Pr 45 = some [42, 43] := by kernel_rfl
theorem is45 : isStruct Pr 45 = true := by kernel_rfl
theorem u42 : Pr.underlying 42 = some (.slice 112) := by kernel_rfl
theorem by112 : Pr.bytesOf 112 = 16 := by kernel_rfl
theorem f112 : ftypes Pr 112 = some [3, 3] := by kernel_rfl
theorem is112 : isStruct Pr 112 = true := by kernel_rfl
theorem u3 : Pr.underlying 3 = some (.int .i64) := by kernel_rfl
theorem u43 : Pr.underlying 43 = some (.slice 66) := by kernel_rfl
theorem by66 : Pr.bytesOf 66 = 24 := by kernel_rfl
theorem u66 : Pr.underlying 66 = some (.slice 68) := by kernel_rfl
theorem by68 : Pr.bytesOf 68 = 24 := by kernel_rfl
theorem f68 : ftypes Pr 68 = some [3, 4, 3] := by kernel_rfl
theorem is68 : isStruct Pr 68 = true := by kernel_rfl
theorem u4 : Pr.underlying 4 = some .bool := by kernel_rfl
theorem u46 : Pr.underlying 46 = some (.slice 3) := by kernel_rfl
theorem by3 : Pr.bytesOf 3 = 8 := by kernel_rfl
theorem line_of {pvs : List PV} (h : Fits Pr 112 pvs) : ∃ x : Line, pvElem Pr 112 pvs = eLine x ∧ True := by
  obtain ⟨a, b, rfl, h1, h⟩ := (fits_parts f112 h).c1
  obtain ⟨c, d, rfl, h2, h⟩ := h.c1
  obtain rfl := h.c0
  obtain ⟨m, rfl, _⟩ := fits_int u3 h1
  obtain ⟨n, rfl, _⟩ := fits_int u3 h2
  exact ⟨(m, n), by rw [elem_struct is112]; rfl, trivial⟩
theorem deed_of {pvs : List PV} (h : Fits Pr 68 pvs) : ∃ x : Deed, pvElem Pr 68 pvs = eDeed x ∧ True := by
  obtain ⟨a, b, rfl, h1, h⟩ := (fits_parts f68 h).c1
  obtain ⟨c, d, rfl, h2, h⟩ := h.c1
  obtain ⟨e, f, rfl, h3, h⟩ := h.c1
  obtain rfl := h.c0
  obtain ⟨m, rfl, _⟩ := fits_int u3 h1
  obtain ⟨s, rfl⟩ := fits_boolT u4 h2
  obtain ⟨n, rfl, _⟩ := fits_int u3 h3
  exact ⟨(m, s, n), by rw [elem_struct is68]; rfl, trivial⟩
theorem net_of {pvs : List PV} (h : Fits Pr 45 pvs) : ∃ ls ws, pvElem Pr 45 pvs = eNet ls ws ∧ ls.length ≤ maxLen ∧ ws.length ≤ maxLen := by
  obtain ⟨a, b, rfl, h1, h⟩ := (fits_parts f45 h).c1
  obtain ⟨c, d, rfl, h2, h⟩ := h.c1
  obtain rfl := h.c0
  obtain ⟨ls, rfl, hl, _⟩ := lst_of u42 (fun _ => line_of) h1
  obtain ⟨ws, rfl, hw, _⟩ := lst_of u43 (f := eDs) (Q := fun _ => True) (fun pvs h => by
    obtain ⟨xs, e, _⟩ := elem_lst u66 (fun _ => deed_of) h
    exact ⟨xs, e, trivial⟩) h2
  exact ⟨ls, ws, by rw [elem_struct is45]; rfl, hl, hw⟩
theorem ints_of {pvs : List PV} (h : Fits Pr 46 pvs) : ∃ a : List Int, pvElem Pr 46 pvs = .lst (a.map eInt) ∧ a.length ≤ maxLen := by
  obtain ⟨xs, e, h1, _⟩ := elem_lst u46 (f := eInt) (Q := fun _ => True) (fun pvs h => by
    obtain ⟨n, e, _⟩ := elem_int u3 h
    exact ⟨n, e, trivial⟩) h
  exact ⟨xs, e, h1⟩
theorem args_law : ∀ ps, ArgsFit Pr [45, 46] ps → AL.V Pr T 17 (ps.map .pv) = some (.pv (.bool true), []) := by
  intro ps h
  cases h with | cons a0 h => cases h with | cons a1 h =>
  cases h
  obtain ⟨ls, ws, e0, hl, hw⟩ := net_of a0
  obtain ⟨a, e1, _⟩ := ints_of a1
  simp only [List.map_cons, List.map_nil, e0, e1]
  exact law17 a hl hw

end Go.AL.S1.talkGoes
namespace Go.Proofs.Ytofjejdlggmcjaa.talkGoes
open Go.ChangeShapes Go.WideShapes Go.ChangeAt Go.RowKit
theorem own : ownKnob Try.prog.godebug = none := by kernel_rfl
def nilS : Value := .slice none 0 0
set_option maxRecDepth 100000 in
theorem lifted (os : Os) (started : os.Started) (H : Type) (enc : TypeId × Value → H) :
    ReturnsInHanded {} Try.checked os 17 .any (Rows.talkGoesSpec.pre6 enc Try.prog Try.f17 Rows.talkGoesRow.domain false) (Rows.talkGoesSpec.post enc Try.prog Try.f17 false true false false) := by
  refine returnsInHanded_of_change_sized (C := Try.checked) own started (by kernel_rfl) Try.func17
    (ChangeSpec.witness6 (enc := enc) (C := Try.checked) false ⟨#[], #[.agg #[nilS, nilS], nilS], []⟩ 8 (by kernel_rfl) (by kernel_rfl) (by kernel_rfl) (by kernel_rfl)) ?_
  intro W base args ds gs before hval0 hW hcnd hsz0 _
  have hW' := hW
  obtain ⟨p, q, hA0, hV, rfl, hfz, hnd⟩ := hW
  have hA : DataW.TrodAll enc Try.prog W 0 (fun _ => true) true Try.f17.params.toList args.toList ds p := hA0
  obtain ⟨rfl, rfl⟩ := trodVars_none hV
  have hsz : (DataW.weightsEach Try.prog (Try.f17.params.toList ++ []) (ds ++ [])).all (· ≤ reachBytes) = true := hsz0
  rw [List.append_nil, List.append_nil] at hsz
  rw [Try.params17] at hA hval0 hsz
  refine (Go.AL.law_callsV Go.AL.S1.pa Go.AL.S1.snd Go.AL.S1.talkGoes.closed (f := 17) (ts := [45, 46]) (by kernel_rfl) hA (fun j t v e1 e2 => hval0 j t v (by simpa using e1) e2) hsz Go.AL.S1.talkGoes.args_law).mono fun e W' ⟨he, bel, hpost⟩ => ?_
  subst he
  have hlen : ∀ {ts : List TypeId} {vs : List Value} {ds : List (DataW H)} {p : List MemPlace}, DataW.TrodAll enc Try.prog W 0 (fun _ => true) true ts vs ds p → ds.length = ts.length := by
    intro ts
    induction ts with
    | nil => intro vs ds p h; cases vs <;> cases ds <;> first | rfl | exact h.elim
    | cons t ts ih => intro vs ds p h; cases vs <;> cases ds <;> first | exact h.elim | (obtain ⟨_, _, _, h2, _⟩ := h; simp [ih h2])
  have hl : ds.length = 2 := hlen hA
  obtain ⟨d1, d2, rfl⟩ : ∃ d1 d2, ds = [d1, d2] := by
    match ds, hl with
    | [d1, d2], _ => exact ⟨d1, d2, rfl⟩
  exact ⟨_, rfl, _, _, _, [], _, [], hW', trodAll_mk1 (shut_bool Try.underlying4 _), (by rw [Try.params17]; exact hpost), rfl, bel.frame _, fun h => by cases h⟩
theorem over : Rows.talkGoesRow.holds Try.pinned (OpenSpec.ofChange Rows.talkGoesSpec) :=
  OpenClaim.holds_of_wide 17 Try.f17 rfl rfl rfl rfl rfl rfl rfl ⟨rfl, rfl, rfl, rfl, rfl⟩ rfl rfl rfl rfl rfl (by kernel_rfl) Try.func17 (by kernel_rfl)
    (of_decide_eq_true (by kernel_rfl)) (by unfold Func.isWrapper; first | (rw [if_pos (by decide +kernel)]; kernel_rfl) | (rw [if_neg (by decide +kernel)]; exact ⟨rfl, rfl⟩))
    (fun os started H enc _ => lifted os started H enc)
theorem proved : Rows.TalkGoesSaid := over
end Go.Proofs.Ytofjejdlggmcjaa.talkGoes
namespace Go.Proofs.Ytofjejdlggmcjaa
/-- The row, under a short name. -/
theorem talkGoes_holds : Rows.TalkGoesSaid := talkGoes.proved
end Go.Proofs.Ytofjejdlggmcjaa
#print axioms Go.Proofs.Ytofjejdlggmcjaa.talkGoes_holds
