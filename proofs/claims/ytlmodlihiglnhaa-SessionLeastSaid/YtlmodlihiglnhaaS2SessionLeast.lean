/- SessionLeast: the row. -/
import Derived.Test.YtlmodlihiglnhaaS2NumB
import Derived.Test.YtlmodlihiglnhaaAL4
import Derived.WalkKit
import Derived.ProofKit
import Derived.OpenShut
import Derived.ShutString
import Derived.ChangeOld
import Derived.Below
import Derived.SizedLaws
import Derived.JoinedCond
import Derived.Deep.CondSized
set_option linter.unusedVariables false
set_option linter.unusedSimpArgs false
namespace Go.AL.S2.sessionLeast
open Go Go.AL Go.AL.S2
def S : List TypeId := [22, 72, 3, 70, 69]
theorem closed : closedT Pr S = true := by kernel_rfl
theorem u22 : Pr.underlying 22 = some (.slice 72) := by kernel_rfl
theorem by72 : Pr.bytesOf 72 = 32 := by kernel_rfl
theorem f72 : ftypes Pr 72 = some [3, 70] := by kernel_rfl
theorem is72 : isStruct Pr 72 = true := by kernel_rfl
theorem u3 : Pr.underlying 3 = some (.int .i64) := by kernel_rfl
theorem u70 : Pr.underlying 70 = some (.slice 69) := by kernel_rfl
theorem by69 : Pr.bytesOf 69 = 16 := by kernel_rfl
theorem f69 : ftypes Pr 69 = some [3, 3] := by kernel_rfl
theorem is69 : isStruct Pr 69 = true := by kernel_rfl
open Go.AL.S2.Se
theorem br_of {pvs : List PV} (h : Fits Pr 69 pvs) : ∃ x : Br, pvElem Pr 69 pvs = eBr x ∧ True := by
  obtain ⟨a, b, rfl, h1, h⟩ := (fits_parts f69 h).c1
  obtain ⟨c, d, rfl, h2, h⟩ := h.c1
  obtain rfl := h.c0
  obtain ⟨m, rfl, _⟩ := fits_int u3 h1
  obtain ⟨n, rfl, _⟩ := fits_int u3 h2
  exact ⟨(m, n), by rw [elem_struct is69]; rfl, trivial⟩
theorem st_of {pvs : List PV} (h : Fits Pr 72 pvs) : ∃ x : Sta, pvElem Pr 72 pvs = eSt x ∧ True := by
  obtain ⟨a, b, rfl, h1, h⟩ := (fits_parts f72 h).c1
  obtain ⟨c, d, rfl, h2, h⟩ := h.c1
  obtain rfl := h.c0
  obtain ⟨m, rfl, _⟩ := fits_int u3 h1
  obtain ⟨bs, rfl, _⟩ := lst_of u70 (fun _ => br_of) h2
  exact ⟨(m, bs), by rw [elem_struct is72]; rfl, trivial⟩
theorem sts_of {pvs : List PV} (h : Fits Pr 22 pvs) : ∃ ls : List Sta, pvElem Pr 22 pvs = .lst (ls.map eSt) ∧ ls.length ≤ maxLen ∧ ls.length * 32 ≤ reachBytes := by
  obtain ⟨xs, e, h1, h2, _⟩ := elem_lst u22 (fun _ => st_of) h
  rw [by72] at h2
  exact ⟨xs, e, h1, h2⟩
theorem args_law : ∀ ps, ArgsFit Pr [22, 22] ps → AL.V Pr T 3 (ps.map .pv) = some (.pv (.bool true), []) := by
  intro ps h
  cases h with | cons a0 h => cases h with | cons a1 h =>
  cases h
  obtain ⟨a, e0, ha, _⟩ := sts_of a0
  obtain ⟨b, e1, hb, _⟩ := sts_of a1
  simp only [List.map_cons, List.map_nil, e0, e1]
  exact Go.AL.S2.Se.law3 ha hb

end Go.AL.S2.sessionLeast
namespace Go.Proofs.Ytlmodlihiglnhaa.sessionLeast
open Go.ChangeShapes Go.WideShapes Go.ChangeAt Go.RowKit
theorem own : ownKnob Try.prog.godebug = none := by kernel_rfl
def nilS : Value := .slice none 0 0
set_option maxRecDepth 100000 in
theorem lifted (os : Os) (started : os.Started) (H : Type) (enc : TypeId × Value → H) :
    ReturnsInHanded {} Try.checked os 3 .any (Rows.sessionLeastSpec.pre6 enc Try.prog Try.f3 Rows.sessionLeastRow.domain false) (Rows.sessionLeastSpec.post enc Try.prog Try.f3 false true false false) := by
  refine returnsInHanded_of_change_sized (C := Try.checked) own started (by kernel_rfl) Try.func3
    (ChangeSpec.witness6 (enc := enc) (C := Try.checked) false ⟨#[], #[nilS, nilS], []⟩ 8 (by kernel_rfl) (by kernel_rfl) (by kernel_rfl) (by kernel_rfl)) ?_
  intro W base args ds gs before hval0 hW hcnd hsz0 _
  have hW' := hW
  obtain ⟨p, q, hA0, hV, rfl, hfz, hnd⟩ := hW
  have hA : DataW.TrodAll enc Try.prog W 0 (fun _ => true) true Try.f3.params.toList args.toList ds p := hA0
  obtain ⟨rfl, rfl⟩ := trodVars_none hV
  have hsz : (DataW.weightsEach Try.prog (Try.f3.params.toList ++ []) (ds ++ [])).all (· ≤ reachBytes) = true := hsz0
  rw [List.append_nil, List.append_nil] at hsz
  rw [Try.params3] at hA hval0 hsz
  refine (Go.AL.law_callsV Go.AL.S2.pa Go.AL.S2.snd Go.AL.S2.sessionLeast.closed (f := 3) (ts := [22, 22]) (by kernel_rfl) hA (fun j t v e1 e2 => hval0 j t v (by simpa using e1) e2) hsz Go.AL.S2.sessionLeast.args_law).mono fun e W' ⟨he, bel, hpost⟩ => ?_
  subst he
  have hlen : ∀ {ts : List TypeId} {vs : List Value} {ds : List (DataW H)} {p : List MemPlace}, DataW.TrodAll enc Try.prog W 0 (fun _ => true) true ts vs ds p → ds.length = ts.length := by
    intro ts
    induction ts with
    | nil => intro vs ds p h; cases vs <;> cases ds <;> first | rfl | exact h.elim
    | cons t ts ih => intro vs ds p h; cases vs <;> cases ds <;> first | exact h.elim | (obtain ⟨_, _, _, h2, _⟩ := h; simp [ih h2])
  have hl : ds.length = 2 := hlen hA
  obtain ⟨d1, d2, rfl⟩ : ∃ d1 d2, ds = [d1, d2] := by
    match ds, hl with
    | [d1, d2], _ => exact ⟨d1, d2, rfl⟩
  exact ⟨_, rfl, _, _, _, [], _, [], hW', trodAll_mk1 (shut_bool Try.underlying4 _), (by rw [Try.params3]; exact hpost), rfl, bel.frame _, fun h => by cases h⟩
theorem over : Rows.sessionLeastRow.holds Try.pinned (OpenSpec.ofChange Rows.sessionLeastSpec) :=
  OpenClaim.holds_of_wide 3 Try.f3 rfl rfl rfl rfl rfl rfl rfl ⟨rfl, rfl, rfl, rfl, rfl⟩ rfl rfl rfl rfl rfl (by kernel_rfl) Try.func3 (by kernel_rfl)
    (of_decide_eq_true (by kernel_rfl)) (by unfold Func.isWrapper; first | (rw [if_pos (by decide +kernel)]; kernel_rfl) | (rw [if_neg (by decide +kernel)]; exact ⟨rfl, rfl⟩))
    (fun os started H enc _ => lifted os started H enc)
theorem proved : Rows.SessionLeastSaid := over
end Go.Proofs.Ytlmodlihiglnhaa.sessionLeast
namespace Go.Proofs.Ytlmodlihiglnhaa
/-- The row, under a short name. -/
theorem sessionLeast_holds : Rows.SessionLeastSaid := sessionLeast.proved
end Go.Proofs.Ytlmodlihiglnhaa
#print axioms Go.Proofs.Ytlmodlihiglnhaa.sessionLeast_holds
