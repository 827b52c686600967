/- CoverValues: the row. -/
import Derived.Test.YtjfibflkfdpllaaGreatDoorS11Law
import Derived.Test.YtjfibflkfdpllaaGreatDoorS11Rec
import Derived.Test.YtjfibflkfdpllaaGreatDoorAL5
import Derived.Test.YtjfibflkfdpllaaGreatDoorCards
import Derived.Test.YtjfibflkfdpllaaGreatDoorTie
import Derived.LaidMore
import Derived.Lib.LaidTab
import Derived.MakeChecks
import Derived.Stop.Joined
import Derived.WalkKit
import Derived.ProofKit
import Derived.OpenShut
import Derived.ShutString
import Derived.ChangeOld
import Derived.Below
import Derived.SizedLaws
import Derived.JoinedCond
import Derived.Deep.CondSized
set_option linter.unusedVariables false
set_option linter.unusedSimpArgs false
namespace Go.AL.S11.coverValues
open Go Go.AL Go.AL.S11
def S : List TypeId := [22, 3]
theorem closed : closedT Pr S = true := by kernel_rfl
theorem u22 : Pr.underlying 22 = some (.slice 3) := by kernel_rfl
theorem by3 : Pr.bytesOf 3 = 8 := by kernel_rfl
theorem u3 : Pr.underlying 3 = some (.int .i64) := by kernel_rfl
theorem ints_of {pvs : List PV} (h : Fits Pr 22 pvs) : ∃ a : List Int, pvElem Pr 22 pvs = .lst (iE a) ∧ a.length ≤ maxLen := by
  obtain ⟨xs, e, h1, _⟩ := elem_lst u22 (f := PV.int .i64) (Q := fun _ => True) (fun pvs h => by
    obtain ⟨n, e, _⟩ := elem_int u3 h
    exact ⟨n, e, trivial⟩) h
  exact ⟨xs, e, h1⟩
theorem args_law : ∀ ps, ArgsFit Pr [22, 22] ps → AL.V Pr T 4 (ps.map .pv) = some (.pv (.bool true), []) := by
  intro ps h
  cases h with | cons a0 h => cases h with | cons a1 h =>
  cases h
  obtain ⟨ks, e0, _⟩ := ints_of a0
  obtain ⟨vs, e1, hv⟩ := ints_of a1
  simp only [List.map_cons, List.map_nil, e0, e1]
  exact law4 ks vs hv

end Go.AL.S11.coverValues
namespace Go.Proofs.YtjfibflkfdpllaaGreatDoor.coverValues
open Go.ChangeShapes Go.WideShapes Go.ChangeAt Go.RowKit
theorem own : ownKnob Tryz.prog.godebug = none := by kernel_rfl
def nilS : Value := .slice none 0 0
def laid3 : List (String × DataW Unit) := [("math/bits.deBruijn32tab", Rows.laid_math_bits_deBruijn32tab), ("math/bits.deBruijn64tab", Rows.laid_math_bits_deBruijn64tab), ("internal/strconv.uint64pow10", Rows.laid_internal_strconv_uint64pow10), ("strconv.ErrRange", Rows.laid_strconv_ErrRange), ("strconv.ErrSyntax", Rows.laid_strconv_ErrSyntax)]
theorem lay_ok {W : World} : Go.AL.LaidW Go.AL.Fr.none W := fun x h => by simp [Go.AL.laidL] at h
/-- The door's own heap meets the condition. -/
theorem door_met (os : Os) (args : Array Value) : laidMetH Tryz.prog laid3 ((World.doorLaid Tryz.prog 400 os).forCall (fun _ _ => 0) ⟨#[], args, []⟩).memory :=
  laidMetH_of_parts3 (fuel := 8) (laidMet_of_run' 8 (by kernel_rfl) (by kernel_rfl)) (by kernel_rfl) (by kernel_rfl)
set_option maxRecDepth 100000 in
theorem lifted (os : Os) (started : os.Started) (H : Type) (enc : TypeId × Value → H) :
    ReturnsInHanded {} Tryz.checked os 4 .any (fun w args => (Rows.coverValuesSpec.pre enc Tryz.prog Tryz.f4 [] false w args ∧ laidMetH Tryz.prog laid3 w) ∧ sizedMet enc Tryz.prog Tryz.f4 (OpenSpec.ofChange Rows.coverValuesSpec) false w args) (Rows.coverValuesSpec.post enc Tryz.prog Tryz.f4 false true false false) := by
  refine returnsInHanded_of_change_and (C := Tryz.checked) (X := fun w _ => laidMetH Tryz.prog laid3 w) (fun _ _ _ hh h => h.of_heap hh) own started (by kernel_rfl) Tryz.func4
    (ChangeSpec.witness_shaped (enc := enc) (C := Tryz.checked) (os := os) (X := fun w _ => laidMetH Tryz.prog laid3 w) false (World.doorLaid Tryz.prog 400 os) #[nilS, nilS] 8 rfl (World.shaped_of_RefB (by kernel_rfl) (by kernel_rfl)) (by kernel_rfl) (by kernel_rfl) (by kernel_rfl) (door_met os _)) ?_
  intro W base args ds gs before hval0 hW hcnd hsz0 hlaid _
  have hW' := hW
  obtain ⟨p, q, hA0, hV, rfl, hfz, hnd⟩ := hW
  have hA : DataW.TrodAll enc Tryz.prog W 0 (fun _ => true) true Tryz.f4.params.toList args.toList ds p := hA0
  obtain ⟨rfl, rfl⟩ := trodVars_none hV
  have hsz : (DataW.weightsEach Tryz.prog (Tryz.f4.params.toList ++ []) (ds ++ [])).all (· ≤ reachBytes) = true := hsz0
  rw [List.append_nil, List.append_nil] at hsz
  rw [Tryz.params4] at hA hval0 hsz
  refine (Go.AL.law_callsV Go.AL.S11.pa Go.AL.S11.snd lay_ok Go.AL.S11.coverValues.closed (f := 4) (ts := [22, 22]) (by kernel_rfl) hA (fun j t v e1 e2 => hval0 j t v (by simpa using e1) e2) hsz Go.AL.S11.coverValues.args_law).mono fun e W' ⟨he, bel, hpost⟩ => ?_
  subst he
  have hlen : ∀ {ts : List TypeId} {vs : List Value} {ds : List (DataW H)} {p : List MemPlace}, DataW.TrodAll enc Tryz.prog W 0 (fun _ => true) true ts vs ds p → ds.length = ts.length := by
    intro ts
    induction ts with
    | nil => intro vs ds p h; cases vs <;> cases ds <;> first | rfl | exact h.elim
    | cons t ts ih => intro vs ds p h; cases vs <;> cases ds <;> first | exact h.elim | (obtain ⟨_, _, _, h2, _⟩ := h; simp [ih h2])
  have hl : ds.length = 2 := hlen hA
  obtain ⟨d1, d2, rfl⟩ : ∃ d1 d2, ds = [d1, d2] := by
    match ds, hl with
    | [d1, d2], _ => exact ⟨d1, d2, rfl⟩
  exact ⟨_, rfl, _, _, _, [], _, [], hW', trodAll_mk1 (shut_bool Tryz.underlying4 _), (by rw [Tryz.params4]; exact hpost), rfl, bel.frame _, fun h => by cases h⟩
theorem over : Rows.coverValuesRow.holds Tryz.pinned (OpenSpec.ofChange Rows.coverValuesSpec) :=
  OpenClaim.holds_of_wide 4 Tryz.f4 rfl rfl rfl rfl rfl rfl rfl ⟨rfl, rfl, rfl, rfl, rfl⟩ rfl rfl rfl rfl rfl (by kernel_rfl) Tryz.func4 (by kernel_rfl)
    (of_decide_eq_true (by kernel_rfl)) (by unfold Func.isWrapper; first | (rw [if_pos (by decide +kernel)]; kernel_rfl) | (rw [if_neg (by decide +kernel)]; exact ⟨rfl, rfl⟩))
    (fun os started H enc _ => lifted os started H enc)
theorem proved : Rows.CoverValuesCardSaid :=
  Claim7.holds_tied_plain_at .later [] [.data, .data, .data, .sentinel, .sentinel] true (true, "91d13f854abb92fa2a6ba9813881f76c02dfc5f1cf6e99b222d2f30eb830152d") true
    over (fun _ h => by cases h) (by kernel_rfl) (fun _ h => by cases h) coverValues_row_tie rfl ⟨rfl, rfl⟩ (by kernel_rfl) rfl
    (fun f fn hf hfn => by
      obtain rfl : f = 4 := Option.some.inj ((show Tryz.prog.funcNamed "roadstead/roadkeep2.CoverValues" = some 4 by kernel_rfl).symm.trans hf) |>.symm
      obtain rfl : fn = Tryz.f4 := (Option.some.inj (Tryz.func4.symm.trans hfn)).symm
      exact ⟨by kernel_rfl, fun j t ht => by
        rw [Tryz.params4] at ht
        have hm : t ∈ [22, 22] := by simpa using Array.mem_of_getElem? ht
        have hall : ([22, 22].all fun u => !Tryz.prog.wantsStandIn u) = true := by kernel_rfl
        exact (show Tryz.prog.wantsStandIn t = false by simpa using List.all_eq_true.1 hall t hm)⟩)
    (by kernel_rfl)
end Go.Proofs.YtjfibflkfdpllaaGreatDoor.coverValues
namespace Go.Proofs.YtjfibflkfdpllaaGreatDoor
/-- The card, under a short name. -/
theorem coverValuesCard_holds : Rows.CoverValuesCardSaid := coverValues.proved
end Go.Proofs.YtjfibflkfdpllaaGreatDoor
#print axioms Go.Proofs.YtjfibflkfdpllaaGreatDoor.coverValuesCard_holds
