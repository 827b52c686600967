/- SchemeInstance: the row. -/
import Derived.Test.YtlmodlihiglnhaaDoorS5Sch
import Derived.Test.YtlmodlihiglnhaaDoorAL4
import Derived.Test.YtlmodlihiglnhaaDoorCards
import Derived.Test.YtlmodlihiglnhaaDoorTie
import Derived.LaidMore
import Derived.Stop.Joined
import Derived.WalkKit
import Derived.ProofKit
import Derived.OpenShut
import Derived.ShutString
import Derived.ChangeOld
import Derived.Below
import Derived.SizedLaws
import Derived.JoinedCond
import Derived.Deep.CondSized
set_option linter.unusedVariables false
set_option linter.unusedSimpArgs false
namespace Go.AL.S5.schemeInstance
open Go Go.AL Go.AL.S5
def S : List TypeId := [27, 22, 9, 25, 3, 23]
theorem closed : closedT Pr S = true := by kernel_rfl
theorem f27 : ftypes Pr 27 = some [22, 25] := by kernel_rfl
theorem is27 : isStruct Pr 27 = true := by kernel_rfl
theorem u22 : Pr.underlying 22 = some (.slice 9) := by kernel_rfl
theorem by9 : Pr.bytesOf 9 = 16 := by kernel_rfl
theorem u9 : Pr.underlying 9 = some .string := by kernel_rfl
theorem f25 : ftypes Pr 25 = some [3, 9, 23] := by kernel_rfl
theorem is25 : isStruct Pr 25 = true := by kernel_rfl
theorem u3 : Pr.underlying 3 = some (.int .i64) := by kernel_rfl
theorem u23 : Pr.underlying 23 = some (.slice 25) := by kernel_rfl
theorem by25 : Pr.bytesOf 25 = 48 := by kernel_rfl
theorem reach : reachBytes = 140737488351232 := rfl
theorem str_of {pvs : List PV} (h : Fits Pr 9 pvs) : ∃ s : Str, pvElem Pr 9 pvs = .str s ∧ True := by
  obtain ⟨s, e, _⟩ := elem_str u9 h
  exact ⟨s, e, trivial⟩
theorem strs_of {pvs : List PV} (h : Fits Pr 22 pvs) : ∃ xs : List Str, pvs = [.lst (xs.map .str)] ∧ xs.length ≤ maxLen := by
  obtain ⟨xs, e, hl, _⟩ := lst_of u22 (f := PV.str) (Q := fun _ => True) (fun _ => str_of) h
  exact ⟨xs, e, hl⟩
theorem ty_of' : ∀ (N : Nat) {pvs : List PV}, SizeOf.sizeOf pvs < N → Fits Pr 25 pvs → ∃ ty, pvElem Pr 25 pvs = Ty.enc ty ∧ Okt ty
  | 0, pvs, h, _ => absurd h (Nat.not_lt_zero _)
  | N + 1, pvs, h, hf => by
    obtain ⟨a, b, rfl, g1, g⟩ := (fits_parts f25 hf).c1
    obtain ⟨c, d, rfl, g2, g⟩ := g.c1
    obtain ⟨e, z, rfl, g3, g⟩ := g.c1
    obtain rfl := g.c0
    obtain ⟨k, rfl, _⟩ := fits_int u3 g1
    obtain ⟨nm, rfl, _⟩ := fits_str u9 g2
    obtain ⟨xs, rfl, hb, hlen, hall⟩ := fits_lst u23 g3
    have hx : ∀ x, x ∈ xs → ∃ ty, pvElem Pr 25 x = Ty.enc ty ∧ Okt ty := fun x hx => by
      refine ty_of' N ?_ (hall x hx)
      have h1 : SizeOf.sizeOf (pvElem Pr 25 x) < SizeOf.sizeOf (xs.map (pvElem Pr 25)) := List.sizeOf_lt_of_mem (List.mem_map.2 ⟨x, hx, rfl⟩)
      rw [elem_struct is25, PV.agg.sizeOf_spec] at h1
      simp only [List.cons_append, List.nil_append, List.cons.sizeOf_spec, PV.lst.sizeOf_spec] at h
      omega
    obtain ⟨ys, h3, h4⟩ := list_of (l := xs.map (pvElem Pr 25)) (f := Ty.enc) (Q := Okt) fun p hp => by
      obtain ⟨x, hx', rfl⟩ := List.mem_map.1 hp
      exact hx x hx'
    rw [by25] at hb
    have hxy : xs.length = ys.length := by have := congrArg List.length h3; simpa using this
    refine ⟨.mk k nm ys, ?_, .mk (by omega) (by rw [← hxy]; exact hb) h4⟩
    rw [elem_struct is25, enc_mk, h3]
    rfl
theorem ty_cells {pvs : List PV} (h : Fits Pr 25 pvs) : ∃ ty : Ty, pvs = [.int .i64 ty.kind, .str ty.name, .lst (ty.args.map Ty.enc)] ∧ Okt ty := by
  obtain ⟨ty, e, ho⟩ := ty_of' _ (Nat.lt_succ_self _) h
  refine ⟨ty, ?_, ho⟩
  rw [elem_struct is25] at e
  obtain ⟨k, n, a⟩ := ty
  rw [enc_mk] at e
  exact PV.agg.inj e
theorem tys_elem {pvs : List PV} (h : Fits Pr 23 pvs) : ∃ xs : List Ty, pvElem Pr 23 pvs = .lst (xs.map Ty.enc) ∧ xs.length ≤ maxLen ∧ ∀ x, x ∈ xs → Okt x := by
  obtain ⟨xs, e, hl, _, h3⟩ := elem_lst u23 (f := Ty.enc) (Q := Okt) (fun {_} h => ty_of' _ (Nat.lt_succ_self _) h) h
  exact ⟨xs, e, hl, h3⟩
theorem args_law : ∀ ps, ArgsFit Pr [27, 23] ps → AL.V Pr T 3 (ps.map .pv) = some (.pv (.bool true), []) := by
  intro ps h
  cases h with | cons a0 h =>
  cases h with | cons a1 h =>
  cases h
  obtain ⟨a, b, rfl, g1, g⟩ := (fits_parts f27 a0).c1
  obtain ⟨c, d, rfl, g2, g⟩ := g.c1
  obtain rfl := g.c0
  obtain ⟨ns, rfl, hn⟩ := strs_of g1
  obtain ⟨t, rfl, ht⟩ := ty_cells g2
  obtain ⟨l, e1, hl, hls⟩ := tys_elem a1
  simp only [List.map_cons, List.map_nil, e1]
  rw [elem_struct is27]
  exact Go.AL.S5.law3 hn hl hls ht

end Go.AL.S5.schemeInstance
namespace Go.Proofs.YtlmodlihiglnhaaDoor.schemeInstance
open Go.ChangeShapes Go.WideShapes Go.ChangeAt Go.RowKit
theorem own : ownKnob Tryd.prog.godebug = none := by kernel_rfl
def nilS : Value := .slice none 0 0
def laid3 : List (String × DataW Unit) := [("math/bits.deBruijn32tab", Rows.laid_math_bits_deBruijn32tab), ("math/bits.deBruijn64tab", Rows.laid_math_bits_deBruijn64tab), ("internal/strconv.uint64pow10", Rows.laid_internal_strconv_uint64pow10)]
/-- The door's own heap meets the condition. -/
theorem door_met (os : Os) (args : Array Value) : laidMetH Tryd.prog laid3 ((World.doorLaid Tryd.prog 400 os).forCall (fun _ _ => 0) ⟨#[], args, []⟩).memory :=
  laidMetH_of_parts3 (fuel := 8) (laidMet_of_run' 8 (by kernel_rfl) (by kernel_rfl)) (by kernel_rfl) (by kernel_rfl)
set_option maxRecDepth 100000 in
theorem lifted (os : Os) (started : os.Started) (H : Type) (enc : TypeId × Value → H) :
    ReturnsInHanded {} Tryd.checked os 3 .any (fun w args => (Rows.schemeInstanceSpec.pre enc Tryd.prog Tryd.f3 [] false w args ∧ laidMetH Tryd.prog laid3 w) ∧ sizedMet enc Tryd.prog Tryd.f3 (OpenSpec.ofChange Rows.schemeInstanceSpec) false w args) (Rows.schemeInstanceSpec.post enc Tryd.prog Tryd.f3 false true false false) := by
  refine returnsInHanded_of_change_and (C := Tryd.checked) (X := fun w _ => laidMetH Tryd.prog laid3 w) (fun _ _ _ hh h => h.of_heap hh) own started (by kernel_rfl) Tryd.func3
    (ChangeSpec.witness_shaped (enc := enc) (C := Tryd.checked) (os := os) (X := fun w _ => laidMetH Tryd.prog laid3 w) false (World.doorLaid Tryd.prog 400 os) #[.agg #[nilS, .int .i64 0, .string ByteArray.empty, nilS], nilS] 8 rfl (World.shaped_of_RefB (by kernel_rfl) (by kernel_rfl)) (by kernel_rfl) (by kernel_rfl) (by kernel_rfl) (door_met os _)) ?_
  intro W base args ds gs before hval0 hW hcnd hsz0 _ _
  have hW' := hW
  obtain ⟨p, q, hA0, hV, rfl, hfz, hnd⟩ := hW
  have hA : DataW.TrodAll enc Tryd.prog W 0 (fun _ => true) true Tryd.f3.params.toList args.toList ds p := hA0
  obtain ⟨rfl, rfl⟩ := trodVars_none hV
  have hsz : (DataW.weightsEach Tryd.prog (Tryd.f3.params.toList ++ []) (ds ++ [])).all (· ≤ reachBytes) = true := hsz0
  rw [List.append_nil, List.append_nil] at hsz
  rw [Tryd.params3] at hA hval0 hsz
  refine (Go.AL.law_callsV Go.AL.S5.pa Go.AL.S5.snd Go.AL.S5.schemeInstance.closed (f := 3) (ts := [27, 23]) (by kernel_rfl) hA (fun j t v e1 e2 => hval0 j t v (by simpa using e1) e2) hsz Go.AL.S5.schemeInstance.args_law).mono fun e W' ⟨he, bel, hpost⟩ => ?_
  subst he
  have hlen : ∀ {ts : List TypeId} {vs : List Value} {ds : List (DataW H)} {p : List MemPlace}, DataW.TrodAll enc Tryd.prog W 0 (fun _ => true) true ts vs ds p → ds.length = ts.length := by
    intro ts
    induction ts with
    | nil => intro vs ds p h; cases vs <;> cases ds <;> first | rfl | exact h.elim
    | cons t ts ih => intro vs ds p h; cases vs <;> cases ds <;> first | exact h.elim | (obtain ⟨_, _, _, h2, _⟩ := h; simp [ih h2])
  have hl : ds.length = 2 := hlen hA
  obtain ⟨d1, d2, rfl⟩ : ∃ d1 d2, ds = [d1, d2] := by
    match ds, hl with
    | [d1, d2], _ => exact ⟨d1, d2, rfl⟩
  exact ⟨_, rfl, _, _, _, [], _, [], hW', trodAll_mk1 (shut_bool Tryd.underlying4 _), (by rw [Tryd.params3]; exact hpost), rfl, bel.frame _, fun h => by cases h⟩
theorem over : Rows.schemeInstanceRow.holds Tryd.pinned (OpenSpec.ofChange Rows.schemeInstanceSpec) :=
  OpenClaim.holds_of_wide 3 Tryd.f3 rfl rfl rfl rfl rfl rfl rfl ⟨rfl, rfl, rfl, rfl, rfl⟩ rfl rfl rfl rfl rfl (by kernel_rfl) Tryd.func3 (by kernel_rfl)
    (of_decide_eq_true (by kernel_rfl)) (by unfold Func.isWrapper; first | (rw [if_pos (by decide +kernel)]; kernel_rfl) | (rw [if_neg (by decide +kernel)]; exact ⟨rfl, rfl⟩))
    (fun os started H enc _ => lifted os started H enc)
theorem proved : Rows.SchemeInstanceCardSaid :=
  Claim7.holds_tied_plain_at .later [] [.data, .data, .data] true (true, "cd4c057f4ec2f14a910725ffded6d7acf2afd09b7250754fd15963fcde194d20") false
    over (fun _ h => by cases h) (by kernel_rfl) (fun _ h => by cases h) schemeInstance_row_tie rfl ⟨rfl, rfl⟩ (by kernel_rfl) rfl
    (fun f fn hf hfn => by
      obtain rfl : f = 3 := Option.some.inj ((show Tryd.prog.funcNamed "roadstead/roadkeep2.SchemeInstance" = some 3 by kernel_rfl).symm.trans hf) |>.symm
      obtain rfl : fn = Tryd.f3 := (Option.some.inj (Tryd.func3.symm.trans hfn)).symm
      exact ⟨by kernel_rfl, fun j t ht => by
        rw [Tryd.params3] at ht
        have hm : t ∈ [27, 23] := by simpa using Array.mem_of_getElem? ht
        have hall : ([27, 23].all fun u => !Tryd.prog.wantsStandIn u) = true := by kernel_rfl
        exact (show Tryd.prog.wantsStandIn t = false by simpa using List.all_eq_true.1 hall t hm)⟩)
    (by kernel_rfl)
end Go.Proofs.YtlmodlihiglnhaaDoor.schemeInstance
namespace Go.Proofs.YtlmodlihiglnhaaDoor
/-- The card, under a short name. -/
theorem schemeInstanceCard_holds : Rows.SchemeInstanceCardSaid := schemeInstance.proved
end Go.Proofs.YtlmodlihiglnhaaDoor
#print axioms Go.Proofs.YtlmodlihiglnhaaDoor.schemeInstanceCard_holds
