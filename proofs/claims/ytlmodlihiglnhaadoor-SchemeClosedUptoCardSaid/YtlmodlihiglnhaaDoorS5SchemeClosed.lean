/- SchemeClosed: the row. -/
import Derived.Test.YtlmodlihiglnhaaDoorS5Cl
import Derived.Test.YtlmodlihiglnhaaDoorAL4
import Derived.Test.YtlmodlihiglnhaaDoorCards
import Derived.Test.YtlmodlihiglnhaaDoorTie
import Derived.LaidMore
import Derived.Stop.Joined
import Derived.Deep.DeepHandedRow
import Derived.WalkKit
import Derived.ProofKit
import Derived.OpenShut
import Derived.ShutString
import Derived.ChangeOld
import Derived.Below
import Derived.SizedLaws
import Derived.JoinedCond
import Derived.Deep.CondSized
set_option linter.unusedVariables false
set_option linter.unusedSimpArgs false
namespace Go.AL.S5.schemeClosed
open Go Go.AL Go.AL.S5 Go.AL.S5.Un
def S : List TypeId := [25, 3, 9, 23]
theorem closed : closedT Pr S = true := by kernel_rfl
theorem f25 : ftypes Pr 25 = some [3, 9, 23] := by kernel_rfl
theorem is25 : isStruct Pr 25 = true := by kernel_rfl
theorem u3 : Pr.underlying 3 = some (.int .i64) := by kernel_rfl
theorem u9 : Pr.underlying 9 = some .string := by kernel_rfl
theorem u23 : Pr.underlying 23 = some (.slice 25) := by kernel_rfl
theorem by25 : Pr.bytesOf 25 = 48 := by kernel_rfl
theorem reach : reachBytes = 140737488351232 := rfl
theorem ty_of' : ∀ (N : Nat) {pvs : List PV}, SizeOf.sizeOf pvs < N → Fits Pr 25 pvs → ∃ ty, pvElem Pr 25 pvs = Ty.enc ty ∧ Okt ty
  | 0, pvs, h, _ => absurd h (Nat.not_lt_zero _)
  | N + 1, pvs, h, hf => by
    obtain ⟨a, b, rfl, g1, g⟩ := (fits_parts f25 hf).c1
    obtain ⟨c, d, rfl, g2, g⟩ := g.c1
    obtain ⟨e, z, rfl, g3, g⟩ := g.c1
    obtain rfl := g.c0
    obtain ⟨k, rfl, _⟩ := fits_int u3 g1
    obtain ⟨nm, rfl, _⟩ := fits_str u9 g2
    obtain ⟨xs, rfl, hb, hlen, hall⟩ := fits_lst u23 g3
    have hx : ∀ x, x ∈ xs → ∃ ty, pvElem Pr 25 x = Ty.enc ty ∧ Okt ty := fun x hx => by
      refine ty_of' N ?_ (hall x hx)
      have h1 : SizeOf.sizeOf (pvElem Pr 25 x) < SizeOf.sizeOf (xs.map (pvElem Pr 25)) := List.sizeOf_lt_of_mem (List.mem_map.2 ⟨x, hx, rfl⟩)
      rw [elem_struct is25, PV.agg.sizeOf_spec] at h1
      simp only [List.cons_append, List.nil_append, List.cons.sizeOf_spec, PV.lst.sizeOf_spec] at h
      omega
    obtain ⟨ys, h3, h4⟩ := list_of (l := xs.map (pvElem Pr 25)) (f := Ty.enc) (Q := Okt) fun p hp => by
      obtain ⟨x, hx', rfl⟩ := List.mem_map.1 hp
      exact hx x hx'
    rw [by25] at hb
    have hxy : xs.length = ys.length := by have := congrArg List.length h3; simpa using this
    refine ⟨.mk k nm ys, ?_, .mk (by omega) (by rw [← hxy]; exact hb) h4⟩
    rw [elem_struct is25, enc_mk, h3]
    rfl
theorem ty_cells {pvs : List PV} (h : Fits Pr 25 pvs) : ∃ ty : Ty, pvs = [.int .i64 ty.kind, .str ty.name, .lst (ty.args.map Ty.enc)] ∧ Okt ty := by
  obtain ⟨ty, e, ho⟩ := ty_of' _ (Nat.lt_succ_self _) h
  refine ⟨ty, ?_, ho⟩
  rw [elem_struct is25] at e
  obtain ⟨k, n, a⟩ := ty
  rw [enc_mk] at e
  exact PV.agg.inj e
theorem sz_bk (t : Ty) : sz t ≤ bk t.enc := by
  refine Ty.ind (Q := fun t => sz t ≤ bk t.enc) (fun k n a ih => ?_) t
  have : ∀ l : List Ty, (∀ t, t ∈ l → sz t ≤ bk t.enc) → szs l ≤ bkL (l.map Ty.enc) := by
    intro l
    induction l with
    | nil => intro _; simp [szs]
    | cons x l ih =>
      intro h
      have h1 := h x (by simp)
      have h2 := ih fun t ht => h t (by simp [ht])
      simp only [szs, List.map_cons, bkL]; omega
  have := this a ih
  rw [sz_mk, enc_mk]
  simp only [bk, bkL]; omega
theorem args_law : ∀ ps, ArgsFit Pr [25] ps → bkL ps ≤ 1048576 → AL.V Pr T 4 (ps.map .pv) = some (.pv (.bool true), []) := by
  intro ps h hb
  cases h with | cons a0 h =>
  cases h
  obtain ⟨t, e0, ht⟩ := ty_of' _ (Nat.lt_succ_self _) a0
  simp only [List.map_cons, List.map_nil, e0, bkL] at hb ⊢
  have := sz_bk t
  exact Go.AL.S5.Un.law4 ht (by simp only [BIG]; omega)

end Go.AL.S5.schemeClosed
namespace Go.Proofs.YtlmodlihiglnhaaDoor.schemeClosed
open Go.ChangeShapes Go.WideShapes Go.ChangeAt Go.RowKit
theorem own : ownKnob Tryd.prog.godebug = none := by kernel_rfl
theorem bulkAll {H : Type} (l : List (DataW H)) : Rows.uptoBulkAll l = (l.map Rows.uptoBulk).sum := by
  induction l with
  | nil => simp [Rows.uptoBulkAll]
  | cons d l ih => simp [Rows.uptoBulkAll, ih]
theorem bulky {H : Type} : Go.AL.Bulky (Rows.uptoBulk : DataW H → Nat) := by
  refine ⟨fun b => ?_, fun d => ?_, fun d => ?_, fun e s => ?_, fun ps => ?_⟩
  · simp [Rows.uptoBulk]
  · cases d with
    | lit l => cases l <;> simp [Rows.uptoBulk]
    | _ => simp [Rows.uptoBulk]
  · simp [Rows.uptoBulk]
  · simp [Rows.uptoBulk, bulkAll]
  · simp [Rows.uptoBulk, bulkAll]
def nilS : Value := .slice none 0 0
def laid3 : List (String × DataW Unit) := [("math/bits.deBruijn32tab", Rows.laid_math_bits_deBruijn32tab), ("math/bits.deBruijn64tab", Rows.laid_math_bits_deBruijn64tab), ("internal/strconv.uint64pow10", Rows.laid_internal_strconv_uint64pow10)]
/-- The door's own heap meets the condition. -/
theorem door_met (os : Os) (args : Array Value) : laidMetH Tryd.prog laid3 ((World.doorLaid Tryd.prog 400 os).forCall (fun _ _ => 0) ⟨#[], args, []⟩).memory :=
  laidMetH_of_parts3 (fuel := 8) (laidMet_of_run' 8 (by kernel_rfl) (by kernel_rfl)) (by kernel_rfl) (by kernel_rfl)
theorem witness_ref {H : Type} {enc : TypeId × Value → H} {C : Checked} {os : Os} {f : FuncId} {fn : Func} {s : OpenSpec} {conds : List PathCond} {apart : Bool} {laid : List (String × DataW Unit)} (w0 : World) (args : Array Value) (hos : w0.os = os)
    (hsh : (w0.forCall (fun _ _ => 0) ⟨#[], args, []⟩).Shaped C.prog)
    (hok : Input.okWideB C.prog (w0.forCall (fun _ _ => 0) ⟨#[], args, []⟩) f ⟨#[], args, []⟩ = true)
    (hrow : s.preRow enc C.prog fn conds apart laid (w0.forCall (fun _ _ => 0) ⟨#[], args, []⟩).memory args) :
    ∃ (w : World) (tape : Tape) (i : Input), w.os = os ∧ (w.forCall tape i).Shaped C.prog ∧ i.vars = [] ∧ Input.okWide C.prog (w.forCall tape i) .any w.heap.size f i ∧
      s.preRow enc C.prog fn conds apart laid (w.forCall tape i).memory i.args ∧ ({} : Assume).holds C.prog (lone (Frame.enter C.prog f i.args .normal) [] (w.forCall tape i)) :=
  ⟨w0, fun _ _ => 0, ⟨#[], args, []⟩, hos, hsh, (Input.okWide_of_okWideB (base := 0) hok).1, (Input.okWide_of_okWideB hok).2, hrow, by
    simp only [Assume.holds]
    exact ⟨by simp, by simp, fun _ => Modest.zero, by simp, by simp⟩⟩
set_option maxRecDepth 100000 in
theorem lifted (os : Os) (started : os.Started) (H : Type) (enc : TypeId × Value → H) (F0 : Stop.Interp) :
    ReturnsInHanded {} Tryd.checked os 4 .any ((Rows.OpenSpec.upto Rows.schemeClosedSpec).preRow enc Tryd.prog Tryd.f4 [] false laid3) (((Rows.OpenSpec.upto Rows.schemeClosedSpec).at F0).post enc Tryd.prog Tryd.f4 false true false false) := by
  refine returnsInHanded_of_row (C := Tryd.checked) (s := Rows.OpenSpec.upto Rows.schemeClosedSpec) (laid := laid3) own started (by kernel_rfl) Tryd.func4
    (witness_ref (enc := enc) (C := Tryd.checked) (os := os) (World.doorLaid Tryd.prog 400 os) #[.agg #[.int .i64 0, .string ByteArray.empty, nilS]] rfl (World.shaped_of_RefB (by kernel_rfl) (by kernel_rfl)) (by kernel_rfl)
      ⟨⟨(OpenSpec.pre_some (k := Rows.uptoSmall) rfl [] false _ _).2 ⟨_, _, _, DataW.Whole_of_whole (fuel := 8) (x := ([.agg [.lit (.int .i64 0), .lit (.string []), .nil]], [], [])) (by kernel_rfl), by kernel_rfl, by kernel_rfl⟩, door_met os _⟩, sizedMet_of_sizedB (fuel := 8) (by kernel_rfl)⟩) ?_
  intro W base args ds gs before hval0 hW hcnd hk0 hsz0 _ _ _
  have hk := hk0 _ rfl
  have hW' := hW
  obtain ⟨p, q, hA0, hV, rfl, hfz, hnd⟩ := hW
  have hA : DataW.TrodAll enc Tryd.prog W 0 (fun _ => true) true Tryd.f4.params.toList args.toList ds p := hA0
  obtain ⟨rfl, rfl⟩ := trodVars_none hV
  have hk' : Rows.uptoBulkAll (ds ++ []) ≤ 1048576 := of_decide_eq_true hk
  rw [List.append_nil, bulkAll] at hk'
  have hsz : (DataW.weightsEach Tryd.prog (Tryd.f4.params.toList ++ []) (ds ++ [])).all (· ≤ reachBytes) = true := hsz0
  rw [List.append_nil, List.append_nil] at hsz
  rw [Tryd.params4] at hA hval0 hsz
  refine (Go.AL.law_callsVB (B := Rows.uptoBulk) bulky Go.AL.S5.pa Go.AL.S5.snd Go.AL.S5.schemeClosed.closed (f := 4) (ts := [25]) (by kernel_rfl) hA (fun j t v e1 e2 => hval0 j t v (by simpa using e1) e2) hsz hk' Go.AL.S5.schemeClosed.args_law).mono fun e W' ⟨he, bel, hpost⟩ => ?_
  subst he
  have hlen : ∀ {ts : List TypeId} {vs : List Value} {ds : List (DataW H)} {p : List MemPlace}, DataW.TrodAll enc Tryd.prog W 0 (fun _ => true) true ts vs ds p → ds.length = ts.length := by
    intro ts
    induction ts with
    | nil => intro vs ds p h; cases vs <;> cases ds <;> first | rfl | exact h.elim
    | cons t ts ih => intro vs ds p h; cases vs <;> cases ds <;> first | exact h.elim | (obtain ⟨_, _, _, h2, _⟩ := h; simp [ih h2])
  have hl : ds.length = 1 := hlen hA
  obtain ⟨d1, rfl⟩ : ∃ d1, ds = [d1] := by
    match ds, hl with
    | [d1], _ => exact ⟨d1, rfl⟩
  exact ⟨_, rfl, _, _, _, [], _, [], hW', trodAll_mk1 (shut_bool Tryd.underlying4 _), (by rw [Tryd.params4]; exact hpost), rfl, bel.frame _, fun h => by cases h⟩
theorem over : Rows.schemeClosedUptoRow.holds Tryd.pinned (Rows.OpenSpec.upto Rows.schemeClosedSpec) :=
  OpenClaim.holds_of_cond 4 Tryd.f4 rfl rfl rfl rfl rfl rfl rfl ⟨rfl, rfl, rfl, rfl, rfl⟩ rfl rfl rfl rfl rfl (by kernel_rfl) Tryd.func4 (by kernel_rfl)
    (of_decide_eq_true (by kernel_rfl)) (by unfold Func.isWrapper; first | (rw [if_pos (by decide +kernel)]; kernel_rfl) | (rw [if_neg (by decide +kernel)]; exact ⟨rfl, rfl⟩))
    (fun os started H enc _ F => by rw [OpenClaim.pre_eq_preRow]; exact lifted os started H enc F)
theorem proved : Rows.SchemeClosedUptoCardSaid :=
  Claim7.holds_tied_plain_at .later [] [.data, .data, .data] true (true, "cd4c057f4ec2f14a910725ffded6d7acf2afd09b7250754fd15963fcde194d20") false
    over (fun _ h => by cases h) (by kernel_rfl) (fun _ h => by cases h) schemeClosedUpto_row_tie rfl ⟨rfl, rfl⟩ (by kernel_rfl) rfl
    (fun f fn hf hfn => by
      obtain rfl : f = 4 := Option.some.inj ((show Tryd.prog.funcNamed "roadstead/roadkeep2.SchemeClosed" = some 4 by kernel_rfl).symm.trans hf) |>.symm
      obtain rfl : fn = Tryd.f4 := (Option.some.inj (Tryd.func4.symm.trans hfn)).symm
      exact ⟨by kernel_rfl, fun j t ht => by
        rw [Tryd.params4] at ht
        have hm : t ∈ [25] := by simpa using Array.mem_of_getElem? ht
        have hall : ([25].all fun u => !Tryd.prog.wantsStandIn u) = true := by kernel_rfl
        exact (show Tryd.prog.wantsStandIn t = false by simpa using List.all_eq_true.1 hall t hm)⟩)
    (by kernel_rfl)
end Go.Proofs.YtlmodlihiglnhaaDoor.schemeClosed
namespace Go.Proofs.YtlmodlihiglnhaaDoor
/-- The card, under a short name. -/
theorem schemeClosedUptoCard_holds : Rows.SchemeClosedUptoCardSaid := schemeClosed.proved
end Go.Proofs.YtlmodlihiglnhaaDoor
#print axioms Go.Proofs.YtlmodlihiglnhaaDoor.schemeClosedUptoCard_holds
