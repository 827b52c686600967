/- UnifyOrder: the row. -/
import Derived.Test.YtlmodlihiglnhaaS4UnM
import Derived.Test.YtlmodlihiglnhaaAL4
import Derived.WalkKit
import Derived.ProofKit
import Derived.OpenShut
import Derived.ShutString
import Derived.ChangeOld
import Derived.Below
import Derived.SizedLaws
import Derived.JoinedCond
import Derived.Deep.CondSized
set_option linter.unusedVariables false
set_option linter.unusedSimpArgs false
namespace Go.AL.S4.unifyOrder
open Go Go.AL Go.AL.S4 Go.AL.S4.Un
def S : List TypeId := [40, 44, 43, 3, 9, 31]
theorem closed : closedT Pr S = true := by kernel_rfl
theorem u40 : Pr.underlying 40 = some (.slice 44) := by kernel_rfl
theorem by44 : Pr.bytesOf 44 = 96 := by kernel_rfl
theorem u44 : Pr.underlying 44 = some (.array 2 43) := by kernel_rfl
theorem is44 : isStruct Pr 44 = true := by kernel_rfl
theorem f43 : ftypes Pr 43 = some [3, 9, 31] := by kernel_rfl
theorem is43 : isStruct Pr 43 = true := by kernel_rfl
theorem u3 : Pr.underlying 3 = some (.int .i64) := by kernel_rfl
theorem u9 : Pr.underlying 9 = some .string := by kernel_rfl
theorem u31 : Pr.underlying 31 = some (.slice 43) := by kernel_rfl
theorem by43 : Pr.bytesOf 43 = 48 := by kernel_rfl
theorem reach : reachBytes = 140737488351232 := rfl
theorem ty_of' : ∀ (N : Nat) {pvs : List PV}, SizeOf.sizeOf pvs < N → Fits Pr 43 pvs → ∃ ty, pvElem Pr 43 pvs = Ty.enc ty ∧ Okt ty
  | 0, pvs, h, _ => absurd h (Nat.not_lt_zero _)
  | N + 1, pvs, h, hf => by
    obtain ⟨a, b, rfl, g1, g⟩ := (fits_parts f43 hf).c1
    obtain ⟨c, d, rfl, g2, g⟩ := g.c1
    obtain ⟨e, z, rfl, g3, g⟩ := g.c1
    obtain rfl := g.c0
    obtain ⟨k, rfl, _⟩ := fits_int u3 g1
    obtain ⟨nm, rfl, _⟩ := fits_str u9 g2
    obtain ⟨xs, rfl, hb, hlen, hall⟩ := fits_lst u31 g3
    have hx : ∀ x, x ∈ xs → ∃ ty, pvElem Pr 43 x = Ty.enc ty ∧ Okt ty := fun x hx => by
      refine ty_of' N ?_ (hall x hx)
      have h1 : SizeOf.sizeOf (pvElem Pr 43 x) < SizeOf.sizeOf (xs.map (pvElem Pr 43)) := List.sizeOf_lt_of_mem (List.mem_map.2 ⟨x, hx, rfl⟩)
      rw [elem_struct is43, PV.agg.sizeOf_spec] at h1
      simp only [List.cons_append, List.nil_append, List.cons.sizeOf_spec, PV.lst.sizeOf_spec] at h
      omega
    obtain ⟨ys, h3, h4⟩ := list_of (l := xs.map (pvElem Pr 43)) (f := Ty.enc) (Q := Okt) fun p hp => by
      obtain ⟨x, hx', rfl⟩ := List.mem_map.1 hp
      exact hx x hx'
    rw [by43] at hb
    have hxy : xs.length = ys.length := by have := congrArg List.length h3; simpa using this
    refine ⟨.mk k nm ys, ?_, .mk (by omega) (by rw [← hxy]; exact hb) h4⟩
    rw [elem_struct is43, enc_mk, h3]
    rfl
theorem ty_of {pvs : List PV} (h : Fits Pr 43 pvs) : ∃ ty : Ty, pvs = [.int .i64 ty.kind, .str ty.name, .lst (ty.args.map Ty.enc)] ∧ Okt ty := by
  obtain ⟨ty, e, ho⟩ := ty_of' _ (Nat.lt_succ_self _) h
  refine ⟨ty, ?_, ho⟩
  rw [elem_struct is43] at e
  obtain ⟨k, n, a⟩ := ty
  rw [enc_mk] at e
  exact PV.agg.inj e
theorem pair_of {pvs : List PV} (h : Fits Pr 44 pvs) : ∃ p : Pq, pvElem Pr 44 pvs = eQ p ∧ (Okt p.1 ∧ Okt p.2) := by
  obtain ⟨xs, rfl, hn, hx⟩ := fits_arr u44 h
  match xs, hn, hx with
  | [a, b], _, hx =>
    obtain ⟨t, rfl, ht⟩ := ty_of (hx a (by simp))
    obtain ⟨u, rfl, hu⟩ := ty_of (hx b (by simp))
    exact ⟨(t, u), by rw [elem_struct is44]; rfl, ht, hu⟩
theorem pairs_of {pvs : List PV} (h : Fits Pr 40 pvs) : ∃ ps : List Pq, pvElem Pr 40 pvs = .lst (ps.map eQ) ∧ ps.length ≤ maxLen ∧ ∀ p, p ∈ ps → Okt p.1 ∧ Okt p.2 := by
  obtain ⟨xs, e, hl, _, h3⟩ := elem_lst u40 (f := eQ) (Q := fun p : Pq => Okt p.1 ∧ Okt p.2) (fun _ => pair_of) h
  exact ⟨xs, e, hl, h3⟩
theorem sz_bk (t : Ty) : sz t ≤ bk t.enc := by
  refine Ty.ind (Q := fun t => sz t ≤ bk t.enc) (fun k n a ih => ?_) t
  have : ∀ l : List Ty, (∀ t, t ∈ l → sz t ≤ bk t.enc) → szs l ≤ bkL (l.map Ty.enc) := by
    intro l
    induction l with
    | nil => intro _; simp [szs]
    | cons x l ih =>
      intro h
      have h1 := h x (by simp)
      have h2 := ih fun t ht => h t (by simp [ht])
      simp only [szs, List.map_cons, bkL]; omega
  have := this a ih
  rw [sz_mk, enc_mk]
  simp only [bk, bkL]; omega
theorem szs_bk : ∀ l : List Ty, szs l ≤ bkL (l.map Ty.enc)
  | [] => by simp [szs]
  | x :: l => by
    have h1 := sz_bk x
    have h2 := szs_bk l
    simp only [szs, List.map_cons, bkL]; omega
theorem sz_args (t : Ty) : sz t = szs t.args + 1 := by cases t; exact sz_mk _ _ _
theorem both_bk : ∀ ps : List Pq, szs (both ps) ≤ bkL (ps.map eQ)
  | [] => by simp [both, szs]
  | p :: ps => by
    have h1 := both_bk ps
    have h2 := szs_bk p.1.args
    have h3 := szs_bk p.2.args
    have e : both (p :: ps) = p.1 :: p.2 :: both ps := rfl
    rw [e]
    simp only [szs, List.map_cons, bkL, eQ, bk, sz_args]; omega
theorem good_of {ps : List Pq} (hl : ps.length ≤ maxLen) (ho : ∀ p, p ∈ ps → Okt p.1 ∧ Okt p.2) (hb : bkL (ps.map eQ) ≤ 1048576) : Go.AL.S4.Un.Good ps := ⟨hl, ho, Nat.le_trans (both_bk ps) (by simp only [BIG]; exact hb)⟩
theorem args_law : ∀ ps, ArgsFit Pr [40] ps → bkL ps ≤ 1048576 → AL.V Pr T 5 (ps.map .pv) = some (.pv (.bool true), []) := by
  intro ps h hb
  cases h with | cons a0 h =>
  cases h
  obtain ⟨l, e0, hl, ho⟩ := pairs_of a0
  simp only [List.map_cons, List.map_nil, e0, bkL, bk] at hb ⊢
  exact Go.AL.S4.Un.law5 (good_of hl ho (by omega))

end Go.AL.S4.unifyOrder
namespace Go.Proofs.Ytlmodlihiglnhaa.unifyOrder
open Go.ChangeShapes Go.WideShapes Go.ChangeAt Go.RowKit
theorem own : ownKnob Try.prog.godebug = none := by kernel_rfl
theorem bulkAll {H : Type} (l : List (DataW H)) : Rows.uptoBulkAll l = (l.map Rows.uptoBulk).sum := by
  induction l with
  | nil => simp [Rows.uptoBulkAll]
  | cons d l ih => simp [Rows.uptoBulkAll, ih]
theorem bulky {H : Type} : Go.AL.Bulky (Rows.uptoBulk : DataW H → Nat) := by
  refine ⟨fun b => ?_, fun d => ?_, fun d => ?_, fun e s => ?_, fun ps => ?_⟩
  · simp [Rows.uptoBulk]
  · cases d with
    | lit l => cases l <;> simp [Rows.uptoBulk]
    | _ => simp [Rows.uptoBulk]
  · simp [Rows.uptoBulk]
  · simp [Rows.uptoBulk, bulkAll]
  · simp [Rows.uptoBulk, bulkAll]
def nilS : Value := .slice none 0 0
set_option maxRecDepth 100000 in
theorem lifted (os : Os) (started : os.Started) (H : Type) (enc : TypeId × Value → H) (F0 : Stop.Interp) :
    ReturnsInHanded {} Try.checked os 5 .any ((Rows.OpenSpec.upto Rows.unifyOrderSpec).pre6 enc Try.prog Try.f5 Rows.unifyOrderUptoRow.domain false) (((Rows.OpenSpec.upto Rows.unifyOrderSpec).at F0).post enc Try.prog Try.f5 false true false false) := by
  refine returnsInHanded_of_cond_sized (C := Try.checked) (s := Rows.OpenSpec.upto Rows.unifyOrderSpec) (k := Rows.uptoSmall) rfl own started (by kernel_rfl) Try.func5
    (OpenSpec.witness (enc := enc) (C := Try.checked) (s := Rows.OpenSpec.upto Rows.unifyOrderSpec) (k := Rows.uptoSmall) rfl false ⟨#[], #[nilS], []⟩ 8 (by kernel_rfl) (by kernel_rfl) (by kernel_rfl)
      (x := ([.nil], [], [])) (by kernel_rfl) (by kernel_rfl) (by kernel_rfl)) ?_
  intro W base args ds gs before hval0 hW hcnd hk hsz0 _
  have hW' := hW
  obtain ⟨p, q, hA0, hV, rfl, hfz, hnd⟩ := hW
  have hA : DataW.TrodAll enc Try.prog W 0 (fun _ => true) true Try.f5.params.toList args.toList ds p := hA0
  obtain ⟨rfl, rfl⟩ := trodVars_none hV
  have hk' : Rows.uptoBulkAll (ds ++ []) ≤ 1048576 := of_decide_eq_true hk
  rw [List.append_nil, bulkAll] at hk'
  have hsz : (DataW.weightsEach Try.prog (Try.f5.params.toList ++ []) (ds ++ [])).all (· ≤ reachBytes) = true := hsz0
  rw [List.append_nil, List.append_nil] at hsz
  rw [Try.params5] at hA hval0 hsz
  refine (Go.AL.law_callsVB (B := Rows.uptoBulk) bulky Go.AL.S4.pa Go.AL.S4.snd Go.AL.S4.unifyOrder.closed (f := 5) (ts := [40]) (by kernel_rfl) hA (fun j t v e1 e2 => hval0 j t v (by simpa using e1) e2) hsz hk' Go.AL.S4.unifyOrder.args_law).mono fun e W' ⟨he, bel, hpost⟩ => ?_
  subst he
  have hlen : ∀ {ts : List TypeId} {vs : List Value} {ds : List (DataW H)} {p : List MemPlace}, DataW.TrodAll enc Try.prog W 0 (fun _ => true) true ts vs ds p → ds.length = ts.length := by
    intro ts
    induction ts with
    | nil => intro vs ds p h; cases vs <;> cases ds <;> first | rfl | exact h.elim
    | cons t ts ih => intro vs ds p h; cases vs <;> cases ds <;> first | exact h.elim | (obtain ⟨_, _, _, h2, _⟩ := h; simp [ih h2])
  have hl : ds.length = 1 := hlen hA
  obtain ⟨d1, rfl⟩ : ∃ d1, ds = [d1] := by
    match ds, hl with
    | [d1], _ => exact ⟨d1, rfl⟩
  exact ⟨_, rfl, _, _, _, [], _, [], hW', trodAll_mk1 (shut_bool Try.underlying4 _), (by rw [Try.params5]; exact hpost), rfl, bel.frame _, fun h => by cases h⟩
theorem over : Rows.unifyOrderUptoRow.holds Try.pinned (Rows.OpenSpec.upto Rows.unifyOrderSpec) :=
  OpenClaim.holds_of_cond 5 Try.f5 rfl rfl rfl rfl rfl rfl rfl ⟨rfl, rfl, rfl, rfl, rfl⟩ rfl rfl rfl rfl rfl (by kernel_rfl) Try.func5 (by kernel_rfl)
    (of_decide_eq_true (by kernel_rfl)) (by unfold Func.isWrapper; first | (rw [if_pos (by decide +kernel)]; kernel_rfl) | (rw [if_neg (by decide +kernel)]; exact ⟨rfl, rfl⟩))
    (fun os started H enc _ F => lifted os started H enc F)
theorem proved : Rows.UnifyOrderUptoSaid := over
end Go.Proofs.Ytlmodlihiglnhaa.unifyOrder
namespace Go.Proofs.Ytlmodlihiglnhaa
/-- The row, under a short name. -/
theorem unifyOrderUpto_holds : Rows.UnifyOrderUptoSaid := unifyOrder.proved
end Go.Proofs.Ytlmodlihiglnhaa
#print axioms Go.Proofs.Ytlmodlihiglnhaa.unifyOrderUpto_holds
