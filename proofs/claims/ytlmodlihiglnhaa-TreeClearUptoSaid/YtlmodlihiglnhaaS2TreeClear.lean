/- TreeClear: the row. -/
import Derived.Test.YtlmodlihiglnhaaS2Clear
import Derived.Test.YtlmodlihiglnhaaALzl
import Derived.WalkKit
import Derived.ProofKit
import Derived.OpenShut
import Derived.ShutString
import Derived.ChangeOld
import Derived.Below
import Derived.SizedLaws
import Derived.JoinedCond
import Derived.Deep.CondSized
set_option linter.unusedVariables false
set_option linter.unusedSimpArgs false
namespace Go.AL.S2.treeClear
open Go Go.AL Go.AL.S2
def S : List TypeId := [35, 3, 9, 30, 31, 43, 32, 33, 86, 84, 82]
theorem closed : closedT Pr S = true := by kernel_rfl
theorem f35 : ftypes Pr 35 = some [3, 3, 9, 30, 31, 32, 33, 3] := by kernel_rfl
theorem is35 : isStruct Pr 35 = true := by kernel_rfl
theorem u3 : Pr.underlying 3 = some (.int .i64) := by kernel_rfl
theorem u9 : Pr.underlying 9 = some .string := by kernel_rfl
theorem u30 : Pr.underlying 30 = some (.slice 9) := by kernel_rfl
theorem by9 : Pr.bytesOf 9 = 16 := by kernel_rfl
theorem u31 : Pr.underlying 31 = some (.slice 43) := by kernel_rfl
theorem by43 : Pr.bytesOf 43 = 48 := by kernel_rfl
theorem f43 : ftypes Pr 43 = some [3, 9, 31] := by kernel_rfl
theorem is43 : isStruct Pr 43 = true := by kernel_rfl
theorem u32 : Pr.underlying 32 = some (.slice 35) := by kernel_rfl
theorem by35 : Pr.bytesOf 35 = 136 := by kernel_rfl
theorem u33 : Pr.underlying 33 = some (.slice 86) := by kernel_rfl
theorem by86 : Pr.bytesOf 86 = 192 := by kernel_rfl
theorem f86 : ftypes Pr 86 = some [84, 35] := by kernel_rfl
theorem is86 : isStruct Pr 86 = true := by kernel_rfl
theorem f84 : ftypes Pr 84 = some [3, 3, 9, 82] := by kernel_rfl
theorem is84 : isStruct Pr 84 = true := by kernel_rfl
theorem u82 : Pr.underlying 82 = some (.slice 84) := by kernel_rfl
theorem by84 : Pr.bytesOf 84 = 56 := by kernel_rfl
theorem ty_of' : ∀ (N : Nat) {pvs : List PV}, SizeOf.sizeOf pvs < N → Fits Pr 43 pvs → ∃ ty, pvElem Pr 43 pvs = Ty.enc ty ∧ True
  | 0, pvs, h, _ => absurd h (Nat.not_lt_zero _)
  | N + 1, pvs, h, hf => by
    obtain ⟨a, b, rfl, g1, g⟩ := (fits_parts f43 hf).c1
    obtain ⟨c, d, rfl, g2, g⟩ := g.c1
    obtain ⟨e, z, rfl, g3, g⟩ := g.c1
    obtain rfl := g.c0
    obtain ⟨k, rfl, _⟩ := fits_int u3 g1
    obtain ⟨nm, rfl, _⟩ := fits_str u9 g2
    obtain ⟨xs, rfl, hb, hlen, hall⟩ := fits_lst u31 g3
    have hx : ∀ x, x ∈ xs → ∃ ty, pvElem Pr 43 x = Ty.enc ty ∧ True := fun x hx => by
      refine ty_of' N ?_ (hall x hx)
      have h1 : SizeOf.sizeOf (pvElem Pr 43 x) < SizeOf.sizeOf (xs.map (pvElem Pr 43)) := List.sizeOf_lt_of_mem (List.mem_map.2 ⟨x, hx, rfl⟩)
      rw [elem_struct is43, PV.agg.sizeOf_spec] at h1
      simp only [List.cons_append, List.nil_append, List.cons.sizeOf_spec, PV.lst.sizeOf_spec] at h
      omega
    obtain ⟨ys, h3, h4⟩ := list_of (l := xs.map (pvElem Pr 43)) (f := Ty.enc) (Q := fun _ => True) fun p hp => by
      obtain ⟨x, hx', rfl⟩ := List.mem_map.1 hp
      exact hx x hx'
    refine ⟨.mk k nm ys, ?_, trivial⟩
    rw [elem_struct is43, enc_mk, h3]
    rfl
theorem ty_of {pvs : List PV} (h : Fits Pr 43 pvs) : ∃ ty, pvElem Pr 43 pvs = Ty.enc ty ∧ True := ty_of' _ (Nat.lt_succ_self _) h
theorem str_of {pvs : List PV} (h : Fits Pr 9 pvs) : ∃ s : List UInt8, pvElem Pr 9 pvs = .str s ∧ True := by
  obtain ⟨s, e, _⟩ := elem_str u9 h
  exact ⟨s, e, trivial⟩
theorem strs_of {pvs : List PV} (h : Fits Pr 30 pvs) : ∃ xs : List (List UInt8), pvs = [.lst (xs.map .str)] ∧ xs.length ≤ maxLen := by
  obtain ⟨xs, e, hl, _⟩ := lst_of u30 (f := PV.str) (Q := fun _ => True) (fun _ => str_of) h
  exact ⟨xs, e, hl⟩
theorem strs_elem {pvs : List PV} (h : Fits Pr 30 pvs) : ∃ xs : List (List UInt8), pvElem Pr 30 pvs = .lst (xs.map .str) ∧ xs.length ≤ maxLen := by
  obtain ⟨xs, e, hl, _⟩ := elem_lst u30 (f := PV.str) (Q := fun _ => True) (fun _ => str_of) h
  exact ⟨xs, e, hl⟩
theorem size_app (a b : List PV) : SizeOf.sizeOf b ≤ SizeOf.sizeOf (a ++ b) := by
  induction a with
  | nil => simp
  | cons x a ih => simp only [List.cons_append, List.cons.sizeOf_spec]; omega
theorem size_mem {e : TypeId} (is : isStruct Pr e = true) {xs : List (List PV)} {x : List PV} (hx : x ∈ xs) : SizeOf.sizeOf x + 1 < SizeOf.sizeOf (PV.lst (xs.map (pvElem Pr e))) := by
  have h1 : SizeOf.sizeOf (pvElem Pr e x) < SizeOf.sizeOf (xs.map (pvElem Pr e)) := List.sizeOf_lt_of_mem (List.mem_map.2 ⟨x, hx, rfl⟩)
  rw [elem_struct is, PV.agg.sizeOf_spec] at h1
  simp only [PV.lst.sizeOf_spec]
  omega
theorem pa_of' : ∀ (N : Nat) {pvs : List PV}, SizeOf.sizeOf pvs < N → Fits Pr 84 pvs → ∃ p : Pa, pvs = p.cells
  | 0, pvs, h, _ => absurd h (Nat.not_lt_zero _)
  | N + 1, pvs, h, hf => by
    obtain ⟨a, z, rfl, g1, g⟩ := (fits_parts f84 hf).c1
    obtain ⟨b, z, rfl, g2, g⟩ := g.c1
    obtain ⟨c, z, rfl, g3, g⟩ := g.c1
    obtain ⟨d, z, rfl, g4, g⟩ := g.c1
    obtain rfl := g.c0
    obtain ⟨k, rfl, _⟩ := fits_int u3 g1
    obtain ⟨n, rfl, _⟩ := fits_int u3 g2
    obtain ⟨t, rfl, _⟩ := fits_str u9 g3
    obtain ⟨xs, rfl, _, _, hall⟩ := fits_lst u82 g4
    simp only [List.cons_append, List.nil_append, List.cons.sizeOf_spec] at h
    obtain ⟨ys, h3, _⟩ := list_of (l := xs.map (pvElem Pr 84)) (f := Pa.enc) (Q := fun _ => True) fun p hp => by
      obtain ⟨x, hx, rfl⟩ := List.mem_map.1 hp
      have := size_mem is84 hx
      obtain ⟨p, hp⟩ := pa_of' N (by omega) (hall x hx)
      exact ⟨p, by rw [elem_struct is84, hp]; rfl, trivial⟩
    exact ⟨.mk k n t ys, by rw [pa_cells, h3]; rfl⟩
theorem pa_of {pvs : List PV} (h : Fits Pr 84 pvs) : ∃ p : Pa, pvs = p.cells := pa_of' _ (Nat.lt_succ_self _) h
theorem ex_of' : ∀ (N : Nat) {pvs : List PV}, SizeOf.sizeOf pvs < N → Fits Pr 35 pvs → ∃ e : Ex, pvs = e.cells
  | 0, pvs, h, _ => absurd h (Nat.not_lt_zero _)
  | N + 1, pvs, h, hf => by
    obtain ⟨a, z, rfl, g1, g⟩ := (fits_parts f35 hf).c1
    obtain ⟨b, z, rfl, g2, g⟩ := g.c1
    obtain ⟨c, z, rfl, g3, g⟩ := g.c1
    obtain ⟨d, z, rfl, g4, g⟩ := g.c1
    obtain ⟨e, z, rfl, g5, g⟩ := g.c1
    obtain ⟨f, z, rfl, g6, g⟩ := g.c1
    obtain ⟨i, z, rfl, g7, g⟩ := g.c1
    obtain ⟨j, z, rfl, g8, g⟩ := g.c1
    obtain rfl := g.c0
    obtain ⟨k, rfl, _⟩ := fits_int u3 g1
    obtain ⟨n, rfl, _⟩ := fits_int u3 g2
    obtain ⟨t, rfl, _⟩ := fits_str u9 g3
    obtain ⟨ns, rfl, _⟩ := strs_of g4
    obtain ⟨tys, rfl, _⟩ := lst_of u31 (f := Ty.enc) (Q := fun _ => True) (fun _ => ty_of) g5
    obtain ⟨xs, rfl, _, _, hall⟩ := fits_lst u32 g6
    obtain ⟨bs, rfl, _, _, hal2⟩ := fits_lst u33 g7
    obtain ⟨w, rfl, _⟩ := fits_int u3 g8
    simp only [List.cons_append, List.nil_append, List.cons.sizeOf_spec] at h
    obtain ⟨ys, h3, _⟩ := list_of (l := xs.map (pvElem Pr 35)) (f := Ex.enc) (Q := fun _ => True) fun p hp => by
      obtain ⟨x, hx, rfl⟩ := List.mem_map.1 hp
      have := size_mem is35 hx
      obtain ⟨p, hp⟩ := ex_of' N (by omega) (hall x hx)
      exact ⟨p, by rw [elem_struct is35, hp]; rfl, trivial⟩
    obtain ⟨zs, h4, _⟩ := list_of (l := bs.map (pvElem Pr 86)) (f := eArm) (Q := fun _ => True) fun p hp => by
      obtain ⟨x, hx, rfl⟩ := List.mem_map.1 hp
      have := size_mem is86 hx
      have hf := hal2 x hx
      obtain ⟨pa, z, rfl, k1, q⟩ := (fits_parts f86 hf).c1
      obtain ⟨pe, z, rfl, k2, q⟩ := q.c1
      obtain rfl := q.c0
      have s1 := size_app pa (pe ++ [])
      rw [List.append_nil] at s1 this
      obtain ⟨p, hp⟩ := pa_of k1
      obtain ⟨e, he⟩ := ex_of' N (by omega) k2
      exact ⟨(p, e), by rw [elem_struct is86, hp, he, List.append_nil]; rfl, trivial⟩
    exact ⟨.mk k n t ns tys ys zs w, by rw [ex_cells, h3, h4]; rfl⟩
theorem ex_of {pvs : List PV} (h : Fits Pr 35 pvs) : ∃ e : Ex, pvElem Pr 35 pvs = e.enc := by
  obtain ⟨e, he⟩ := ex_of' _ (Nat.lt_succ_self _) h
  exact ⟨e, by rw [elem_struct is35, he]; rfl⟩
theorem args_law : ∀ ps, ArgsFit Pr [35] ps → bkL ps ≤ 1048576 → AL.V Pr T 4 (ps.map .pv) = some (.pv (.bool true), []) := by
  intro ps h hb
  cases h with | cons a0 h =>
  cases h
  obtain ⟨e, e0⟩ := ex_of a0
  simp only [List.map_cons, List.map_nil, e0, bkL] at hb ⊢
  exact Go.AL.S2.law4 (by simp only [BIG]; omega)

end Go.AL.S2.treeClear
namespace Go.Proofs.Ytlmodlihiglnhaa.treeClear
open Go.ChangeShapes Go.WideShapes Go.ChangeAt Go.RowKit
theorem own : ownKnob Try.prog.godebug = none := by kernel_rfl
theorem bulkAll {H : Type} (l : List (DataW H)) : Rows.uptoBulkAll l = (l.map Rows.uptoBulk).sum := by
  induction l with
  | nil => simp [Rows.uptoBulkAll]
  | cons d l ih => simp [Rows.uptoBulkAll, ih]
theorem bulky {H : Type} : Go.AL.Bulky (Rows.uptoBulk : DataW H → Nat) := by
  refine ⟨fun b => ?_, fun d => ?_, fun d => ?_, fun e s => ?_, fun ps => ?_⟩
  · simp [Rows.uptoBulk]
  · cases d with
    | lit l => cases l <;> simp [Rows.uptoBulk]
    | _ => simp [Rows.uptoBulk]
  · simp [Rows.uptoBulk]
  · simp [Rows.uptoBulk, bulkAll]
  · simp [Rows.uptoBulk, bulkAll]
def nilS : Value := .slice none 0 0
set_option maxRecDepth 100000 in
theorem lifted (os : Os) (started : os.Started) (H : Type) (enc : TypeId × Value → H) (F0 : Stop.Interp) :
    ReturnsInHanded {} Try.checked os 4 .any ((Rows.OpenSpec.upto Rows.treeClearSpec).pre6 enc Try.prog Try.f4 Rows.treeClearUptoRow.domain false) (((Rows.OpenSpec.upto Rows.treeClearSpec).at F0).post enc Try.prog Try.f4 false true false false) := by
  refine returnsInHanded_of_cond_sized (C := Try.checked) (s := Rows.OpenSpec.upto Rows.treeClearSpec) (k := Rows.uptoSmall) rfl own started (by kernel_rfl) Try.func4
    (OpenSpec.witness (enc := enc) (C := Try.checked) (s := Rows.OpenSpec.upto Rows.treeClearSpec) (k := Rows.uptoSmall) rfl false ⟨#[], #[.agg #[.int .i64 0, .int .i64 0, .string ByteArray.empty, nilS, nilS, nilS, nilS, .int .i64 0]], []⟩ 8 (by kernel_rfl) (by kernel_rfl) (by kernel_rfl)
      (x := ([.agg [.lit (.int .i64 0), .lit (.int .i64 0), .lit (.string []), .nil, .nil, .nil, .nil, .lit (.int .i64 0)]], [], [])) (by kernel_rfl) (by kernel_rfl) (by kernel_rfl)) ?_
  intro W base args ds gs before hval0 hW hcnd hk hsz0 _
  have hW' := hW
  obtain ⟨p, q, hA0, hV, rfl, hfz, hnd⟩ := hW
  have hA : DataW.TrodAll enc Try.prog W 0 (fun _ => true) true Try.f4.params.toList args.toList ds p := hA0
  obtain ⟨rfl, rfl⟩ := trodVars_none hV
  have hk' : Rows.uptoBulkAll (ds ++ []) ≤ 1048576 := of_decide_eq_true hk
  rw [List.append_nil, bulkAll] at hk'
  have hsz : (DataW.weightsEach Try.prog (Try.f4.params.toList ++ []) (ds ++ [])).all (· ≤ reachBytes) = true := hsz0
  rw [List.append_nil, List.append_nil] at hsz
  rw [Try.params4] at hA hval0 hsz
  refine (Go.AL.law_callsVB (B := Rows.uptoBulk) bulky Go.AL.S2.pa Go.AL.S2.snd Go.AL.S2.treeClear.closed (f := 4) (ts := [35]) (by kernel_rfl) hA (fun j t v e1 e2 => hval0 j t v (by simpa using e1) e2) hsz hk' Go.AL.S2.treeClear.args_law).mono fun e W' ⟨he, bel, hpost⟩ => ?_
  subst he
  have hlen : ∀ {ts : List TypeId} {vs : List Value} {ds : List (DataW H)} {p : List MemPlace}, DataW.TrodAll enc Try.prog W 0 (fun _ => true) true ts vs ds p → ds.length = ts.length := by
    intro ts
    induction ts with
    | nil => intro vs ds p h; cases vs <;> cases ds <;> first | rfl | exact h.elim
    | cons t ts ih => intro vs ds p h; cases vs <;> cases ds <;> first | exact h.elim | (obtain ⟨_, _, _, h2, _⟩ := h; simp [ih h2])
  have hl : ds.length = 1 := hlen hA
  obtain ⟨d1, rfl⟩ : ∃ d1, ds = [d1] := by
    match ds, hl with
    | [d1], _ => exact ⟨d1, rfl⟩
  exact ⟨_, rfl, _, _, _, [], _, [], hW', trodAll_mk1 (shut_bool Try.underlying4 _), (by rw [Try.params4]; exact hpost), rfl, bel.frame _, fun h => by cases h⟩
theorem over : Rows.treeClearUptoRow.holds Try.pinned (Rows.OpenSpec.upto Rows.treeClearSpec) :=
  OpenClaim.holds_of_cond 4 Try.f4 rfl rfl rfl rfl rfl rfl rfl ⟨rfl, rfl, rfl, rfl, rfl⟩ rfl rfl rfl rfl rfl (by kernel_rfl) Try.func4 (by kernel_rfl)
    (of_decide_eq_true (by kernel_rfl)) (by unfold Func.isWrapper; first | (rw [if_pos (by decide +kernel)]; kernel_rfl) | (rw [if_neg (by decide +kernel)]; exact ⟨rfl, rfl⟩))
    (fun os started H enc _ F => lifted os started H enc F)
theorem proved : Rows.TreeClearUptoSaid := over
end Go.Proofs.Ytlmodlihiglnhaa.treeClear
namespace Go.Proofs.Ytlmodlihiglnhaa
/-- The row, under a short name. -/
theorem treeClearUpto_holds : Rows.TreeClearUptoSaid := treeClear.proved
end Go.Proofs.Ytlmodlihiglnhaa
#print axioms Go.Proofs.Ytlmodlihiglnhaa.treeClearUpto_holds
