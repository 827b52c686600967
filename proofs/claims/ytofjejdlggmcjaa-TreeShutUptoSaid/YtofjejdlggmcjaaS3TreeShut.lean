/- TreeShut: the row. -/
import Derived.Test.YtofjejdlggmcjaaS3Shut
import Derived.Test.YtofjejdlggmcjaaAL4
import Derived.WalkKit
import Derived.ProofKit
import Derived.OpenShut
import Derived.ShutString
import Derived.ChangeOld
import Derived.Below
import Derived.SizedLaws
import Derived.JoinedCond
import Derived.Deep.CondSized
set_option linter.unusedVariables false
set_option linter.unusedSimpArgs false
namespace Go.AL.S3.treeShut
open Go Go.AL Go.AL.S3
def S : List TypeId := [81, 3, 9, 30, 34, 36, 77, 79, 146, 144, 142]
theorem closed : closedT Pr S = true := by kernel_rfl
theorem f81 : ftypes Pr 81 = some [3, 3, 9, 30, 34, 77, 79, 3] := by kernel_rfl
theorem is81 : isStruct Pr 81 = true := by kernel_rfl
theorem u3 : Pr.underlying 3 = some (.int .i64) := by kernel_rfl
theorem u9 : Pr.underlying 9 = some .string := by kernel_rfl
theorem u30 : Pr.underlying 30 = some (.slice 9) := by kernel_rfl
theorem by9 : Pr.bytesOf 9 = 16 := by kernel_rfl
theorem u34 : Pr.underlying 34 = some (.slice 36) := by kernel_rfl
theorem by36 : Pr.bytesOf 36 = 48 := by kernel_rfl
theorem f36 : ftypes Pr 36 = some [3, 9, 34] := by kernel_rfl
theorem is36 : isStruct Pr 36 = true := by kernel_rfl
theorem u77 : Pr.underlying 77 = some (.slice 81) := by kernel_rfl
theorem by81 : Pr.bytesOf 81 = 136 := by kernel_rfl
theorem u79 : Pr.underlying 79 = some (.slice 146) := by kernel_rfl
theorem by146 : Pr.bytesOf 146 = 192 := by kernel_rfl
theorem f146 : ftypes Pr 146 = some [144, 81] := by kernel_rfl
theorem is146 : isStruct Pr 146 = true := by kernel_rfl
theorem f144 : ftypes Pr 144 = some [3, 3, 9, 142] := by kernel_rfl
theorem is144 : isStruct Pr 144 = true := by kernel_rfl
theorem u142 : Pr.underlying 142 = some (.slice 144) := by kernel_rfl
theorem by144 : Pr.bytesOf 144 = 56 := by kernel_rfl
theorem str_of {pvs : List PV} (h : Fits Pr 9 pvs) : ∃ s : List UInt8, pvElem Pr 9 pvs = .str s ∧ True := by
  obtain ⟨s, e, _⟩ := elem_str u9 h
  exact ⟨s, e, trivial⟩
theorem strs_of {pvs : List PV} (h : Fits Pr 30 pvs) : ∃ xs : List (List UInt8), pvs = [.lst (xs.map .str)] ∧ xs.length ≤ maxLen := by
  obtain ⟨xs, e, hl, _⟩ := lst_of u30 (f := PV.str) (Q := fun _ => True) (fun _ => str_of) h
  exact ⟨xs, e, hl⟩
theorem strs_elem {pvs : List PV} (h : Fits Pr 30 pvs) : ∃ xs : List (List UInt8), pvElem Pr 30 pvs = .lst (xs.map .str) ∧ xs.length ≤ maxLen := by
  obtain ⟨xs, e, hl, _⟩ := elem_lst u30 (f := PV.str) (Q := fun _ => True) (fun _ => str_of) h
  exact ⟨xs, e, hl⟩
theorem size_app (a b : List PV) : SizeOf.sizeOf b ≤ SizeOf.sizeOf (a ++ b) := by
  induction a with
  | nil => simp
  | cons x a ih => simp only [List.cons_append, List.cons.sizeOf_spec]; omega
theorem size_mem {e : TypeId} (is : isStruct Pr e = true) {xs : List (List PV)} {x : List PV} (hx : x ∈ xs) : SizeOf.sizeOf x + 1 < SizeOf.sizeOf (PV.lst (xs.map (pvElem Pr e))) := by
  have h1 : SizeOf.sizeOf (pvElem Pr e x) < SizeOf.sizeOf (xs.map (pvElem Pr e)) := List.sizeOf_lt_of_mem (List.mem_map.2 ⟨x, hx, rfl⟩)
  rw [elem_struct is, PV.agg.sizeOf_spec] at h1
  simp only [PV.lst.sizeOf_spec]
  omega
theorem pa_of' : ∀ (N : Nat) {pvs : List PV}, SizeOf.sizeOf pvs < N → Fits Pr 144 pvs → ∃ p : Pa, pvs = p.cells
  | 0, pvs, h, _ => absurd h (Nat.not_lt_zero _)
  | N + 1, pvs, h, hf => by
    obtain ⟨a, z, rfl, g1, g⟩ := (fits_parts f144 hf).c1
    obtain ⟨b, z, rfl, g2, g⟩ := g.c1
    obtain ⟨c, z, rfl, g3, g⟩ := g.c1
    obtain ⟨d, z, rfl, g4, g⟩ := g.c1
    obtain rfl := g.c0
    obtain ⟨k, rfl, _⟩ := fits_int u3 g1
    obtain ⟨n, rfl, _⟩ := fits_int u3 g2
    obtain ⟨t, rfl, _⟩ := fits_str u9 g3
    obtain ⟨xs, rfl, _, _, hall⟩ := fits_lst u142 g4
    simp only [List.cons_append, List.nil_append, List.cons.sizeOf_spec] at h
    obtain ⟨ys, h3, _⟩ := list_of (l := xs.map (pvElem Pr 144)) (f := Pa.enc) (Q := fun _ => True) fun p hp => by
      obtain ⟨x, hx, rfl⟩ := List.mem_map.1 hp
      have := size_mem is144 hx
      obtain ⟨p, hp⟩ := pa_of' N (by omega) (hall x hx)
      exact ⟨p, by rw [elem_struct is144, hp]; rfl, trivial⟩
    exact ⟨.mk k n t ys, by rw [pa_cells, h3]; rfl⟩
theorem pa_of {pvs : List PV} (h : Fits Pr 144 pvs) : ∃ p : Pa, pvs = p.cells := pa_of' _ (Nat.lt_succ_self _) h
theorem ex_of' : ∀ (N : Nat) {pvs : List PV}, SizeOf.sizeOf pvs < N → Fits Pr 81 pvs → ∃ e : Ex, pvs = e.cells
  | 0, pvs, h, _ => absurd h (Nat.not_lt_zero _)
  | N + 1, pvs, h, hf => by
    obtain ⟨a, z, rfl, g1, g⟩ := (fits_parts f81 hf).c1
    obtain ⟨b, z, rfl, g2, g⟩ := g.c1
    obtain ⟨c, z, rfl, g3, g⟩ := g.c1
    obtain ⟨d, z, rfl, g4, g⟩ := g.c1
    obtain ⟨e, z, rfl, g5, g⟩ := g.c1
    obtain ⟨f, z, rfl, g6, g⟩ := g.c1
    obtain ⟨i, z, rfl, g7, g⟩ := g.c1
    obtain ⟨j, z, rfl, g8, g⟩ := g.c1
    obtain rfl := g.c0
    obtain ⟨k, rfl, _⟩ := fits_int u3 g1
    obtain ⟨n, rfl, _⟩ := fits_int u3 g2
    obtain ⟨t, rfl, _⟩ := fits_str u9 g3
    obtain ⟨ns, rfl, _⟩ := strs_of g4
    obtain ⟨tys, rfl, _⟩ := fits_lst u34 g5
    obtain ⟨xs, rfl, _, _, hall⟩ := fits_lst u77 g6
    obtain ⟨bs, rfl, _, _, hal2⟩ := fits_lst u79 g7
    obtain ⟨w, rfl, _⟩ := fits_int u3 g8
    simp only [List.cons_append, List.nil_append, List.cons.sizeOf_spec] at h
    obtain ⟨ys, h3, _⟩ := list_of (l := xs.map (pvElem Pr 81)) (f := Ex.enc) (Q := fun _ => True) fun p hp => by
      obtain ⟨x, hx, rfl⟩ := List.mem_map.1 hp
      have := size_mem is81 hx
      obtain ⟨p, hp⟩ := ex_of' N (by omega) (hall x hx)
      exact ⟨p, by rw [elem_struct is81, hp]; rfl, trivial⟩
    obtain ⟨zs, h4, _⟩ := list_of (l := bs.map (pvElem Pr 146)) (f := eArm) (Q := fun _ => True) fun p hp => by
      obtain ⟨x, hx, rfl⟩ := List.mem_map.1 hp
      have := size_mem is146 hx
      have hf := hal2 x hx
      obtain ⟨pa, z, rfl, k1, q⟩ := (fits_parts f146 hf).c1
      obtain ⟨pe, z, rfl, k2, q⟩ := q.c1
      obtain rfl := q.c0
      have s1 := size_app pa (pe ++ [])
      rw [List.append_nil] at s1 this
      obtain ⟨p, hp⟩ := pa_of k1
      obtain ⟨e, he⟩ := ex_of' N (by omega) k2
      exact ⟨(p, e), by rw [elem_struct is146, hp, he, List.append_nil]; rfl, trivial⟩
    exact ⟨.mk k n t ns (tys.map (pvElem Pr 36)) ys zs w, by rw [ex_cells, h3, h4]; rfl⟩
theorem ex_of {pvs : List PV} (h : Fits Pr 81 pvs) : ∃ e : Ex, pvElem Pr 81 pvs = e.enc := by
  obtain ⟨e, he⟩ := ex_of' _ (Nat.lt_succ_self _) h
  exact ⟨e, by rw [elem_struct is81, he]; rfl⟩
theorem args_law : ∀ ps, ArgsFit Pr [81, 9] ps → bkL ps ≤ 1048576 → AL.V Pr T 16 (ps.map .pv) = some (.pv (.bool true), []) := by
  intro ps h hb
  cases h with | cons a0 h =>
  cases h with | cons a1 h =>
  cases h
  obtain ⟨e, e0⟩ := ex_of a0
  obtain ⟨s, e1, _⟩ := str_of a1
  simp only [List.map_cons, List.map_nil, e0, e1, bkL, bk] at hb ⊢
  exact Go.AL.S3.law16 (by simp only [BIG]; omega)

end Go.AL.S3.treeShut
namespace Go.Proofs.Ytofjejdlggmcjaa.treeShut
open Go.ChangeShapes Go.WideShapes Go.ChangeAt Go.RowKit
theorem own : ownKnob Try.prog.godebug = none := by kernel_rfl
theorem bulkAll {H : Type} (l : List (DataW H)) : Rows.uptoBulkAll l = (l.map Rows.uptoBulk).sum := by
  induction l with
  | nil => simp [Rows.uptoBulkAll]
  | cons d l ih => simp [Rows.uptoBulkAll, ih]
theorem bulky {H : Type} : Go.AL.Bulky (Rows.uptoBulk : DataW H → Nat) := by
  refine ⟨fun b => ?_, fun d => ?_, fun d => ?_, fun e s => ?_, fun ps => ?_⟩
  · simp [Rows.uptoBulk]
  · cases d with
    | lit l => cases l <;> simp [Rows.uptoBulk]
    | _ => simp [Rows.uptoBulk]
  · simp [Rows.uptoBulk]
  · simp [Rows.uptoBulk, bulkAll]
  · simp [Rows.uptoBulk, bulkAll]
def nilS : Value := .slice none 0 0
set_option maxRecDepth 100000 in
theorem lifted (os : Os) (started : os.Started) (H : Type) (enc : TypeId × Value → H) (F0 : Stop.Interp) :
    ReturnsInHanded {} Try.checked os 16 .any ((Rows.OpenSpec.upto Rows.treeShutSpec).pre6 enc Try.prog Try.f16 Rows.treeShutUptoRow.domain false) (((Rows.OpenSpec.upto Rows.treeShutSpec).at F0).post enc Try.prog Try.f16 false true false false) := by
  refine returnsInHanded_of_cond_sized (C := Try.checked) (s := Rows.OpenSpec.upto Rows.treeShutSpec) (k := Rows.uptoSmall) rfl own started (by kernel_rfl) Try.func16
    (OpenSpec.witness (enc := enc) (C := Try.checked) (s := Rows.OpenSpec.upto Rows.treeShutSpec) (k := Rows.uptoSmall) rfl false ⟨#[], #[.agg #[.int .i64 0, .int .i64 0, .string ByteArray.empty, nilS, nilS, nilS, nilS, .int .i64 0], .string ByteArray.empty], []⟩ 8 (by kernel_rfl) (by kernel_rfl) (by kernel_rfl)
      (x := ([.agg [.lit (.int .i64 0), .lit (.int .i64 0), .lit (.string []), .nil, .nil, .nil, .nil, .lit (.int .i64 0)], .lit (.string [])], [], [])) (by kernel_rfl) (by kernel_rfl) (by kernel_rfl)) ?_
  intro W base args ds gs before hval0 hW hcnd hk hsz0 _
  have hW' := hW
  obtain ⟨p, q, hA0, hV, rfl, hfz, hnd⟩ := hW
  have hA : DataW.TrodAll enc Try.prog W 0 (fun _ => true) true Try.f16.params.toList args.toList ds p := hA0
  obtain ⟨rfl, rfl⟩ := trodVars_none hV
  have hk' : Rows.uptoBulkAll (ds ++ []) ≤ 1048576 := of_decide_eq_true hk
  rw [List.append_nil, bulkAll] at hk'
  have hsz : (DataW.weightsEach Try.prog (Try.f16.params.toList ++ []) (ds ++ [])).all (· ≤ reachBytes) = true := hsz0
  rw [List.append_nil, List.append_nil] at hsz
  rw [Try.params16] at hA hval0 hsz
  refine (Go.AL.law_callsVB (B := Rows.uptoBulk) bulky Go.AL.S3.pa Go.AL.S3.snd Go.AL.S3.treeShut.closed (f := 16) (ts := [81, 9]) (by kernel_rfl) hA (fun j t v e1 e2 => hval0 j t v (by simpa using e1) e2) hsz hk' Go.AL.S3.treeShut.args_law).mono fun e W' ⟨he, bel, hpost⟩ => ?_
  subst he
  have hlen : ∀ {ts : List TypeId} {vs : List Value} {ds : List (DataW H)} {p : List MemPlace}, DataW.TrodAll enc Try.prog W 0 (fun _ => true) true ts vs ds p → ds.length = ts.length := by
    intro ts
    induction ts with
    | nil => intro vs ds p h; cases vs <;> cases ds <;> first | rfl | exact h.elim
    | cons t ts ih => intro vs ds p h; cases vs <;> cases ds <;> first | exact h.elim | (obtain ⟨_, _, _, h2, _⟩ := h; simp [ih h2])
  have hl : ds.length = 2 := hlen hA
  obtain ⟨d1, d2, rfl⟩ : ∃ d1 d2, ds = [d1, d2] := by
    match ds, hl with
    | [d1, d2], _ => exact ⟨d1, d2, rfl⟩
  exact ⟨_, rfl, _, _, _, [], _, [], hW', trodAll_mk1 (shut_bool Try.underlying4 _), (by rw [Try.params16]; exact hpost), rfl, bel.frame _, fun h => by cases h⟩
theorem over : Rows.treeShutUptoRow.holds Try.pinned (Rows.OpenSpec.upto Rows.treeShutSpec) :=
  OpenClaim.holds_of_cond 16 Try.f16 rfl rfl rfl rfl rfl rfl rfl ⟨rfl, rfl, rfl, rfl, rfl⟩ rfl rfl rfl rfl rfl (by kernel_rfl) Try.func16 (by kernel_rfl)
    (of_decide_eq_true (by kernel_rfl)) (by unfold Func.isWrapper; first | (rw [if_pos (by decide +kernel)]; kernel_rfl) | (rw [if_neg (by decide +kernel)]; exact ⟨rfl, rfl⟩))
    (fun os started H enc _ F => lifted os started H enc F)
theorem proved : Rows.TreeShutUptoSaid := over
end Go.Proofs.Ytofjejdlggmcjaa.treeShut
namespace Go.Proofs.Ytofjejdlggmcjaa
/-- The row, under a short name. -/
theorem treeShutUpto_holds : Rows.TreeShutUptoSaid := treeShut.proved
end Go.Proofs.Ytofjejdlggmcjaa
#print axioms Go.Proofs.Ytofjejdlggmcjaa.treeShutUpto_holds
