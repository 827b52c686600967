/- EffectLeast: the row. -/
import Derived.Test.YtofjejdlggmcjaaS1Eff2
import Derived.Test.YtofjejdlggmcjaaALzl
import Derived.WalkKit
import Derived.ProofKit
import Derived.OpenShut
import Derived.ShutString
import Derived.ChangeOld
import Derived.Below
import Derived.SizedLaws
import Derived.JoinedCond
import Derived.Deep.CondSized
set_option linter.unusedVariables false
set_option linter.unusedSimpArgs false
namespace Go.AL.S1.effectLeast
open Go Go.AL Go.AL.S1
def S : List TypeId := [29, 9, 3, 22, 198, 23, 33, 30, 31, 165, 34, 36, 24, 162, 26, 93, 81, 77, 79, 146, 144, 142, 25, 157, 27, 139]
theorem closed : closedT Pr S = true := by kernel_rfl
theorem f29 : ftypes Pr 29 = some [9, 3, 22, 23, 24, 25, 26, 27] := by kernel_rfl
theorem is29 : isStruct Pr 29 = true := by kernel_rfl
theorem u9 : Pr.underlying 9 = some .string := by kernel_rfl
theorem u3 : Pr.underlying 3 = some (.int .i64) := by kernel_rfl
theorem u22 : Pr.underlying 22 = some (.slice 198) := by kernel_rfl
theorem by198 : Pr.bytesOf 198 = 32 := by kernel_rfl
theorem f198 : ftypes Pr 198 = some [9, 3, 3] := by kernel_rfl
theorem is198 : isStruct Pr 198 = true := by kernel_rfl
theorem u23 : Pr.underlying 23 = some (.slice 33) := by kernel_rfl
theorem by33 : Pr.bytesOf 33 = 64 := by kernel_rfl
theorem f33 : ftypes Pr 33 = some [9, 30, 31] := by kernel_rfl
theorem is33 : isStruct Pr 33 = true := by kernel_rfl
theorem u30 : Pr.underlying 30 = some (.slice 9) := by kernel_rfl
theorem by9 : Pr.bytesOf 9 = 16 := by kernel_rfl
theorem u31 : Pr.underlying 31 = some (.slice 165) := by kernel_rfl
theorem by165 : Pr.bytesOf 165 = 40 := by kernel_rfl
theorem f165 : ftypes Pr 165 = some [9, 34] := by kernel_rfl
theorem is165 : isStruct Pr 165 = true := by kernel_rfl
theorem u34 : Pr.underlying 34 = some (.slice 36) := by kernel_rfl
theorem by36 : Pr.bytesOf 36 = 48 := by kernel_rfl
theorem f36 : ftypes Pr 36 = some [3, 9, 34] := by kernel_rfl
theorem is36 : isStruct Pr 36 = true := by kernel_rfl
theorem u24 : Pr.underlying 24 = some (.slice 162) := by kernel_rfl
theorem by162 : Pr.bytesOf 162 = 40 := by kernel_rfl
theorem f162 : ftypes Pr 162 = some [9, 26] := by kernel_rfl
theorem is162 : isStruct Pr 162 = true := by kernel_rfl
theorem u26 : Pr.underlying 26 = some (.slice 93) := by kernel_rfl
theorem by93 : Pr.bytesOf 93 = 272 := by kernel_rfl
theorem f93 : ftypes Pr 93 = some [9, 30, 30, 34, 36, 81] := by kernel_rfl
theorem is93 : isStruct Pr 93 = true := by kernel_rfl
theorem f81 : ftypes Pr 81 = some [3, 3, 9, 30, 34, 77, 79, 3] := by kernel_rfl
theorem is81 : isStruct Pr 81 = true := by kernel_rfl
theorem u77 : Pr.underlying 77 = some (.slice 81) := by kernel_rfl
theorem by81 : Pr.bytesOf 81 = 136 := by kernel_rfl
theorem u79 : Pr.underlying 79 = some (.slice 146) := by kernel_rfl
theorem by146 : Pr.bytesOf 146 = 192 := by kernel_rfl
theorem f146 : ftypes Pr 146 = some [144, 81] := by kernel_rfl
theorem is146 : isStruct Pr 146 = true := by kernel_rfl
theorem f144 : ftypes Pr 144 = some [3, 3, 9, 142] := by kernel_rfl
theorem is144 : isStruct Pr 144 = true := by kernel_rfl
theorem u142 : Pr.underlying 142 = some (.slice 144) := by kernel_rfl
theorem by144 : Pr.bytesOf 144 = 56 := by kernel_rfl
theorem u25 : Pr.underlying 25 = some (.slice 157) := by kernel_rfl
theorem by157 : Pr.bytesOf 157 = 56 := by kernel_rfl
theorem f157 : ftypes Pr 157 = some [9, 9, 26] := by kernel_rfl
theorem is157 : isStruct Pr 157 = true := by kernel_rfl
theorem u27 : Pr.underlying 27 = some (.slice 139) := by kernel_rfl
theorem by139 : Pr.bytesOf 139 = 248 := by kernel_rfl
theorem f139 : ftypes Pr 139 = some [9, 30, 34, 36, 81] := by kernel_rfl
theorem is139 : isStruct Pr 139 = true := by kernel_rfl
theorem str_of {pvs : List PV} (h : Fits Pr 9 pvs) : ∃ s : List UInt8, pvElem Pr 9 pvs = .str s ∧ True := by
  obtain ⟨s, e, _⟩ := elem_str u9 h
  exact ⟨s, e, trivial⟩
theorem strs_of {pvs : List PV} (h : Fits Pr 30 pvs) : ∃ xs : List (List UInt8), pvs = [.lst (xs.map .str)] ∧ xs.length ≤ maxLen := by
  obtain ⟨xs, e, hl, _⟩ := lst_of u30 (f := PV.str) (Q := fun _ => True) (fun _ => str_of) h
  exact ⟨xs, e, hl⟩
theorem strs_elem {pvs : List PV} (h : Fits Pr 30 pvs) : ∃ xs : List (List UInt8), pvElem Pr 30 pvs = .lst (xs.map .str) ∧ xs.length ≤ maxLen := by
  obtain ⟨xs, e, hl, _⟩ := elem_lst u30 (f := PV.str) (Q := fun _ => True) (fun _ => str_of) h
  exact ⟨xs, e, hl⟩
theorem size_app (a b : List PV) : SizeOf.sizeOf b ≤ SizeOf.sizeOf (a ++ b) := by
  induction a with
  | nil => simp
  | cons x a ih => simp only [List.cons_append, List.cons.sizeOf_spec]; omega
theorem size_mem {e : TypeId} (is : isStruct Pr e = true) {xs : List (List PV)} {x : List PV} (hx : x ∈ xs) : SizeOf.sizeOf x + 1 < SizeOf.sizeOf (PV.lst (xs.map (pvElem Pr e))) := by
  have h1 : SizeOf.sizeOf (pvElem Pr e x) < SizeOf.sizeOf (xs.map (pvElem Pr e)) := List.sizeOf_lt_of_mem (List.mem_map.2 ⟨x, hx, rfl⟩)
  rw [elem_struct is, PV.agg.sizeOf_spec] at h1
  simp only [PV.lst.sizeOf_spec]
  omega
theorem pa_of' : ∀ (N : Nat) {pvs : List PV}, SizeOf.sizeOf pvs < N → Fits Pr 144 pvs → ∃ p : Pa, pvs = p.cells
  | 0, pvs, h, _ => absurd h (Nat.not_lt_zero _)
  | N + 1, pvs, h, hf => by
    obtain ⟨a, z, rfl, g1, g⟩ := (fits_parts f144 hf).c1
    obtain ⟨b, z, rfl, g2, g⟩ := g.c1
    obtain ⟨c, z, rfl, g3, g⟩ := g.c1
    obtain ⟨d, z, rfl, g4, g⟩ := g.c1
    obtain rfl := g.c0
    obtain ⟨k, rfl, _⟩ := fits_int u3 g1
    obtain ⟨n, rfl, _⟩ := fits_int u3 g2
    obtain ⟨t, rfl, _⟩ := fits_str u9 g3
    obtain ⟨xs, rfl, _, _, hall⟩ := fits_lst u142 g4
    simp only [List.cons_append, List.nil_append, List.cons.sizeOf_spec] at h
    obtain ⟨ys, h3, _⟩ := list_of (l := xs.map (pvElem Pr 144)) (f := Pa.enc) (Q := fun _ => True) fun p hp => by
      obtain ⟨x, hx, rfl⟩ := List.mem_map.1 hp
      have := size_mem is144 hx
      obtain ⟨p, hp⟩ := pa_of' N (by omega) (hall x hx)
      exact ⟨p, by rw [elem_struct is144, hp]; rfl, trivial⟩
    exact ⟨.mk k n t ys, by rw [pa_cells, h3]; rfl⟩
theorem pa_of {pvs : List PV} (h : Fits Pr 144 pvs) : ∃ p : Pa, pvs = p.cells := pa_of' _ (Nat.lt_succ_self _) h
theorem ex_of' : ∀ (N : Nat) {pvs : List PV}, SizeOf.sizeOf pvs < N → Fits Pr 81 pvs → ∃ e : Ex, pvs = e.cells
  | 0, pvs, h, _ => absurd h (Nat.not_lt_zero _)
  | N + 1, pvs, h, hf => by
    obtain ⟨a, z, rfl, g1, g⟩ := (fits_parts f81 hf).c1
    obtain ⟨b, z, rfl, g2, g⟩ := g.c1
    obtain ⟨c, z, rfl, g3, g⟩ := g.c1
    obtain ⟨d, z, rfl, g4, g⟩ := g.c1
    obtain ⟨e, z, rfl, g5, g⟩ := g.c1
    obtain ⟨f, z, rfl, g6, g⟩ := g.c1
    obtain ⟨i, z, rfl, g7, g⟩ := g.c1
    obtain ⟨j, z, rfl, g8, g⟩ := g.c1
    obtain rfl := g.c0
    obtain ⟨k, rfl, _⟩ := fits_int u3 g1
    obtain ⟨n, rfl, _⟩ := fits_int u3 g2
    obtain ⟨t, rfl, _⟩ := fits_str u9 g3
    obtain ⟨ns, rfl, _⟩ := strs_of g4
    obtain ⟨tys, rfl, _⟩ := fits_lst u34 g5
    obtain ⟨xs, rfl, _, _, hall⟩ := fits_lst u77 g6
    obtain ⟨bs, rfl, _, _, hal2⟩ := fits_lst u79 g7
    obtain ⟨w, rfl, _⟩ := fits_int u3 g8
    simp only [List.cons_append, List.nil_append, List.cons.sizeOf_spec] at h
    obtain ⟨ys, h3, _⟩ := list_of (l := xs.map (pvElem Pr 81)) (f := Ex.enc) (Q := fun _ => True) fun p hp => by
      obtain ⟨x, hx, rfl⟩ := List.mem_map.1 hp
      have := size_mem is81 hx
      obtain ⟨p, hp⟩ := ex_of' N (by omega) (hall x hx)
      exact ⟨p, by rw [elem_struct is81, hp]; rfl, trivial⟩
    obtain ⟨zs, h4, _⟩ := list_of (l := bs.map (pvElem Pr 146)) (f := eArm) (Q := fun _ => True) fun p hp => by
      obtain ⟨x, hx, rfl⟩ := List.mem_map.1 hp
      have := size_mem is146 hx
      have hf := hal2 x hx
      obtain ⟨pa, z, rfl, k1, q⟩ := (fits_parts f146 hf).c1
      obtain ⟨pe, z, rfl, k2, q⟩ := q.c1
      obtain rfl := q.c0
      have s1 := size_app pa (pe ++ [])
      rw [List.append_nil] at s1 this
      obtain ⟨p, hp⟩ := pa_of k1
      obtain ⟨e, he⟩ := ex_of' N (by omega) k2
      exact ⟨(p, e), by rw [elem_struct is146, hp, he, List.append_nil]; rfl, trivial⟩
    exact ⟨.mk k n t ns (tys.map (pvElem Pr 36)) ys zs w, by rw [ex_cells, h3, h4]; rfl⟩
theorem ex_of {pvs : List PV} (h : Fits Pr 81 pvs) : ∃ e : Ex, pvElem Pr 81 pvs = e.enc := by
  obtain ⟨e, he⟩ := ex_of' _ (Nat.lt_succ_self _) h
  exact ⟨e, by rw [elem_struct is81, he]; rfl⟩
theorem ex_cells_of {pvs : List PV} (h : Fits Pr 81 pvs) : ∃ e : Ex, pvs = e.cells := ex_of' _ (Nat.lt_succ_self _) h
theorem ty3_of {pvs : List PV} (h : Fits Pr 36 pvs) : ∃ (k : Int) (t : List UInt8) (d : List PV), pvs = [.int .i64 k, .str t, .lst d] := by
  obtain ⟨a, z, rfl, g1, g⟩ := (fits_parts f36 h).c1
  obtain ⟨b, z, rfl, g2, g⟩ := g.c1
  obtain ⟨c, z, rfl, g3, g⟩ := g.c1
  obtain rfl := g.c0
  obtain ⟨k, rfl, _⟩ := fits_int u3 g1
  obtain ⟨t, rfl, _⟩ := fits_str u9 g2
  obtain ⟨d, rfl, _⟩ := fits_lst u34 g3
  exact ⟨k, t, _, rfl⟩
theorem fu_of {pvs : List PV} (h : Fits Pr 93 pvs) : ∃ f : Fu, pvElem Pr 93 pvs = eFu f ∧ True := by
  obtain ⟨a, z, rfl, g1, g⟩ := (fits_parts f93 h).c1
  obtain ⟨b, z, rfl, g2, g⟩ := g.c1
  obtain ⟨c, z, rfl, g3, g⟩ := g.c1
  obtain ⟨d, z, rfl, g4, g⟩ := g.c1
  obtain ⟨e, z, rfl, g5, g⟩ := g.c1
  obtain ⟨f, z, rfl, g6, g⟩ := g.c1
  obtain rfl := g.c0
  obtain ⟨nm, rfl, _⟩ := fits_str u9 g1
  obtain ⟨xa, rfl, _⟩ := fits_lst u30 g2
  obtain ⟨xb, rfl, _⟩ := fits_lst u30 g3
  obtain ⟨xc, rfl, _⟩ := fits_lst u34 g4
  obtain ⟨k, t, dd, rfl⟩ := ty3_of g5
  obtain ⟨ee, rfl⟩ := ex_cells_of g6
  exact ⟨⟨nm, _, _, _, k, t, dd, ee⟩, by rw [elem_struct is93, List.append_nil]; rfl, trivial⟩
theorem ac_of {pvs : List PV} (h : Fits Pr 139 pvs) : ∃ f : Ac, pvElem Pr 139 pvs = eAc f ∧ True := by
  obtain ⟨a, z, rfl, g1, g⟩ := (fits_parts f139 h).c1
  obtain ⟨b, z, rfl, g2, g⟩ := g.c1
  obtain ⟨d, z, rfl, g4, g⟩ := g.c1
  obtain ⟨e, z, rfl, g5, g⟩ := g.c1
  obtain ⟨f, z, rfl, g6, g⟩ := g.c1
  obtain rfl := g.c0
  obtain ⟨nm, rfl, _⟩ := fits_str u9 g1
  obtain ⟨xa, rfl, _⟩ := fits_lst u30 g2
  obtain ⟨xc, rfl, _⟩ := fits_lst u34 g4
  obtain ⟨k, t, dd, rfl⟩ := ty3_of g5
  obtain ⟨ee, rfl⟩ := ex_cells_of g6
  exact ⟨⟨nm, _, _, k, t, dd, ee⟩, by rw [elem_struct is139, List.append_nil]; rfl, trivial⟩
theorem mk_of {pvs : List PV} (h : Fits Pr 165 pvs) : ∃ f : Mk, pvElem Pr 165 pvs = eMk f ∧ True := by
  obtain ⟨a, z, rfl, g1, g⟩ := (fits_parts f165 h).c1
  obtain ⟨b, z, rfl, g2, g⟩ := g.c1
  obtain rfl := g.c0
  obtain ⟨nm, rfl, _⟩ := fits_str u9 g1
  obtain ⟨xa, rfl, _⟩ := fits_lst u34 g2
  exact ⟨(nm, _), by rw [elem_struct is165]; rfl, trivial⟩
theorem dt_of {pvs : List PV} (h : Fits Pr 33 pvs) : ∃ f : Dt, pvElem Pr 33 pvs = eDt f ∧ True := by
  obtain ⟨a, z, rfl, g1, g⟩ := (fits_parts f33 h).c1
  obtain ⟨b, z, rfl, g2, g⟩ := g.c1
  obtain ⟨c, z, rfl, g3, g⟩ := g.c1
  obtain rfl := g.c0
  obtain ⟨nm, rfl, _⟩ := fits_str u9 g1
  obtain ⟨xa, rfl, _⟩ := fits_lst u30 g2
  obtain ⟨ms, rfl, _⟩ := lst_of u31 (fun _ => mk_of) g3
  exact ⟨(nm, _, ms), by rw [elem_struct is33]; rfl, trivial⟩
theorem tr_of {pvs : List PV} (h : Fits Pr 162 pvs) : ∃ f : Tr, pvElem Pr 162 pvs = eTr f ∧ True := by
  obtain ⟨a, z, rfl, g1, g⟩ := (fits_parts f162 h).c1
  obtain ⟨b, z, rfl, g2, g⟩ := g.c1
  obtain rfl := g.c0
  obtain ⟨nm, rfl, _⟩ := fits_str u9 g1
  obtain ⟨fs, rfl, _⟩ := lst_of u26 (fun _ => fu_of) g2
  exact ⟨(nm, fs), by rw [elem_struct is162]; rfl, trivial⟩
theorem im_of {pvs : List PV} (h : Fits Pr 157 pvs) : ∃ f : Im, pvElem Pr 157 pvs = eIm f ∧ True := by
  obtain ⟨a, z, rfl, g1, g⟩ := (fits_parts f157 h).c1
  obtain ⟨b, z, rfl, g2, g⟩ := g.c1
  obtain ⟨c, z, rfl, g3, g⟩ := g.c1
  obtain rfl := g.c0
  obtain ⟨nm, rfl, _⟩ := fits_str u9 g1
  obtain ⟨nm2, rfl, _⟩ := fits_str u9 g2
  obtain ⟨fs, rfl, _⟩ := lst_of u26 (fun _ => fu_of) g3
  exact ⟨(nm, nm2, fs), by rw [elem_struct is157]; rfl, trivial⟩
theorem pq_of {pvs : List PV} (h : Fits Pr 29 pvs) : ∃ p : Pq, pvElem Pr 29 pvs = p.enc := by
  obtain ⟨a0, b, rfl, h0, h⟩ := (fits_parts f29 h).c1
  obtain ⟨a1, b, rfl, h1, h⟩ := h.c1
  obtain ⟨a2, b, rfl, h2, h⟩ := h.c1
  obtain ⟨a3, b, rfl, h3, h⟩ := h.c1
  obtain ⟨a4, b, rfl, h4, h⟩ := h.c1
  obtain ⟨a5, b, rfl, h5, h⟩ := h.c1
  obtain ⟨a6, b, rfl, h6, h⟩ := h.c1
  obtain ⟨a7, b, rfl, h7, h⟩ := h.c1
  obtain rfl := h.c0
  obtain ⟨nm, rfl, _⟩ := fits_str u9 h0
  obtain ⟨ver, rfl, _⟩ := fits_int u3 h1
  obtain ⟨x2, rfl, _⟩ := fits_lst u22 h2
  obtain ⟨ds, rfl, _⟩ := lst_of u23 (fun _ => dt_of) h3
  obtain ⟨ts, rfl, _⟩ := lst_of u24 (fun _ => tr_of) h4
  obtain ⟨is, rfl, _⟩ := lst_of u25 (fun _ => im_of) h5
  obtain ⟨fs, rfl, _⟩ := lst_of u26 (fun _ => fu_of) h6
  obtain ⟨ac, rfl, _⟩ := lst_of u27 (fun _ => ac_of) h7
  exact ⟨⟨nm, ver, _, ds, ts, is, fs, ac⟩, by rw [elem_struct is29]; rfl⟩
theorem args_law : ∀ ps, ArgsFit Pr [29] ps → bkL ps ≤ 1048576 → AL.V Pr T 15 (ps.map .pv) = some (.pv (.bool true), []) := by
  intro ps h hb
  cases h with | cons a0 h =>
  cases h
  obtain ⟨p, e0⟩ := pq_of a0
  simp only [List.map_cons, List.map_nil, e0, bkL] at hb ⊢
  exact Go.AL.S1.law15 (by simp only [BIG]; omega)

end Go.AL.S1.effectLeast
namespace Go.Proofs.Ytofjejdlggmcjaa.effectLeast
open Go.ChangeShapes Go.WideShapes Go.ChangeAt Go.RowKit
theorem own : ownKnob Try.prog.godebug = none := by kernel_rfl
theorem bulkAll {H : Type} (l : List (DataW H)) : Rows.uptoBulkAll l = (l.map Rows.uptoBulk).sum := by
  induction l with
  | nil => simp [Rows.uptoBulkAll]
  | cons d l ih => simp [Rows.uptoBulkAll, ih]
theorem bulky {H : Type} : Go.AL.Bulky (Rows.uptoBulk : DataW H → Nat) := by
  refine ⟨fun b => ?_, fun d => ?_, fun d => ?_, fun e s => ?_, fun ps => ?_⟩
  · simp [Rows.uptoBulk]
  · cases d with
    | lit l => cases l <;> simp [Rows.uptoBulk]
    | _ => simp [Rows.uptoBulk]
  · simp [Rows.uptoBulk]
  · simp [Rows.uptoBulk, bulkAll]
  · simp [Rows.uptoBulk, bulkAll]
def nilS : Value := .slice none 0 0
set_option maxRecDepth 100000 in
theorem lifted (os : Os) (started : os.Started) (H : Type) (enc : TypeId × Value → H) (F0 : Stop.Interp) :
    ReturnsInHanded {} Try.checked os 15 .any ((Rows.OpenSpec.upto Rows.effectLeastSpec).pre6 enc Try.prog Try.f15 Rows.effectLeastUptoRow.domain false) (((Rows.OpenSpec.upto Rows.effectLeastSpec).at F0).post enc Try.prog Try.f15 false true false false) := by
  refine returnsInHanded_of_cond_sized (C := Try.checked) (s := Rows.OpenSpec.upto Rows.effectLeastSpec) (k := Rows.uptoSmall) rfl own started (by kernel_rfl) Try.func15
    (OpenSpec.witness (enc := enc) (C := Try.checked) (s := Rows.OpenSpec.upto Rows.effectLeastSpec) (k := Rows.uptoSmall) rfl false ⟨#[], #[.agg #[.string ByteArray.empty, .int .i64 0, nilS, nilS, nilS, nilS, nilS, nilS]], []⟩ 8 (by kernel_rfl) (by kernel_rfl) (by kernel_rfl)
      (x := ([.agg [.lit (.string []), .lit (.int .i64 0), .nil, .nil, .nil, .nil, .nil, .nil]], [], [])) (by kernel_rfl) (by kernel_rfl) (by kernel_rfl)) ?_
  intro W base args ds gs before hval0 hW hcnd hk hsz0 _
  have hW' := hW
  obtain ⟨p, q, hA0, hV, rfl, hfz, hnd⟩ := hW
  have hA : DataW.TrodAll enc Try.prog W 0 (fun _ => true) true Try.f15.params.toList args.toList ds p := hA0
  obtain ⟨rfl, rfl⟩ := trodVars_none hV
  have hk' : Rows.uptoBulkAll (ds ++ []) ≤ 1048576 := of_decide_eq_true hk
  rw [List.append_nil, bulkAll] at hk'
  have hsz : (DataW.weightsEach Try.prog (Try.f15.params.toList ++ []) (ds ++ [])).all (· ≤ reachBytes) = true := hsz0
  rw [List.append_nil, List.append_nil] at hsz
  rw [Try.params15] at hA hval0 hsz
  refine (Go.AL.law_callsVB (B := Rows.uptoBulk) bulky Go.AL.S1.pa Go.AL.S1.snd Go.AL.S1.effectLeast.closed (f := 15) (ts := [29]) (by kernel_rfl) hA (fun j t v e1 e2 => hval0 j t v (by simpa using e1) e2) hsz hk' Go.AL.S1.effectLeast.args_law).mono fun e W' ⟨he, bel, hpost⟩ => ?_
  subst he
  have hlen : ∀ {ts : List TypeId} {vs : List Value} {ds : List (DataW H)} {p : List MemPlace}, DataW.TrodAll enc Try.prog W 0 (fun _ => true) true ts vs ds p → ds.length = ts.length := by
    intro ts
    induction ts with
    | nil => intro vs ds p h; cases vs <;> cases ds <;> first | rfl | exact h.elim
    | cons t ts ih => intro vs ds p h; cases vs <;> cases ds <;> first | exact h.elim | (obtain ⟨_, _, _, h2, _⟩ := h; simp [ih h2])
  have hl : ds.length = 1 := hlen hA
  obtain ⟨d1, rfl⟩ : ∃ d1, ds = [d1] := by
    match ds, hl with
    | [d1], _ => exact ⟨d1, rfl⟩
  exact ⟨_, rfl, _, _, _, [], _, [], hW', trodAll_mk1 (shut_bool Try.underlying4 _), (by rw [Try.params15]; exact hpost), rfl, bel.frame _, fun h => by cases h⟩
theorem over : Rows.effectLeastUptoRow.holds Try.pinned (Rows.OpenSpec.upto Rows.effectLeastSpec) :=
  OpenClaim.holds_of_cond 15 Try.f15 rfl rfl rfl rfl rfl rfl rfl ⟨rfl, rfl, rfl, rfl, rfl⟩ rfl rfl rfl rfl rfl (by kernel_rfl) Try.func15 (by kernel_rfl)
    (of_decide_eq_true (by kernel_rfl)) (by unfold Func.isWrapper; first | (rw [if_pos (by decide +kernel)]; kernel_rfl) | (rw [if_neg (by decide +kernel)]; exact ⟨rfl, rfl⟩))
    (fun os started H enc _ F => lifted os started H enc F)
theorem proved : Rows.EffectLeastUptoSaid := over
end Go.Proofs.Ytofjejdlggmcjaa.effectLeast
namespace Go.Proofs.Ytofjejdlggmcjaa
/-- The row, under a short name. -/
theorem effectLeastUpto_holds : Rows.EffectLeastUptoSaid := effectLeast.proved
end Go.Proofs.Ytofjejdlggmcjaa
#print axioms Go.Proofs.Ytofjejdlggmcjaa.effectLeastUpto_holds
