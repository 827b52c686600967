/- KindPut: the row. -/
import Derived.Test.YtofjejdlggmcjaaS1Kind
import Derived.Test.YtofjejdlggmcjaaALzl
import Derived.WalkKit
import Derived.ProofKit
import Derived.OpenShut
import Derived.ShutString
import Derived.ChangeOld
import Derived.Below
import Derived.SizedLaws
set_option linter.unusedVariables false
set_option linter.unusedSimpArgs false
namespace Go.AL.S1.kindPut
open Go Go.AL Go.AL.S1
def S : List TypeId := [29, 9, 3, 22, 198, 23, 33, 30, 31, 165, 34, 36, 24, 162, 26, 93, 81, 77, 79, 146, 144, 142, 25, 157, 27, 139]
theorem closed : closedT Pr S = true := by kernel_rfl
theorem f29 : ftypes Pr 29 = some [9, 3, 22, 23, 24, 25, 26, 27] := by kernel_rfl
theorem is29 : isStruct Pr 29 = true := by kernel_rfl
theorem u9 : Pr.underlying 9 = some .string := by kernel_rfl
theorem u3 : Pr.underlying 3 = some (.int .i64) := by kernel_rfl
theorem u22 : Pr.underlying 22 = some (.slice 198) := by kernel_rfl
theorem by198 : Pr.bytesOf 198 = 32 := by kernel_rfl
theorem f198 : ftypes Pr 198 = some [9, 3, 3] := by kernel_rfl
theorem is198 : isStruct Pr 198 = true := by kernel_rfl
theorem u23 : Pr.underlying 23 = some (.slice 33) := by kernel_rfl
theorem by33 : Pr.bytesOf 33 = 64 := by kernel_rfl
theorem f33 : ftypes Pr 33 = some [9, 30, 31] := by kernel_rfl
theorem is33 : isStruct Pr 33 = true := by kernel_rfl
theorem u30 : Pr.underlying 30 = some (.slice 9) := by kernel_rfl
theorem by9 : Pr.bytesOf 9 = 16 := by kernel_rfl
theorem u31 : Pr.underlying 31 = some (.slice 165) := by kernel_rfl
theorem by165 : Pr.bytesOf 165 = 40 := by kernel_rfl
theorem f165 : ftypes Pr 165 = some [9, 34] := by kernel_rfl
theorem is165 : isStruct Pr 165 = true := by kernel_rfl
theorem u34 : Pr.underlying 34 = some (.slice 36) := by kernel_rfl
theorem by36 : Pr.bytesOf 36 = 48 := by kernel_rfl
theorem f36 : ftypes Pr 36 = some [3, 9, 34] := by kernel_rfl
theorem is36 : isStruct Pr 36 = true := by kernel_rfl
theorem u24 : Pr.underlying 24 = some (.slice 162) := by kernel_rfl
theorem by162 : Pr.bytesOf 162 = 40 := by kernel_rfl
theorem f162 : ftypes Pr 162 = some [9, 26] := by kernel_rfl
theorem is162 : isStruct Pr 162 = true := by kernel_rfl
theorem u26 : Pr.underlying 26 = some (.slice 93) := by kernel_rfl
theorem by93 : Pr.bytesOf 93 = 272 := by kernel_rfl
theorem f93 : ftypes Pr 93 = some [9, 30, 30, 34, 36, 81] := by kernel_rfl
theorem is93 : isStruct Pr 93 = true := by kernel_rfl
theorem f81 : ftypes Pr 81 = some [3, 3, 9, 30, 34, 77, 79, 3] := by kernel_rfl
theorem is81 : isStruct Pr 81 = true := by kernel_rfl
theorem u77 : Pr.underlying 77 = some (.slice 81) := by kernel_rfl
theorem by81 : Pr.bytesOf 81 = 136 := by kernel_rfl
theorem u79 : Pr.underlying 79 = some (.slice 146) := by kernel_rfl
theorem by146 : Pr.bytesOf 146 = 192 := by kernel_rfl
theorem f146 : ftypes Pr 146 = some [144, 81] := by kernel_rfl
theorem is146 : isStruct Pr 146 = true := by kernel_rfl
theorem f144 : ftypes Pr 144 = some [3, 3, 9, 142] := by kernel_rfl
theorem is144 : isStruct Pr 144 = true := by kernel_rfl
theorem u142 : Pr.underlying 142 = some (.slice 144) := by kernel_rfl
theorem by144 : Pr.bytesOf 144 = 56 := by kernel_rfl
theorem u25 : Pr.underlying 25 = some (.slice 157) := by kernel_rfl
theorem by157 : Pr.bytesOf 157 = 56 := by kernel_rfl
theorem f157 : ftypes Pr 157 = some [9, 9, 26] := by kernel_rfl
theorem is157 : isStruct Pr 157 = true := by kernel_rfl
theorem u27 : Pr.underlying 27 = some (.slice 139) := by kernel_rfl
theorem by139 : Pr.bytesOf 139 = 248 := by kernel_rfl
theorem f139 : ftypes Pr 139 = some [9, 30, 34, 36, 81] := by kernel_rfl
theorem is139 : isStruct Pr 139 = true := by kernel_rfl
theorem reach : reachBytes = 140737488351232 := rfl
theorem str_of {pvs : List PV} (h : Fits Pr 9 pvs) : ∃ s : Str, pvElem Pr 9 pvs = .str s ∧ True := by
  obtain ⟨s, e, _⟩ := elem_str u9 h
  exact ⟨s, e, trivial⟩
theorem strs_of {pvs : List PV} (h : Fits Pr 30 pvs) : ∃ xs : List Str, pvs = [.lst (xs.map .str)] ∧ xs.length ≤ maxLen := by
  obtain ⟨xs, e, hl, _⟩ := lst_of u30 (f := PV.str) (Q := fun _ => True) (fun _ => str_of) h
  exact ⟨xs, e, hl⟩
theorem strs_elem {pvs : List PV} (h : Fits Pr 30 pvs) : ∃ xs : List Str, pvElem Pr 30 pvs = .lst (xs.map .str) ∧ xs.length ≤ maxLen := by
  obtain ⟨xs, e, hl, _⟩ := elem_lst u30 (f := PV.str) (Q := fun _ => True) (fun _ => str_of) h
  exact ⟨xs, e, hl⟩
theorem ty_of' : ∀ (N : Nat) {pvs : List PV}, SizeOf.sizeOf pvs < N → Fits Pr 36 pvs → ∃ ty, pvElem Pr 36 pvs = Ty.enc ty ∧ Okt ty
  | 0, pvs, h, _ => absurd h (Nat.not_lt_zero _)
  | N + 1, pvs, h, hf => by
    obtain ⟨a, b, rfl, g1, g⟩ := (fits_parts f36 hf).c1
    obtain ⟨c, d, rfl, g2, g⟩ := g.c1
    obtain ⟨e, z, rfl, g3, g⟩ := g.c1
    obtain rfl := g.c0
    obtain ⟨k, rfl, _⟩ := fits_int u3 g1
    obtain ⟨nm, rfl, _⟩ := fits_str u9 g2
    obtain ⟨xs, rfl, hb, hlen, hall⟩ := fits_lst u34 g3
    have hx : ∀ x, x ∈ xs → ∃ ty, pvElem Pr 36 x = Ty.enc ty ∧ Okt ty := fun x hx => by
      refine ty_of' N ?_ (hall x hx)
      have h1 : SizeOf.sizeOf (pvElem Pr 36 x) < SizeOf.sizeOf (xs.map (pvElem Pr 36)) := List.sizeOf_lt_of_mem (List.mem_map.2 ⟨x, hx, rfl⟩)
      rw [elem_struct is36, PV.agg.sizeOf_spec] at h1
      simp only [List.cons_append, List.nil_append, List.cons.sizeOf_spec, PV.lst.sizeOf_spec] at h
      omega
    obtain ⟨ys, h3, h4⟩ := list_of (l := xs.map (pvElem Pr 36)) (f := Ty.enc) (Q := Okt) fun p hp => by
      obtain ⟨x, hx', rfl⟩ := List.mem_map.1 hp
      exact hx x hx'
    rw [by36] at hb
    have hxy : xs.length = ys.length := by have := congrArg List.length h3; simpa using this
    refine ⟨.mk k nm ys, ?_, .mk (by omega) (by rw [← hxy]; exact hb) h4⟩
    rw [elem_struct is36, enc_mk, h3]
    rfl
theorem ty_of {pvs : List PV} (h : Fits Pr 36 pvs) : ∃ ty, pvElem Pr 36 pvs = Ty.enc ty ∧ Okt ty := ty_of' _ (Nat.lt_succ_self _) h
theorem tys_of {pvs : List PV} (h : Fits Pr 34 pvs) : ∃ xs : List Ty, pvs = [.lst (xs.map Ty.enc)] ∧ xs.length ≤ maxLen ∧ xs.length * 48 ≤ reachBytes ∧ ∀ x, x ∈ xs → Okt x := by
  have := lst_of u34 (f := Ty.enc) (Q := Okt) (fun _ => ty_of) h
  rw [by36] at this; exact this
theorem tys_elem {pvs : List PV} (h : Fits Pr 34 pvs) : ∃ xs : List Ty, pvElem Pr 34 pvs = .lst (xs.map Ty.enc) ∧ xs.length ≤ maxLen ∧ xs.length * 48 ≤ reachBytes ∧ ∀ x, x ∈ xs → Okt x := by
  have := elem_lst u34 (f := Ty.enc) (Q := Okt) (fun _ => ty_of) h
  rw [by36] at this; exact this
theorem data_of {pvs : List PV} (h : Fits Pr 33 pvs) : ∃ d : D3, pvElem Pr 33 pvs = eD d ∧ True := by
  obtain ⟨a, b, rfl, g1, g⟩ := (fits_parts f33 h).c1
  obtain ⟨c, d, rfl, g2, g⟩ := g.c1
  obtain ⟨e, z, rfl, g3, g⟩ := g.c1
  obtain rfl := g.c0
  obtain ⟨nm, rfl, _⟩ := fits_str u9 g1
  obtain ⟨xs, rfl, _⟩ := fits_lst u30 g2
  obtain ⟨ys, rfl, _⟩ := fits_lst u31 g3
  exact ⟨(nm, _, _), by rw [elem_struct is33]; rfl, trivial⟩
theorem pg_of {pvs : List PV} (h : Fits Pr 29 pvs) : ∃ p : Pg, pvElem Pr 29 pvs = p.enc ∧ p.ds.length ≤ maxLen := by
  obtain ⟨a0, b, rfl, h0, h⟩ := (fits_parts f29 h).c1
  obtain ⟨a1, b, rfl, h1, h⟩ := h.c1
  obtain ⟨a2, b, rfl, h2, h⟩ := h.c1
  obtain ⟨a3, b, rfl, h3, h⟩ := h.c1
  obtain ⟨a4, b, rfl, h4, h⟩ := h.c1
  obtain ⟨a5, b, rfl, h5, h⟩ := h.c1
  obtain ⟨a6, b, rfl, h6, h⟩ := h.c1
  obtain ⟨a7, b, rfl, h7, h⟩ := h.c1
  obtain rfl := h.c0
  obtain ⟨nm, rfl, _⟩ := fits_str u9 h0
  obtain ⟨ver, rfl, _⟩ := fits_int u3 h1
  obtain ⟨x2, rfl, _⟩ := fits_lst u22 h2
  obtain ⟨ds, rfl, hl, _⟩ := lst_of u23 (f := eD) (Q := fun _ => True) (fun _ => data_of) h3
  obtain ⟨x4, rfl, _⟩ := fits_lst u24 h4
  obtain ⟨x5, rfl, _⟩ := fits_lst u25 h5
  obtain ⟨x6, rfl, _⟩ := fits_lst u26 h6
  obtain ⟨x7, rfl, _⟩ := fits_lst u27 h7
  exact ⟨⟨nm, ver, _, ds, _, _, _, _⟩, by rw [elem_struct is29]; rfl, hl⟩
theorem args_law : ∀ ps, ArgsFit Pr [29, 30, 36, 34] ps → AL.V Pr T 6 (ps.map .pv) = some (.pv (.bool true), []) := by
  intro ps h
  cases h with | cons a0 h => cases h with | cons a1 h => cases h with | cons a2 h => cases h with | cons a3 h =>
  cases h
  obtain ⟨p, e0, hd⟩ := pg_of a0
  obtain ⟨ns, e1, hn⟩ := strs_elem a1
  obtain ⟨t, e2, ht⟩ := ty_of a2
  obtain ⟨l, e3, hl, _, hls⟩ := tys_elem a3
  simp only [List.map_cons, List.map_nil, e0, e1, e2, e3]
  exact Go.AL.S1.law6 hd hn ht hl hls

end Go.AL.S1.kindPut
namespace Go.Proofs.Ytofjejdlggmcjaa.kindPut
open Go.ChangeShapes Go.WideShapes Go.ChangeAt Go.RowKit
theorem own : ownKnob Try.prog.godebug = none := by kernel_rfl
def nilS : Value := .slice none 0 0
set_option maxRecDepth 100000 in
theorem lifted (os : Os) (started : os.Started) (H : Type) (enc : TypeId × Value → H) :
    ReturnsInHanded {} Try.checked os 6 .any (Rows.kindPutSpec.pre6 enc Try.prog Try.f6 Rows.kindPutRow.domain false) (Rows.kindPutSpec.post enc Try.prog Try.f6 false true false false) := by
  refine returnsInHanded_of_change_sized (C := Try.checked) own started (by kernel_rfl) Try.func6
    (ChangeSpec.witness6 (enc := enc) (C := Try.checked) false ⟨#[], #[.agg #[.string ByteArray.empty, .int .i64 0, nilS, nilS, nilS, nilS, nilS, nilS], nilS, .agg #[.int .i64 0, .string ByteArray.empty, nilS], nilS], []⟩ 8 (by kernel_rfl) (by kernel_rfl) (by kernel_rfl) (by kernel_rfl)) ?_
  intro W base args ds gs before hval0 hW hcnd hsz0 _
  have hW' := hW
  obtain ⟨p, q, hA0, hV, rfl, hfz, hnd⟩ := hW
  have hA : DataW.TrodAll enc Try.prog W 0 (fun _ => true) true Try.f6.params.toList args.toList ds p := hA0
  obtain ⟨rfl, rfl⟩ := trodVars_none hV
  have hsz : (DataW.weightsEach Try.prog (Try.f6.params.toList ++ []) (ds ++ [])).all (· ≤ reachBytes) = true := hsz0
  rw [List.append_nil, List.append_nil] at hsz
  rw [Try.params6] at hA hval0 hsz
  refine (Go.AL.law_callsV Go.AL.S1.pa Go.AL.S1.snd Go.AL.S1.kindPut.closed (f := 6) (ts := [29, 30, 36, 34]) (by kernel_rfl) hA (fun j t v e1 e2 => hval0 j t v (by simpa using e1) e2) hsz Go.AL.S1.kindPut.args_law).mono fun e W' ⟨he, bel, hpost⟩ => ?_
  subst he
  have hlen : ∀ {ts : List TypeId} {vs : List Value} {ds : List (DataW H)} {p : List MemPlace}, DataW.TrodAll enc Try.prog W 0 (fun _ => true) true ts vs ds p → ds.length = ts.length := by
    intro ts
    induction ts with
    | nil => intro vs ds p h; cases vs <;> cases ds <;> first | rfl | exact h.elim
    | cons t ts ih => intro vs ds p h; cases vs <;> cases ds <;> first | exact h.elim | (obtain ⟨_, _, _, h2, _⟩ := h; simp [ih h2])
  have hl : ds.length = 4 := hlen hA
  obtain ⟨d1, d2, d3, d4, rfl⟩ : ∃ d1 d2 d3 d4, ds = [d1, d2, d3, d4] := by
    match ds, hl with
    | [d1, d2, d3, d4], _ => exact ⟨d1, d2, d3, d4, rfl⟩
  exact ⟨_, rfl, _, _, _, [], _, [], hW', trodAll_mk1 (shut_bool Try.underlying4 _), (by rw [Try.params6]; exact hpost), rfl, bel.frame _, fun h => by cases h⟩
theorem over : Rows.kindPutRow.holds Try.pinned (OpenSpec.ofChange Rows.kindPutSpec) :=
  OpenClaim.holds_of_wide 6 Try.f6 rfl rfl rfl rfl rfl rfl rfl ⟨rfl, rfl, rfl, rfl, rfl⟩ rfl rfl rfl rfl rfl (by kernel_rfl) Try.func6 (by kernel_rfl)
    (of_decide_eq_true (by kernel_rfl)) (by unfold Func.isWrapper; first | (rw [if_pos (by decide +kernel)]; kernel_rfl) | (rw [if_neg (by decide +kernel)]; exact ⟨rfl, rfl⟩))
    (fun os started H enc _ => lifted os started H enc)
theorem proved : Rows.KindPutSaid := over
end Go.Proofs.Ytofjejdlggmcjaa.kindPut
namespace Go.Proofs.Ytofjejdlggmcjaa
/-- The row, under a short name. -/
theorem kindPut_holds : Rows.KindPutSaid := kindPut.proved
end Go.Proofs.Ytofjejdlggmcjaa
#print axioms Go.Proofs.Ytofjejdlggmcjaa.kindPut_holds
