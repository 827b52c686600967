/- Operations that depend on their operands alone: structs, slices, strings, tuples, closures. -/
import Derived.Test.YtlmodlihiglnhaaALe
set_option linter.unusedVariables false
set_option linter.unusedSimpArgs false
namespace Go.AL
open Go.RowKit

/-- Cells, one by one. -/
def CRel (M : Mem) (ps : List PV) (vs : List Value) : Prop := vs.length = ps.length ∧ ∀ (i : Nat) p v, ps[i]? = some p → vs[i]? = some v → PRep M p v ∧ p.one = true

theorem CRel.set {M : Mem} {ps : List PV} {vs : List Value} (h : CRel M ps vs) (k : Nat) {p : PV} {v : Value} (hp : PRep M p v) (ho : p.one = true) : CRel M (ps.set k p) (vs.set k v) := by
  refine ⟨by simpa using h.1, fun i q u h1 h2 => ?_⟩
  by_cases hk : k = i
  · subst hk
    by_cases hl : k < ps.length
    · rw [List.getElem?_set_self hl] at h1
      rw [List.getElem?_set_self (by rw [h.1]; exact hl)] at h2
      obtain rfl := Option.some.inj h1
      obtain rfl := Option.some.inj h2
      exact ⟨hp, ho⟩
    · rw [List.getElem?_eq_none (by simpa using hl)] at h1
      cases h1
  · rw [List.getElem?_set_ne hk] at h1 h2
    exact h.2 i q u h1 h2

theorem CRel.agg {M : Mem} {ps : List PV} {vs : List Value} (h : CRel M ps vs) : PRep M (.agg ps) (.agg vs.toArray) :=
  .agg ps vs h.1 (fun y hy => by
    obtain ⟨i, hi, rfl⟩ := List.mem_iff_getElem.1 hy
    have hi2 : i < vs.length := by rw [h.1]; exact hi
    exact (h.2 i ps[i] vs[i] (List.getElem?_eq_getElem hi) (List.getElem?_eq_getElem hi2)).2) fun i c v h1 h2 => (h.2 i c v h1 h2).1

theorem CRel.setAt {M : Mem} : ∀ {qs : List PV} {us : List Value} {ps : List PV} {vs : List Value} (off : Nat), CRel M ps vs → CRel M qs us → CRel M (setAt ps off qs) (setAt vs off us)
  | [], us, ps, vs, off, h, k => by
    have : us = [] := List.eq_nil_of_length_eq_zero k.1
    subst this; exact h
  | q :: qs, us, ps, vs, off, h, k => by
    cases us with
    | nil => have := k.1; simp at this
    | cons u us =>
      obtain ⟨g1, g2⟩ := k.2 0 q u rfl rfl
      exact CRel.setAt (off + 1) (h.set off g1 g2) ⟨by have := k.1; simpa using this, fun i p v h1 h2 => k.2 (i + 1) p v (by simpa using h1) (by simpa using h2)⟩

theorem foldl_setAt (us : List Value) : ∀ (k off : Nat) (cells : Array Value), ((us.zipIdx k).foldl (fun (cs : Array Value) (x : Value × Nat) => cs.setIfInBounds (off + x.2) x.1) cells).toList = setAt cells.toList (off + k) us := by
  induction us with
  | nil => intro k off cells; rfl
  | cons u us ih =>
    intro k off cells
    simp only [List.zipIdx_cons, List.foldl_cons, setAt]
    rw [ih]
    simp [Nat.add_assoc]

theorem length_setAt {α : Type} (us : List α) : ∀ (cs : List α) (off : Nat), (setAt cs off us).length = cs.length := by
  induction us with
  | nil => intro cs off; rfl
  | cons u us ih => intro cs off; simp [setAt, ih]

/-- What a value that isn't several has for cells. -/
theorem cells_rel {M : Mem} {p : PV} {v : Value} (h : PRep M p v) (hp : ∀ cs, p ≠ .tup cs) : CRel M p.cells v.cells.toList := by
  obtain ⟨h1, h2, h3⟩ := h.cells hp
  exact ⟨h1, fun i c u g1 g2 => ⟨h3 i c u g1 g2, h2 c (List.mem_of_getElem? g1)⟩⟩

/-- Parts of a struct, or of a slice's literal. -/
def PtsRel (M : Mem) : List (Nat × PV) → List (Nat × Value) → Prop
  | [], [] => True
  | (i, p) :: l, (j, v) :: k => i = j ∧ PRep M p v ∧ (∀ cs, p ≠ .tup cs) ∧ PtsRel M l k
  | _, _ => False

theorem fill_rel {M : Mem} {place place' : Nat → Option (Nat × Nat)} (hp : ∀ i, place i = place' i) : ∀ {pts : List (Nat × PV)} {vts : List (Nat × Value)} {ps : List PV} {cells : Array Value} {out : List PV},
    PtsRel M pts vts → CRel M ps cells.toList → fillP place ps pts = some out → ∃ res, Instr.fill place' cells vts = some res ∧ CRel M out res.toList
  | [], vts, ps, cells, out, hr, hc, h => by
    cases vts with
    | nil => obtain rfl := Option.some.inj h; exact ⟨cells, rfl, hc⟩
    | cons v l => exact hr.elim
  | (i, p) :: pts, vts, ps, cells, out, hr, hc, h => by
    cases vts with
    | nil => exact hr.elim
    | cons jv vts =>
      obtain ⟨j, v⟩ := jv
      obtain ⟨rfl, h1, h2, h3⟩ := hr
      simp only [fillP] at h
      simp only [Instr.fill, ← hp]
      cases hpl : place i with
      | none => rw [hpl] at h; cases h
      | some os =>
        obtain ⟨off, size⟩ := os
        rw [hpl] at h
        simp only at h
        have hcr := cells_rel h1 h2
        have hl : v.cells.size = p.cells.length := by have := hcr.1; simpa using this
        have hl2 : cells.size = ps.length := by have := hc.1; simpa using this
        cases hb : (Nat.beq p.cells.length size && Nat.ble (off + p.cells.length) ps.length) with
        | false => rw [hb] at h; cases h
        | true =>
          rw [hb] at h
          simp only [cond_true] at h
          simp only [Bool.and_eq_true] at hb
          have e1 := beq_eq hb.1
          have e2 := Nat.le_of_ble_eq_true hb.2
          have hif : (decide (v.cells.size ≠ size) || decide (off + v.cells.size > cells.size)) = false := by
            rw [hl, hl2]; simp; omega
          simp only [hif, Bool.false_eq_true, if_false]
          refine fill_rel hp h3 ?_ h
          have e : (Array.foldl (fun (cs : Array Value) (x : Value × Nat) => match x with | (c, j) => cs.setIfInBounds (off + j) c) cells v.cells.zipIdx).toList = setAt cells.toList off v.cells.toList := by
            rw [← Array.foldl_toList, Array.toList_zipIdx]
            exact foldl_setAt v.cells.toList 0 off cells
          rw [e]
          exact CRel.setAt off hc hcr

section
variable {P : Program} {av : Av} {ty : TypeId}

theorem pts_rel {G : Gh} {s : St} {a : Act} (hA : Avs av G s a) : ∀ {l : List (Nat × Operand)} {ps : List (Nat × PV)}, partsPV av l = some ps → PtsRel G.M ps (l.map fun x => (x.1, a.eval x.2))
  | [], ps, h => by obtain rfl := Option.some.inj h; trivial
  | (i, y) :: l, ps, h => by
    simp only [partsPV] at h
    split at h
    · rename_i b ps' hb hps
      split at h
      · cases h
      · rename_i p hn hp
        obtain rfl := Option.some.inj h
        exact ⟨rfl, toPV_rel (hA y b hb) hp, hn, pts_rel hA hps⟩
      · cases h
    · cases h

theorem run_mapM {α β : Type} (w : World) (f : α → Sem β) (g : α → β) : ∀ (l : List α), (∀ x, x ∈ l → (f x).run P w = .ok (g x) w) → (l.mapM f).run P w = .ok (l.map g) w
  | [], _ => by simp
  | x :: l, h => by
    rw [List.mapM_cons]
    simp [h x (by simp), run_mapM w f g l (fun y hy => h y (by simp [hy]))]

theorem run_sizeOf' {t : TypeId} {i : TypeInfo} (h : P.types[t]? = some i) (w : World) : (sizeOf t).run P w = .ok i.size w := by
  simp [sizeOf, typeInfo, info_of h]

theorem placesL_eq : ∀ {l : List Field} {pl : List (Nat × Nat)}, placesL P l = some pl → pl = l.map (fun f => (f.offset, sizeT P f.type)) ∧ ∀ f, f ∈ l → ∃ i, P.types[f.type]? = some i
  | [], pl, h => by obtain rfl := Option.some.inj h; exact ⟨rfl, by simp⟩
  | f :: l, pl, h => by
    simp only [placesL] at h
    split at h
    · rename_i i ps hi hps
      obtain rfl := Option.some.inj h
      obtain ⟨g1, g2⟩ := placesL_eq hps
      refine ⟨?_, fun f' hf' => ?_⟩
      · rw [List.map_cons, ← g1]
        simp only [sizeT, hi]
      · rcases List.mem_cons.1 hf' with rfl | hf'
        · exact ⟨i, hi⟩
        · exact g2 f' hf'
    · cases h

theorem run_places (w : World) {fs : Array Field} {pl : List (Nat × Nat)} (h : placesL P fs.toList = some pl) :
    (fs.mapM fun f => (Prod.mk f.offset <$> sizeOf f.type : Sem (Nat × Nat))).run P w = .ok pl.toArray w := by
  obtain ⟨g1, g2⟩ := placesL_eq h
  rw [Array.mapM_eq_mapM_toList, Sem.run_map, run_mapM w _ (fun f => (f.offset, sizeT P f.type))]
  · rw [← g1]; rfl
  · intro f hf
    obtain ⟨i, hi⟩ := g2 f hf
    simp [run_sizeOf' hi, sizeT, hi]

theorem run_zero (hT : TOk P) {t : TypeId} {ps : List PV} (h : zeroCells P t = some ps) (w : World) : ∃ i z, P.types[t]? = some i ∧ i.zero = some z ∧ (zeroValue t).run P w = .ok z w ∧ ofCells z.cells.toList = some ps ∧ z.cells.size = i.size := by
  unfold zeroCells at h
  split at h
  · rename_i i hi
    split at h
    · rename_i z hz
      exact ⟨i, z, hi, hz, by simp [zeroValue, typeInfo, info_of hi, hz], h, hT.size t i z hi hz⟩
    · cases h
  · cases h

theorem CRel.of_cells {M : Mem} {vs : List Value} {ps : List PV} (h : ofCells vs = some ps) : CRel M ps vs := by
  obtain ⟨g1, g2⟩ := ofCells_rep (M := M) h
  exact ⟨g1.symm, fun i p v h1 h2 => ⟨(g2 i p v h1 h2).1, (g2 i p v h1 h2).2.1⟩⟩
theorem CRel.weak {M : Mem} {vs : List Value} {ps : List PV} (h : CRel M ps vs) : CRel M (ps.map PV.weak) vs := by
  refine ⟨by simpa using h.1, fun i p v h1 h2 => ?_⟩
  rw [List.getElem?_map] at h1
  cases hq : ps[i]? with
  | none => rw [hq] at h1; cases h1
  | some q =>
    rw [hq] at h1
    obtain rfl := Option.some.inj h1
    exact ⟨(h.2 i q v hq h2).1.weak, by rw [PV.one_weak]; exact (h.2 i q v hq h2).2⟩

theorem s_build (hT : TOk P) {t : TypeId} {parts : Array (Nat × Operand)} {pl : List (Nat × Nat)} {z : List PV} {ps : List (Nat × PV)} {cs : List PV} (h1 : fieldPlaces P t = some pl) (h2 : zeroCells P t = some z)
    (h3 : partsPV av parts.toList = some ps) (h4 : fillP (fun i => pl[i]?) (z.map PV.weak) ps = some cs) : Sound1 P (.build t parts) ty av (.pv (.agg cs)) := by
  refine .val fun G s a w o _ hA ho _ => ?_
  obtain ⟨i, zv, hi, hz, hrun, hof, hsz⟩ := run_zero hT h2 w
  unfold fieldPlaces at h1
  split at h1
  · rename_i fs hfs
    have hpr := pts_rel hA h3
    have hm : (parts.map fun x => (x.1, a.eval x.2)).toList = parts.toList.map fun x => (x.1, a.eval x.2) := by simp
    obtain ⟨res, g1, g2⟩ := fill_rel (M := G.M) (place' := (pl.toArray[·]?)) (fun i => by simp) hpr (cells := zv.cells) (CRel.of_cells hof).weak h4
    refine ⟨.agg res, ?_, ?_⟩
    · simp only [execOp, ho, Instr.build]
      simp [hrun, run_underlying hfs, run_places w h1, hm]
      simp at g1
      simp [g1]
    · show PRep _ _ _
      have := g2.agg
      simpa using this
  · cases h1
end
end Go.AL
