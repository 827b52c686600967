/- Structs whose cells hold what goes on being written: built, and loaded. -/
import Derived.Test.YtlmodlihiglnhaaALxb
set_option linter.unusedVariables false
set_option linter.unusedSimpArgs false
namespace Go.AL
open Go.RowKit

/-- Cells of what an abstract state holds, one by one. -/
def CAR (G : Gh) (s : St) (cs : List AV) (us : List Value) : Prop := us.length = cs.length ∧ ∀ (k : Nat) c u, cs[k]? = some c → us[k]? = some u → ARel1 G s c u ∧ u.oneCell' = true

theorem CAR.set {G : Gh} {s : St} {cs : List AV} {us : List Value} (h : CAR G s cs us) (k : Nat) {c : AV} {u : Value} (hc : ARel1 G s c u ∧ u.oneCell' = true) : CAR G s (cs.set k c) (us.set k u) := by
  refine ⟨by simpa using h.1, fun i q v h1 h2 => ?_⟩
  by_cases hk : k = i
  · subst hk
    by_cases hl : k < cs.length
    · rw [List.getElem?_set_self hl] at h1
      rw [List.getElem?_set_self (by rw [h.1]; exact hl)] at h2
      obtain rfl := Option.some.inj h1
      obtain rfl := Option.some.inj h2
      exact hc
    · rw [List.getElem?_eq_none (by simpa using hl)] at h1
      cases h1
  · rw [List.getElem?_set_ne hk] at h1 h2
    exact h.2 i q v h1 h2

theorem CAR.setAt {G : Gh} {s : St} : ∀ {qs : List AV} {vs : List Value} {cs : List AV} {us : List Value} (off : Nat), CAR G s cs us → CAR G s qs vs → CAR G s (setAt cs off qs) (setAt us off vs)
  | [], vs, cs, us, off, h, k => by
    have : vs = [] := List.eq_nil_of_length_eq_zero k.1
    subst this; exact h
  | q :: qs, vs, cs, us, off, h, k => by
    cases vs with
    | nil => have := k.1; simp at this
    | cons v vs => exact CAR.setAt (off + 1) (h.set off (k.2 0 q v rfl rfl)) ⟨by have := k.1; simpa using this, fun i p v h1 h2 => k.2 (i + 1) p v (by simpa using h1) (by simpa using h2)⟩

def PtA (G : Gh) (s : St) : List (Nat × List AV) → List (Nat × Value) → Prop
  | [], [] => True
  | (i, cs) :: l, (j, v) :: k => i = j ∧ CAR G s cs v.cells.toList ∧ PtA G s l k
  | _, _ => False

theorem fillA_rel {G : Gh} {s : St} {place place' : Nat → Option (Nat × Nat)} (hp : ∀ i, place i = place' i) : ∀ {pts : List (Nat × List AV)} {vts : List (Nat × Value)} {cs : List AV} {cells : Array Value} {out : List AV},
    PtA G s pts vts → CAR G s cs cells.toList → fillA place cs pts = some out → ∃ res, Instr.fill place' cells vts = some res ∧ CAR G s out res.toList
  | [], vts, cs, cells, out, hr, hc, h => by
    cases vts with
    | nil => obtain rfl := Option.some.inj h; exact ⟨cells, rfl, hc⟩
    | cons v l => exact hr.elim
  | (i, p) :: pts, vts, cs, cells, out, hr, hc, h => by
    cases vts with
    | nil => exact hr.elim
    | cons jv vts =>
      obtain ⟨j, v⟩ := jv
      obtain ⟨rfl, h1, h3⟩ := hr
      simp only [fillA] at h
      simp only [Instr.fill, ← hp]
      cases hpl : place i with
      | none => rw [hpl] at h; cases h
      | some os =>
        obtain ⟨off, size⟩ := os
        rw [hpl] at h
        simp only at h
        have hl : v.cells.size = p.length := by have := h1.1; simpa using this
        have hl2 : cells.size = cs.length := by have := hc.1; simpa using this
        replace h := bif_some h
        obtain ⟨hb, h⟩ := h
        simp only [Bool.and_eq_true] at hb
        have e1 := beq_eq hb.1
        have e2 := Nat.le_of_ble_eq_true hb.2
        have hif : (decide (v.cells.size ≠ size) || decide (off + v.cells.size > cells.size)) = false := by
          rw [hl, hl2]; simp; omega
        simp only [hif, Bool.false_eq_true, if_false]
        refine fillA_rel hp h3 ?_ h
        have e : (Array.foldl (fun (cs : Array Value) (x : Value × Nat) => match x with | (c, j) => cs.setIfInBounds (off + j) c) cells v.cells.zipIdx).toList = setAt cells.toList off v.cells.toList := by
          rw [← Array.foldl_toList, Array.toList_zipIdx]
          exact foldl_setAt v.cells.toList 0 off cells
        rw [e]
        exact CAR.setAt off hc h1

section
variable {P : Program} {av : Av} {ty : TypeId} {s : St}

theorem car_of {G : Gh} {b : AV} {u : Value} {cs : List AV} (h : ARel G s b u) (hc : b.cellsAV = some cs) (ha : cs.all AV.cell = true) : CAR G s cs u.cells.toList := by
  obtain ⟨g1, g2⟩ := cellsAV_rel h hc
  have g3 := cellsAV_one h hc ha
  exact ⟨g1, fun k c x h1 h2 => ⟨(g2 k c x h1 h2).to1 (List.all_eq_true.1 ha c (List.mem_of_getElem? h1)), g3 x (List.mem_of_getElem? h2)⟩⟩

theorem ptA_rel {G : Gh} {a : Act} (hA : Avs av G s a) : ∀ {l : List (Nat × Operand)} {ps : List (Nat × List AV)}, partsAV av l = some ps → PtA G s ps (l.map fun x => (x.1, a.eval x.2))
  | [], ps, h => by obtain rfl := Option.some.inj h; trivial
  | (i, y) :: l, ps, h => by
    simp only [partsAV] at h
    split at h
    · rename_i b ps' hb hps
      split at h
      · rename_i cs hcs
        replace h := bif_some h
        obtain ⟨h1, h⟩ := h
        obtain rfl := Option.some.inj h
        exact ⟨rfl, car_of (hA y b hb) hcs h1, ptA_rel hA hps⟩
      · cases h
    · cases h

theorem s_buildAV (hT : TOk P) {ρ : Type} {t : TypeId} {parts : Array (Nat × Operand)} {K : AV → Option ρ} {r : ρ} (h : buildAV P av t parts.toList K = some r) : ∃ v, K v = some r ∧ ∀ s, Sound2 P (.build t parts) ty av s v s := by
  unfold buildAV at h
  split at h
  · rename_i pl z ps h1 h2 h3
    split at h
    · rename_i cs h4
      refine ⟨_, h, fun s F w0 M0 G a w o hS hA ho _ => ?_⟩
      obtain ⟨i, zv, hi, hz, hrun, hof, hsz⟩ := run_zero hT h2 w
      have h1' := h1
      unfold fieldPlaces at h1
      split at h1
      · rename_i fs hfs
        have hpr := ptA_rel hA h3
        have hm : (parts.map fun x => (x.1, a.eval x.2)).toList = parts.toList.map fun x => (x.1, a.eval x.2) := by simp
        have hcr : CRel G.M z zv.cells.toList := CRel.of_cells hof
        have hca : CAR G s (z.map .pv) zv.cells.toList := ⟨by simpa using hcr.1, fun k c u e1 e2 => by
          rw [List.getElem?_map] at e1
          cases hk : z[k]? with
          | none => rw [hk] at e1; cases e1
          | some q =>
            rw [hk] at e1
            obtain rfl := Option.some.inj e1
            exact ⟨(hcr.2 k q u hk e2).1, PRep.one (hcr.2 k q u hk e2).1 (hcr.2 k q u hk e2).2⟩⟩
        obtain ⟨res, g1, g2⟩ := fillA_rel (place' := (pl.toArray[·]?)) (fun i => by simp) hpr hca h4
        refine OpTo.value (u := .agg res) ?_ ⟨G, hS, Ext.refl _ _, ⟨res.toList, by simp, g2.1, g2.2⟩⟩
        simp only [execOp, ho, Instr.build]
        simp [hrun, run_underlying hfs, run_places w h1, hm]
        simp at g1
        simp [g1]
      · cases h1
    · cases h
  · cases h

theorem loadAgg_sound (hT : TOk P) {ρ : Type} {t : TypeId} {y : Operand} {b : AV} (hy : av y = some b) {K : AV → Option ρ} {r : ρ} (h : loadAgg P t b s K = some r) : ∃ v, K v = some r ∧ Sound0 P (.load t y) ty av s v := by
  unfold loadAgg at h
  split at h
  · rename_i i off z n hz hn
    split at h
    · rename_i zf cs hi
      replace h := bif_some h
      obtain ⟨h1, h⟩ := h
      simp only [Bool.and_eq_true] at h1
      have hle := Nat.le_of_ble_eq_true h1.1
      refine ⟨_, h, fun F w0 M0 G a w o hS hA ho _ => ?_⟩
      obtain ⟨_, b, hb, e⟩ := hA y _ hy
      obtain ⟨p1, p2, p3, vs, T, p4, p5, p6⟩ := hS.bx i zf cs b hi hb
      have hcell : ∀ j v, ((vs.toList.drop off).take n)[j]? = some v → w.cell? ((⟨b, off, none⟩ : Addr).add j) = some v ∧ j < n ∧ vs[off + j]? = some v := by
        intro j v hj
        have hjn : j < n := by have := (List.getElem?_eq_some_iff.1 hj).1; simp at this; omega
        rw [List.getElem?_take_of_lt hjn, List.getElem?_drop] at hj
        refine ⟨?_, hjn, by simpa using hj⟩
        rw [Addr.add_lit]
        simp only [World.cell?, p4]
        simpa using hj
      refine ⟨_, run_load_agg hT hz hn ho e (by simp; omega) fun j v hj => (hcell j v hj).1, ⟨_, rfl, by simp; omega, fun k c u e1 e2 => ?_⟩⟩
      obtain ⟨g1, g2, g3⟩ := hcell k u e2
      rw [List.getElem?_take_of_lt g2, List.getElem?_drop] at e1
      have := p6 (off + k) c u e1 g3
      have hcc : c.cell = true := List.all_eq_true.1 h1.2 c (by
        have : ((cs.drop off).take n)[k]? = some c := by rw [List.getElem?_take_of_lt g2, List.getElem?_drop]; exact e1
        exact List.mem_of_getElem? this)
      exact ⟨this.1.to1 hcc, this.2⟩
    · cases h
  · cases h

theorem appendVec_sound (hT : TOk P) {c : Call} {t t' : TypeId} {y z : Operand} {b : AV} {j ver : Nat} (hc : c.callee = .builtin .append) (ha : c.args.toList = [y, z]) (hty : c.argTypes.toList = [t, t']) (htt : Nat.beq t t' = true) (hy : av y = some (.vec j ver)) (hz : av z = some b)
    {ρ : Type} {K : AV → St → Option ρ} {r : ρ} (h : appendVec P t j ver b s K = some r) : ∃ v s', K v s' = some r ∧ Sound2 P (.call c) ty av s v s' := by
  have hab := list2 ha
  have htb := list2 hty
  obtain rfl := beq_eq htt
  unfold appendVec at h
  split at h
  · cases h
  rename_i e he
  split at h
  · rename_i ys cur sz xs z0 hl hi hz0
    replace h := bif_some h; obtain ⟨h1, h⟩ := h
    replace h := bif_some h; obtain ⟨h2, h⟩ := h
    replace h := bif_some h; obtain ⟨h3, h⟩ := h
    simp only [Bool.and_eq_true] at h1
    have e1 := beq_eq h1.1.1.1
    have e2 := beq_eq h1.1.1.2
    subst e1
    exact ⟨_, _, h, s_append_vec (ty := ty) (s := s) hT hc hab htb he hz0 hy hz hl hi e2 (Nat.le_of_ble_eq_true h1.1.2) (blt_lt h1.2) h2 (by simpa [small] using h3)⟩
  · cases h
end
end Go.AL
