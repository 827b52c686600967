/- Operations that depend on their operands alone: slices, strings, tuples, closures. -/
import Derived.Test.YtlmodlihiglnhaaALg
set_option linter.unusedVariables false
set_option linter.unusedSimpArgs false
namespace Go.AL
open Go.RowKit

theorem setAt_append_right {α : Type} (us : List α) : ∀ (a b : List α) (off : Nat), a.length ≤ off → setAt (a ++ b) off us = a ++ setAt b (off - a.length) us := by
  induction us with
  | nil => intro a b off h; rfl
  | cons u us ih =>
    intro a b off h
    simp only [setAt]
    rw [List.set_append_right _ _ h, ih a _ (off + 1) (by omega), show off + 1 - a.length = off - a.length + 1 by omega]

theorem setAt_head {α : Type} (us : List α) : ∀ (a b : List α), us.length = a.length → setAt (a ++ b) 0 us = us ++ b := by
  have : ∀ (us pre a b : List α), us.length = a.length → setAt (pre ++ (a ++ b)) pre.length us = pre ++ (us ++ b) := by
    intro us
    induction us with
    | nil => intro pre a b h; have : a = [] := List.eq_nil_of_length_eq_zero h.symm; subst this; rfl
    | cons u us ih =>
      intro pre a b h
      cases a with
      | nil => simp at h
      | cons x a =>
        simp only [setAt]
        have e : (pre ++ (x :: a ++ b)).set pre.length u = (pre ++ [u]) ++ (a ++ b) := by
          rw [List.set_append_right _ _ (Nat.le_refl _)]; simp
        rw [e]
        have := ih (pre ++ [u]) a b (by simpa using h)
        simpa using this
  intro a b h
  simpa using this us [] a b h

theorem flat_set {sz : Nat} : ∀ {xs : List PV}, (∀ x, x ∈ xs → x.cells.length = sz) → ∀ {i : Nat} {p : PV}, p.cells.length = sz → i < xs.length → setAt (flat xs) (i * sz) p.cells = flat (xs.set i p)
  | [], _, i, p, _, h => by simp at h
  | a :: xs, hs, i, p, hp, h => by
    have ha := hs a (by simp)
    cases i with
    | zero =>
      simp only [flat, List.flatMap_cons, Nat.zero_mul, List.set_cons_zero]
      exact setAt_head _ _ _ (by rw [hp, ha])
    | succ i =>
      simp only [flat, List.flatMap_cons, List.set_cons_succ]
      rw [setAt_append_right _ _ _ _ (by rw [ha, Nat.succ_mul]; omega), ha, show (i + 1) * sz - sz = i * sz from by rw [Nat.succ_mul]; omega]
      congr 1
      exact flat_set (fun z hz => hs z (by simp [hz])) hp (by simpa using h)

theorem fillE_fillP {sz : Nat} : ∀ {pts : List (Nat × PV)} {xs out : List PV}, (∀ x, x ∈ xs → x.cells.length = sz) → fillE sz xs pts = some out →
    fillP (fun i => some (i * sz, sz)) (flat xs) pts = some (flat out) ∧ (∀ x, x ∈ out → x.cells.length = sz) ∧ out.length = xs.length
  | [], xs, out, hs, h => by obtain rfl := Option.some.inj h; exact ⟨rfl, hs, rfl⟩
  | (i, p) :: pts, xs, out, hs, h => by
    simp only [fillE] at h
    cases hb : Nat.beq p.cells.length sz && Nat.blt i xs.length with
    | false => rw [hb] at h; cases h
    | true =>
      rw [hb] at h
      simp only [cond_true] at h
      simp only [Bool.and_eq_true] at hb
      have e1 := beq_eq hb.1
      have e2 := blt_lt hb.2
      have hs' : ∀ x, x ∈ xs.set i p → x.cells.length = sz := fun x hx => by
        rcases List.mem_or_eq_of_mem_set hx with hx | rfl
        · exact hs x hx
        · exact e1
      obtain ⟨g1, g2, g3⟩ := fillE_fillP hs' h
      refine ⟨?_, g2, by simpa using g3⟩
      simp only [fillP, e1]
      have hle : i * sz + sz ≤ (flat xs).length := by
        rw [length_flat hs]
        calc i * sz + sz = (i + 1) * sz := by rw [Nat.succ_mul]
          _ ≤ xs.length * sz := Nat.mul_le_mul_right _ e2
      rw [show (Nat.beq sz sz && Nat.ble (i * sz + sz) (flat xs).length) = true from by
        simp only [Bool.and_eq_true]; exact ⟨Nat.beq_refl sz, Nat.ble_eq_true_of_le hle⟩]
      simp only [cond_true]
      rw [flat_set hs e1 e2]
      exact g1

theorem flat_replicate_get {z : PV} {n i : Nat} {y : PV} (h0 : 0 < z.cells.length) (h : (flat (List.replicate n z))[i]? = some y) : z.cells[i % z.cells.length]? = some y := by
  have hs : ∀ x, x ∈ List.replicate n z → x.cells.length = z.cells.length := fun x hx => by rw [(List.mem_replicate.1 hx).2]
  have hi : i < (flat (List.replicate n z)).length := (List.getElem?_eq_some_iff.1 h).1
  rw [length_flat hs, List.length_replicate] at hi
  have hj : i / z.cells.length < n := Nat.div_lt_of_lt_mul (by rw [Nat.mul_comm]; exact hi)
  have hk : i % z.cells.length < z.cells.length := Nat.mod_lt _ h0
  have e := flat_get hs (j := i / z.cells.length) (k := i % z.cells.length) (x := z) (y := z.cells[i % z.cells.length]) (by simp [hj]) (List.getElem?_eq_getElem hk)
  rw [show i / z.cells.length * z.cells.length + i % z.cells.length = i from by rw [Nat.mul_comm]; exact Nat.div_add_mod _ _] at e
  rw [e] at h
  rw [List.getElem?_eq_getElem hk]
  exact h

section
variable {P : Program} {av : Av} {ty : TypeId}

theorem run_zeroPV (hT : TOk P) {t : TypeId} {z : PV} (h : zeroPV P t = some z) (w : World) : ∃ i zv, P.types[t]? = some i ∧ i.zero = some zv ∧ (zeroValue t).run P w = .ok zv w ∧ ofConst zv = some z ∧ zv.cells.size = i.size := by
  unfold zeroPV at h
  split at h
  · rename_i i hi
    split at h
    · rename_i zv hz
      exact ⟨i, zv, hi, hz, by simp [zeroValue, typeInfo, info_of hi, hz], h, hT.size t i zv hi hz⟩
    · cases h
  · cases h

theorem ofConst_tup {v : Value} {p : PV} (h : ofConst v = some p) : ∀ cs, p ≠ .tup cs := by
  intro cs e
  subst e
  unfold ofConst at h
  split at h
  · split at h <;> simp at h
  · unfold ofCell at h; split at h <;> simp at h

theorem CRel.zeros {M : Mem} {zv : Value} {z : PV} (h : ofConst zv = some z) (n : Nat) (h0 : 0 < zv.cells.size) :
    CRel M (flat (List.replicate n z)) (((Array.range (n * zv.cells.size)).map (zv.cells[· % zv.cells.size]!)).toList) ∧ z.cells.length = zv.cells.size := by
  have hc := cells_rel (M := M) (ofConst_rep h) (ofConst_tup h)
  have hl : z.cells.length = zv.cells.size := by have := hc.1; simp at this; omega
  have hs : ∀ x, x ∈ List.replicate n z → x.cells.length = z.cells.length := fun x hx => by rw [(List.mem_replicate.1 hx).2]
  refine ⟨⟨by simp [length_flat hs, hl], fun i p v h1 h2 => ?_⟩, hl⟩
  have g := flat_replicate_get (by omega) h1
  have hi : i < (flat (List.replicate n z)).length := (List.getElem?_eq_some_iff.1 h1).1
  rw [length_flat hs, List.length_replicate, hl] at hi
  simp [hi] at h2
  rw [hl] at g
  have hm : i % zv.cells.size < zv.cells.size := Nat.mod_lt _ h0
  exact hc.2 _ p v g (by rw [← h2]; simp [hm])

theorem elemT_eq {t e : TypeId} (h : elemT P t = some e) : P.underlying t = some (.slice e) := by
  unfold elemT at h
  split at h
  · rename_i e' he; obtain rfl := Option.some.inj h; exact he
  · cases h

/-- What a slice's literal leaves: its cells. -/
theorem run_buildSlice (hT : TOk P) {G : Gh} {s : St} {a : Act} (hA : Avs av G s a) {t e : TypeId} {n : Nat} {parts : Array (Nat × Operand)} {z : PV} {ps : List (Nat × PV)} {xs : List PV} (h1 : elemT P t = some e) (h2 : zeroPV P e = some z)
    (h3 : partsPV av parts.toList = some ps) (h4 : n * sizeT P e ≤ 65536) (h0 : 0 < sizeT P e) (h5 : fillE (sizeT P e) (List.replicate n z) ps = some xs) (w : World) (o : Oper) (ho : o.op = .buildSlice t n parts) :
    ∃ cells : Array Value, (execOp a.eval o).run P w = .ok (.value (.slice (some ⟨w.heap.size, 0, none⟩) n n)) (w.alloc (.cells cells e)) ∧ CRel G.M (flat xs) cells.toList ∧ (∀ x, x ∈ xs → x.cells.length = sizeT P e) ∧ xs.length = n := by
  obtain ⟨i, zv, hi, hz, hrun, hof, hsz⟩ := run_zeroPV hT h2 w
  have hse : sizeT P e = i.size := by simp [sizeT, hi]
  have hp0 : 0 < zv.cells.size := by omega
  obtain ⟨hc, hzl⟩ := CRel.zeros (M := G.M) hof n hp0
  have hs : ∀ x, x ∈ List.replicate n z → x.cells.length = sizeT P e := fun x hx => by rw [(List.mem_replicate.1 hx).2]; omega
  obtain ⟨g1, g2, g3⟩ := fillE_fillP hs h5
  have hpr := pts_rel hA h3
  obtain ⟨res, r1, r2⟩ := fill_rel (M := G.M) (place' := fun j => some (j * sizeT P e, sizeT P e)) (fun _ => rfl) hpr hc g1
  refine ⟨res, ?_, r2, g2, by simpa using g3⟩
  have hm : (parts.map fun x => (x.1, a.eval x.2)).toList = parts.toList.map fun x => (x.1, a.eval x.2) := by simp
  have hnot : ¬ (n * i.size > 2 ^ 24) := by rw [← hse]; omega
  simp only [execOp, ho, Instr.buildSlice]
  by_cases hn : n = 0
  · subst hn
    simp only [Nat.zero_mul] at r1
    simp [run_underlying (elemT_eq h1), run_sizeOf' hi, newRow]
    rw [hse, hsz] at r1
    have hr : (Array.map (fun x => zv.cells[x % i.size]!) (Array.range 0)) = (Array.map (fun x => (default : Value)) (Array.range 0)) := by simp
    rw [hr] at r1
    simp only [r1]
    simp
  · have hne : ¬ (n * i.size = 0) := by
      have : 0 < n * i.size := Nat.mul_pos (by omega) (by omega)
      omega
    rw [hse] at r1
    rw [hsz] at r1
    have hne' : ¬ (n = 0 ∨ i.size = 0) := by omega
    simp [run_underlying (elemT_eq h1), run_sizeOf' hi, hnot, hne', hrun, newRow, hm]
    simp [hsz, r1]
    exact fun h => absurd h hne

theorem s_buildSlice (hT : TOk P) {t e : TypeId} {n : Nat} {parts : Array (Nat × Operand)} {z : PV} {ps : List (Nat × PV)} {xs : List PV} (h1 : elemT P t = some e) (h2 : zeroPV P e = some z)
    (h3 : partsPV av parts.toList = some ps) (h4 : n * sizeT P e ≤ 65536) (h0 : 0 < sizeT P e) (h5 : fillE (sizeT P e) (List.replicate n z) ps = some xs) : Sound1 P (.buildSlice t n parts) ty av (.pv (.lst xs)) := by
  intro F w0 M0 G s a w o hS hA ho _
  obtain ⟨cells, g1, g2, g3, rfl⟩ := run_buildSlice hT hA h1 h2 h3 h4 h0 h5 w o ho
  obtain ⟨G', k1, k2, k3⟩ := hS.newPlain (xs := xs) h0 g3 e (vs := cells) (by have := g2.1; simp at this; omega) (fun i p v e1 e2 => g2.2 i p v e1 (by simpa using e2)) xs.length (Nat.le_refl _)
  exact OpTo.value g1 ⟨G', k1, k2, k3⟩
end
end Go.AL
