/- New memory: a row that never changes, a box, a vector, a builder. -/
import Derived.Test.YtlmodlihiglnhaaALf
set_option linter.unusedVariables false
set_option linter.unusedSimpArgs false
namespace Go.AL
open Go.RowKit

def flat (xs : List PV) : List PV := xs.flatMap PV.cells

theorem flat_get {sz : Nat} : ∀ {xs : List PV}, (∀ x, x ∈ xs → x.cells.length = sz) → ∀ {j k : Nat} {x y : PV}, xs[j]? = some x → x.cells[k]? = some y → (flat xs)[j * sz + k]? = some y
  | [], _, j, k, x, y, h, _ => by simp at h
  | a :: xs, hs, j, k, x, y, h1, h2 => by
    have ha := hs a (by simp)
    cases j with
    | zero =>
      simp at h1; subst h1
      have hk : k < a.cells.length := (List.getElem?_eq_some_iff.1 h2).1
      simp only [flat, List.flatMap_cons, Nat.zero_mul, Nat.zero_add]
      rw [List.getElem?_append_left hk]; exact h2
    | succ j =>
      simp only [List.getElem?_cons_succ] at h1
      simp only [flat, List.flatMap_cons]
      rw [List.getElem?_append_right (by rw [ha, Nat.succ_mul]; omega), ha, show (j + 1) * sz + k - sz = j * sz + k from by rw [Nat.succ_mul]; omega]
      exact flat_get (fun z hz => hs z (by simp [hz])) h1 h2

theorem length_flat {sz : Nat} : ∀ {xs : List PV}, (∀ x, x ∈ xs → x.cells.length = sz) → (flat xs).length = xs.length * sz
  | [], _ => by simp [flat]
  | a :: xs, hs => by
    have := length_flat (xs := xs) (fun z hz => hs z (by simp [hz]))
    simp only [flat, List.flatMap_cons, List.length_append, List.length_cons] at this ⊢
    rw [hs a (by simp), this, Nat.succ_mul]; omega

theorem CRel.one {M : Mem} {ps : List PV} {vs : List Value} (h : CRel M ps vs) {i : Nat} {v : Value} (hi : i < ps.length) (hv : vs[i]? = some v) : v.oneCell' = true := by
  obtain ⟨g1, g2⟩ := h.2 i ps[i] v (List.getElem?_eq_getElem hi) hv
  exact g1.one g2

section
variable {F : Nat → Prop} {w0 : World} {M0 : Mem} {G : Gh} {s : St} {w : World}

theorem heap_alloc_lt (w : World) (ob : Obj) {k : Nat} (h : k < w.heap.size) : (w.alloc ob).heap[k]? = w.heap[k]? := by
  show (w.heap.push ob)[k]? = _
  rw [Array.getElem?_push, if_neg (by omega)]

theorem M_lt (h : SRel F w0 M0 G s w) {a : Addr} {v : Value} (hM : G.M a = some v) : a.block < w.heap.size := World.block_lt_of_cell? w a (h.agree a v hM)

theorem SRel.alloc (h : SRel F w0 M0 G s w) (ob : Obj) : SRel F w0 M0 G s (w.alloc ob) where
  os := h.os
  tape := h.tape
  output := h.output
  size := by have := h.size; simp; omega
  old k hk hF := by rw [heap_alloc_lt w ob (by have := h.size; omega)]; exact h.old k hk hF
  agree a v hM := by rw [World.cell?_alloc_lt _ _ _ (M_lt h hM)]; exact h.agree a v hM
  base := h.base
  newM := h.newM
  own b hb := by have := h.own b hb; exact ⟨by simp; omega, this.2⟩
  ownM := h.ownM
  bx i z cs b h1 h2 := by
    obtain ⟨q1, q2, q3, vs, T, q4, q5⟩ := h.bx i z cs b h1 h2
    exact ⟨q1, by simp; omega, q3, vs, T, by rw [heap_alloc_lt w ob q2]; exact q4, q5⟩
  vc i ver sz xs h1 := by
    obtain ⟨q0, q1, q2⟩ := h.vc i ver sz xs h1
    refine ⟨q0, q1, ?_⟩
    rcases q2 with q2 | ⟨b, o, vs, T, g1, g2, g3, g4⟩
    · exact .inl q2
    · exact .inr ⟨b, o, vs, T, g1, g2, by rw [heap_alloc_lt w ob (h.own b (by rw [g2]; simp)).1]; exact g3, g4⟩
  tp i e h1 := by
    obtain ⟨q0, q2⟩ := h.tp i e h1
    refine ⟨q0, ?_⟩
    rcases q2 with q2 | ⟨b, o, vs, T, g1, g2, g3, g4⟩
    · exact .inl q2
    · exact .inr ⟨b, o, vs, T, g1, g2, by rw [heap_alloc_lt w ob (h.own b (by rw [g2]; simp)).1]; exact g3, g4⟩

theorem heap_alloc_new' (w : World) (ob : Obj) : (w.alloc ob).heap[w.heap.size]? = some ob := by
  show (w.heap.push ob)[w.heap.size]? = _
  simp

/-- A new row: its first cells never change. 'tip': whose tail it has, if anyone's. -/
theorem SRel.newRow (h : SRel F w0 M0 G s w) {xs : List PV} {sz : Nat} (hsz : 0 < sz) (hs : ∀ x, x ∈ xs → x.cells.length = sz) {vs : Array Value} (T : TypeId)
    (hle : (flat xs).length ≤ vs.size) (hc : ∀ (i : Nat) p v, (flat xs)[i]? = some p → vs[i]? = some v → PRep G.M p v ∧ p.one = true) (cap : Nat) (hcap : xs.length ≤ cap) :
    ∃ M', G.M.le M' ∧ (∀ a v, M' a = some v → G.M a = some v ∨ (a.block = w.heap.size ∧ a.off < xs.length * sz)) ∧
      (∀ a v, M' a = some v → (w.alloc (.cells vs T)).cell? a = some v) ∧ PRep M' (.lst xs) (.slice (some ⟨w.heap.size, 0, none⟩) xs.length cap) := by
  let M' : Mem := fun a => if a.block = w.heap.size ∧ a.spot = none ∧ a.off < (flat xs).length then vs[a.off]? else G.M a
  have hM : G.M.le M' := fun a v e => by
    have := M_lt h e
    simp only [M']
    rw [if_neg (by omega)]; exact e
  refine ⟨M', hM, fun a v e => ?_, fun a v e => ?_, ?_⟩
  · simp only [M'] at e
    split at e
    · rename_i hcnd; exact .inr ⟨hcnd.1, by rw [← length_flat hs]; exact hcnd.2.2⟩
    · exact .inl e
  · simp only [M'] at e
    split at e
    · rename_i hcnd
      obtain ⟨b, off, spot⟩ := a
      obtain ⟨rfl, rfl, h3⟩ := hcnd
      simpa using e
    · rw [World.cell?_alloc_lt _ _ _ (M_lt h e)]; exact h.agree a v e
  · have hget : ∀ {i : Nat} {y : PV}, (flat xs)[i]? = some y → M' ⟨w.heap.size, i, none⟩ = some (vs.getD i undef) ∧ PRep M' y (vs.getD i undef) := by
      intro i y hy
      have hi : i < (flat xs).length := (List.getElem?_eq_some_iff.1 hy).1
      have hv : vs[i]? = some (vs.getD i undef) := by simp [Array.getD, show i < vs.size by omega]
      refine ⟨?_, (hc i y _ hy hv).1.mono hM⟩
      show (if w.heap.size = w.heap.size ∧ (none : Option Nat) = none ∧ i < (flat xs).length then vs[i]? else _) = _
      rw [if_pos ⟨rfl, rfl, hi⟩]; exact hv
    refine .lst xs _ cap sz (fun j k => vs.getD (j * sz + k) undef) hsz hcap hs ?_ (by simp) ?_ ?_
    · intro x hx y hy
      obtain ⟨j, hj, rfl⟩ := List.mem_iff_getElem.1 hx
      obtain ⟨k, hk, rfl⟩ := List.mem_iff_getElem.1 hy
      have := flat_get hs (List.getElem?_eq_getElem hj) (List.getElem?_eq_getElem hk)
      have hi : j * sz + k < (flat xs).length := (List.getElem?_eq_some_iff.1 this).1
      exact (hc _ _ vs[j * sz + k] this (Array.getElem?_eq_getElem (by omega))).2
    · intro ad had j x k y h1 h2
      obtain rfl := Option.some.inj had
      rw [Addr.add_lit, Nat.zero_add]
      exact (hget (flat_get hs h1 h2)).1
    · intro j x k y h1 h2
      exact (hget (flat_get hs h1 h2)).2

/-- It is nobody's: plain memory. -/
theorem SRel.newPlain (h : SRel F w0 M0 G s w) {xs : List PV} {sz : Nat} (hsz : 0 < sz) (hs : ∀ x, x ∈ xs → x.cells.length = sz) {vs : Array Value} (T : TypeId)
    (hle : (flat xs).length ≤ vs.size) (hc : ∀ (i : Nat) p v, (flat xs)[i]? = some p → vs[i]? = some v → PRep G.M p v ∧ p.one = true) (cap : Nat) (hcap : xs.length ≤ cap) :
    ∃ G', SRel F w0 M0 G' s (w.alloc (.cells vs T)) ∧ Ext G s G' s ∧ PRep G'.M (.lst xs) (.slice (some ⟨w.heap.size, 0, none⟩) xs.length cap) := by
  obtain ⟨M', g1, g2, g3, g4⟩ := h.newRow hsz hs T hle hc cap hcap
  have ha := h.alloc (.cells vs T)
  have he : Ext G s { G with M := M' } s := ⟨g1, Nat.le_refl _, Nat.le_refl _, Nat.le_refl _, fun _ _ _ h => h, fun i _ cur xs h => ⟨cur, xs, h, Nat.le_refl _, fun _ => ⟨rfl, rfl⟩⟩, fun i _ cur h => ⟨cur, h, Nat.le_refl _, fun _ => rfl⟩⟩
  refine ⟨{ G with M := M' }, ⟨ha.os, ha.tape, ha.output, ha.size, ha.old, g3, Mem.le_trans h.base g1, ?_, ha.own, ?_, ?_, ?_, ha.tp⟩, he, g4⟩
  · intro a v e
    rcases g2 a v e with e | ⟨e, _⟩
    · exact h.newM a v e
    · exact .inr (.inl (by rw [e]; exact h.size))
  · intro a v e
    rcases g2 a v e with e | ⟨e, _⟩
    · exact h.ownM a v e
    · left
      rw [e]
      cases ho : G.own w.heap.size with
      | free => rfl
      | _ => have := (h.own w.heap.size (by rw [ho]; simp)).1; omega
  · intro i z cs b h1 h2
    obtain ⟨q1, q2, q3, us, T', q4, q5, q6⟩ := ha.bx i z cs b h1 h2
    exact ⟨q1, q2, q3, us, T', q4, q5, fun k c v hk hv => ⟨(q6 k c v hk hv).1.ext he, (q6 k c v hk hv).2⟩⟩
  · intro i ver sz ys h1
    obtain ⟨q0, q1, q2⟩ := ha.vc i ver sz ys h1
    refine ⟨q0, q1, ?_⟩
    rcases q2 with q2 | ⟨b, o, us, T', k1, k2, k3, k4, k5, k6⟩
    · exact .inl q2
    · exact .inr ⟨b, o, us, T', k1, k2, k3, k4, k5, fun j x k y e1 e2 => by obtain ⟨v, e3, e4⟩ := k6 j x k y e1 e2; exact ⟨v, e3, e4.mono g1⟩⟩
end
end Go.AL
