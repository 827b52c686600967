/- Cells written one behind another are a row written whole. -/
import Derived.Test.YtlmodlihiglnhaaAL4
import Derived.Laws.IdiomCopy
set_option linter.unusedVariables false
set_option linter.unusedSimpArgs false
namespace Go.AL
open Go Go.AL

theorem setRow_row (w : World) (b : Nat) (c d : Array Value) : (w.setRow b c).setRow b d = w.setRow b d := by
  unfold World.setRow
  simp only [World.mk.injEq, true_and, and_true]
  apply Array.ext_getElem?
  intro k
  rw [Array.getElem?_modify, Array.getElem?_modify, Array.getElem?_modify]
  by_cases hk : b = k
  · subst hk
    simp only [if_true]
    cases w.heap[b]? with
    | none => rfl
    | some o => cases o <;> rfl
  · simp only [if_neg hk]
theorem setCell_row {w : World} {b o : Nat} {ws : Array Value} {T : TypeId} {z : Nat × Nat} (v : Value) (h : w.heap[b]? = some (.cells ws T z)) : w.setCell ⟨b, o, none⟩ v = w.setRow b (ws.setIfInBounds o v) := by
  unfold World.setCell World.setRow
  simp only [World.mk.injEq, true_and, and_true]
  apply Array.ext_getElem?
  intro k
  rw [Array.getElem?_modify, Array.getElem?_modify]
  by_cases hk : b = k
  · subst hk
    simp only [if_true, h]
    rfl
  · simp only [if_neg hk]
theorem setCells_row {b : Nat} {T : TypeId} {z : Nat × Nat} : ∀ (l : List Value) (o : Nat) (w : World) (ws : Array Value), w.heap[b]? = some (.cells ws T z) → o + l.length ≤ ws.size →
    ∃ ws', w.setCells b o l = w.setRow b ws' ∧ ws'.size = ws.size ∧ ∀ k, ws'[k]? = if o ≤ k ∧ k < o + l.length then l[k - o]? else ws[k]?
  | [], o, w, ws, h, _ => by
    refine ⟨ws, ?_, rfl, fun k => by rw [if_neg (fun h => by simp at h; omega)]⟩
    show w = w.setRow b ws
    rw [setRow_eq w b ws ws T z h]
    have : w.heap.setIfInBounds b (.cells ws T z) = w.heap := by
      apply Array.ext_getElem?
      intro k
      rw [Array.getElem?_setIfInBounds]
      by_cases hk : b = k
      · subst hk
        rw [if_pos rfl, h, if_pos (Array.getElem?_eq_some_iff.1 h).1]
      · rw [if_neg hk]
    rw [this]
  | v :: l, o, w, ws, h, hl => by
    simp only [List.length_cons] at hl
    have h1 := setCell_row (o := o) v h
    have h2 : (w.setRow b (ws.setIfInBounds o v)).heap[b]? = some (.cells (ws.setIfInBounds o v) T z) := setRow_heap w b ws _ T z h
    obtain ⟨ws', e1, e2, e3⟩ := setCells_row l (o + 1) (w.setRow b (ws.setIfInBounds o v)) (ws.setIfInBounds o v) h2 (by simp; omega)
    refine ⟨ws', ?_, by rw [e2]; simp, fun k => ?_⟩
    · show (w.setCell ⟨b, o, none⟩ v).setCells b (o + 1) l = _
      rw [h1, e1, setRow_row]
    · rw [e3 k, Array.getElem?_setIfInBounds]
      by_cases hk : o = k
      · subst hk
        rw [if_neg (by omega), if_pos rfl, if_pos (by omega), if_pos (by simp)]
        simp
      · rw [if_neg hk]
        by_cases h5 : o + 1 ≤ k ∧ k < o + 1 + l.length
        · rw [if_pos h5, if_pos (by simp; omega), show k - o = (k - (o + 1)) + 1 by omega, List.getElem?_cons_succ]
        · rw [if_neg h5, if_neg (by simp; omega)]
end Go.AL
