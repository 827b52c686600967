/- What is handed in has the shape of its type. -/
import Derived.Test.YtlmodlihiglnhaaALzg
set_option linter.unusedVariables false
set_option linter.unusedSimpArgs false
namespace Go.AL
open Go.RowKit

def Sh.same : Sh → Sh → Bool
  | .int k, .int k' => decide (k = k')
  | .bool, .bool => true
  | .str, .str => true
  | .lst, .lst => true
  | .raw, .raw => true
  | _, _ => false
theorem Sh.same_eq {s s' : Sh} (h : s.same s' = true) : s = s' := by
  cases s <;> cases s' <;> simp [Sh.same] at h ⊢
  exact h
def sameL : List Sh → List Sh → Bool
  | [], [] => true
  | a :: l, b :: k => a.same b && sameL l k
  | _, _ => false
theorem sameL_eq : ∀ {l k : List Sh}, sameL l k = true → l = k
  | [], [], _ => rfl
  | a :: l, b :: k, h => by
    simp only [sameL, Bool.and_eq_true] at h
    rw [Sh.same_eq h.1, sameL_eq h.2]
  | [], _ :: _, h => by cases h
  | _ :: _, [], h => by cases h

section
variable (P : Program)
def shTF (g : TypeId → Option (List Sh)) : List Field → Option (List Sh)
  | [] => some []
  | f :: fs => match g f.type, shTF g fs with
    | some a, some b => some (a ++ b)
    | _, _ => none
def shT : Nat → TypeId → Option (List Sh)
  | 0, _ => none
  | n + 1, t => match P.underlying t with
    | some .bool => some [.bool]
    | some (.int k) => some [.int k]
    | some .string => some [.str]
    | some (.slice _) => some [.lst]
    | some (.pointer _) => some [.raw]
    | some (.struct fs) => shTF (shT n) fs.toList
    | _ => none
def shapeOk (t : TypeId) : Bool :=
  match shT P 8 t with
  | some l => match shOf P t with
    | .agg l' => isStruct P t && sameL l l'
    | s => !isStruct P t && sameL l [s]
  | none => false
end

def Fit2 (l : List Sh) (pvs : List PV) : Prop := l.length = pvs.length ∧ ∀ (i : Nat) s p, l[i]? = some s → pvs[i]? = some p → s.fits p = true ∧ p.one = true
theorem Fit2.one {s : Sh} {p : PV} (h1 : s.fits p = true) (h2 : p.one = true) : Fit2 [s] [p] := ⟨rfl, fun i s' p' e1 e2 => by
  cases i with
  | zero => simp at e1 e2; subst e1; subst e2; exact ⟨h1, h2⟩
  | succ i => simp at e1⟩
theorem Fit2.append {l k : List Sh} {a b : List PV} (h : Fit2 l a) (g : Fit2 k b) : Fit2 (l ++ k) (a ++ b) := by
  refine ⟨by simp [h.1, g.1], fun i s p h1 h2 => ?_⟩
  by_cases hi : i < l.length
  · rw [List.getElem?_append_left hi] at h1
    rw [List.getElem?_append_left (by rw [← h.1]; exact hi)] at h2
    exact h.2 i s p h1 h2
  · rw [List.getElem?_append_right (by omega)] at h1
    rw [List.getElem?_append_right (by rw [← h.1]; omega), ← h.1] at h2
    exact g.2 _ s p h1 h2

theorem fit2_fitsL : ∀ {l : List Sh} {pvs : List PV}, Fit2 l pvs → Sh.fitsL l pvs true = true
  | [], [], _ => rfl
  | s :: l, p :: pvs, h => by
    obtain ⟨g1, g2⟩ := h.2 0 s p rfl rfl
    simp only [Sh.fitsL, g1, g2, Bool.not_true, Bool.false_or, Bool.true_and]
    exact fit2_fitsL ⟨by have := h.1; simpa using this, fun i s' p' e1 e2 => h.2 (i + 1) s' p' (by simpa using e1) (by simpa using e2)⟩
  | [], _ :: _, h => by have := h.1; simp at this
  | _ :: _, [], h => by have := h.1; simp at this

theorem fits_fit2 {P : Program} {t : TypeId} {pvs : List PV} (h : Fits P t pvs) : ∀ n l, shT P n t = some l → Fit2 l pvs := by
  refine Fits.rec (motive_1 := fun t pvs _ => ∀ n l, shT P n t = some l → Fit2 l pvs) (motive_2 := fun fs pvs _ => ∀ n l, shTF (shT P n) fs = some l → Fit2 l pvs) ?_ ?_ ?_ ?_ ?_ ?_ ?_ ?_ ?_ h
  · intro t b hu n l hl
    cases n with
    | zero => simp [shT] at hl
    | succ n => simp only [shT, hu] at hl; obtain rfl := Option.some.inj hl; exact .one rfl rfl
  · intro t k x hu hw n l hl
    cases n with
    | zero => simp [shT] at hl
    | succ n => simp only [shT, hu] at hl; obtain rfl := Option.some.inj hl; exact .one (by simp [Sh.fits]) rfl
  · intro t s hu _ n l hl
    cases n with
    | zero => simp [shT] at hl
    | succ n => simp only [shT, hu] at hl; obtain rfl := Option.some.inj hl; exact .one rfl rfl
  · intro t e hu n l hl
    cases n with
    | zero => simp [shT] at hl
    | succ n => simp only [shT, hu] at hl; obtain rfl := Option.some.inj hl; exact .one rfl rfl
  · intro t e cs hu _ _ n l hl
    cases n with
    | zero => simp [shT] at hl
    | succ n => simp only [shT, hu] at hl; obtain rfl := Option.some.inj hl; exact .one rfl rfl
  · intro t e xs hu _ _ _ _ n l hl
    cases n with
    | zero => simp [shT] at hl
    | succ n => simp only [shT, hu] at hl; obtain rfl := Option.some.inj hl; exact .one rfl rfl
  · intro t fs cs hu _ ih n l hl
    cases n with
    | zero => simp [shT] at hl
    | succ n => simp only [shT, hu] at hl; exact ih n l hl
  · intro n l hl
    simp only [shTF] at hl
    obtain rfl := Option.some.inj hl
    exact ⟨rfl, by simp⟩
  · intro f fs a b _ _ ih1 ih2 n l hl
    simp only [shTF] at hl
    split at hl
    · rename_i la lb h1 h2
      obtain rfl := Option.some.inj hl
      exact (ih1 n la h1).append (ih2 n lb h2)
    · cases hl

theorem fits_shape {P : Program} {S : List TypeId} (hS : closedT P S = true) {t : TypeId} (ht : t ∈ S) (ho : shapeOk P t = true) {pvs : List PV} (h : Fits P t pvs) : (shOf P t).fits (pvElem P t pvs) = true := by
  unfold shapeOk at ho
  split at ho
  · rename_i l hl
    have hf := fits_fit2 h 8 l hl
    split at ho
    · rename_i l' hs
      simp only [Bool.and_eq_true] at ho
      have := sameL_eq ho.2
      subst this
      rw [hs]
      unfold pvElem
      rw [ho.1]
      exact fit2_fitsL hf
    · rename_i s hne
      simp only [Bool.and_eq_true, Bool.not_eq_true'] at ho
      have := sameL_eq ho.2
      subst this
      unfold pvElem
      rw [ho.1]
      obtain ⟨p, rfl⟩ := h.agg_len hS ht ho.1
      exact (hf.2 0 _ p rfl rfl).1
  · cases ho
end Go.AL
