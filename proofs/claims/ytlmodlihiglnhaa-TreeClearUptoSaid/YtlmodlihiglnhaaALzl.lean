/- What is handed in, taken apart by its type. -/
import Derived.Test.YtlmodlihiglnhaaALzk
set_option linter.unusedVariables false
set_option linter.unusedSimpArgs false
namespace Go.AL
open Go.RowKit

section
variable {P : Program}
theorem fits_int {t : TypeId} {k : IntKind} (hu : P.underlying t = some (.int k)) {pvs : List PV} (h : Fits P t pvs) : ∃ n, pvs = [.int k n] ∧ (Lit.int k n).wf = true := by
  cases h with
  | int n hu' hw => rw [hu] at hu'; injection hu' with hu'; injection hu' with hu'; subst hu'; exact ⟨n, rfl, hw⟩
  | bool _ hu' => rw [hu] at hu'; cases hu'
  | str _ hu' => rw [hu] at hu'; cases hu'
  | nilp hu' => rw [hu] at hu'; cases hu'
  | ptr _ hu' => rw [hu] at hu'; cases hu'
  | lst _ hu' => rw [hu] at hu'; cases hu'
  | struct _ hu' => rw [hu] at hu'; cases hu'
theorem fits_boolT {t : TypeId} (hu : P.underlying t = some .bool) {pvs : List PV} (h : Fits P t pvs) : ∃ b, pvs = [.bool b] := by
  cases h with
  | bool b hu' => exact ⟨b, rfl⟩
  | int _ hu' _ => rw [hu] at hu'; cases hu'
  | str _ hu' => rw [hu] at hu'; cases hu'
  | nilp hu' => rw [hu] at hu'; cases hu'
  | ptr _ hu' => rw [hu] at hu'; cases hu'
  | lst _ hu' => rw [hu] at hu'; cases hu'
  | struct _ hu' => rw [hu] at hu'; cases hu'
theorem fits_str {t : TypeId} (hu : P.underlying t = some .string) {pvs : List PV} (h : Fits P t pvs) : ∃ s, pvs = [.str s] ∧ s.length ≤ reachBytes := by
  cases h with
  | str s hu' hl => exact ⟨s, rfl, hl⟩
  | int _ hu' _ => rw [hu] at hu'; cases hu'
  | bool _ hu' => rw [hu] at hu'; cases hu'
  | nilp hu' => rw [hu] at hu'; cases hu'
  | ptr _ hu' => rw [hu] at hu'; cases hu'
  | lst _ hu' => rw [hu] at hu'; cases hu'
  | struct _ hu' => rw [hu] at hu'; cases hu'
theorem fits_lst {t e : TypeId} (hu : P.underlying t = some (.slice e)) {pvs : List PV} (h : Fits P t pvs) : ∃ xs : List (List PV), pvs = [.lst (xs.map (pvElem P e))] ∧ xs.length * P.bytesOf e ≤ reachBytes ∧ xs.length ≤ maxLen ∧ ∀ x, x ∈ xs → Fits P e x := by
  cases h with
  | lst xs hu' h1 h2 h3 => rw [hu] at hu'; injection hu' with hu'; injection hu' with hu'; subst hu'; exact ⟨xs, rfl, h1, h2, h3⟩
  | str _ hu' => rw [hu] at hu'; cases hu'
  | int _ hu' _ => rw [hu] at hu'; cases hu'
  | bool _ hu' => rw [hu] at hu'; cases hu'
  | nilp hu' => rw [hu] at hu'; cases hu'
  | ptr _ hu' => rw [hu] at hu'; cases hu'
  | struct _ hu' => rw [hu] at hu'; cases hu'
theorem fits_struct {t : TypeId} {fs : Array Field} (hu : P.underlying t = some (.struct fs)) {pvs : List PV} (h : Fits P t pvs) : FitsF P fs.toList pvs := by
  cases h with
  | struct _ hu' h1 => rw [hu] at hu'; injection hu' with hu'; injection hu' with hu'; subst hu'; exact h1
  | str _ hu' => rw [hu] at hu'; cases hu'
  | int _ hu' _ => rw [hu] at hu'; cases hu'
  | bool _ hu' => rw [hu] at hu'; cases hu'
  | nilp hu' => rw [hu] at hu'; cases hu'
  | ptr _ hu' => rw [hu] at hu'; cases hu'
  | lst _ hu' => rw [hu] at hu'; cases hu'
def ftypes (P : Program) (t : TypeId) : Option (List TypeId) := match P.underlying t with | some (.struct fs) => some (fs.toList.map (·.type)) | _ => none
inductive Parts (P : Program) : List TypeId → List PV → Prop where
  | nil : Parts P [] []
  | cons {t : TypeId} {ts : List TypeId} {a b : List PV} : Fits P t a → Parts P ts b → Parts P (t :: ts) (a ++ b)
theorem parts_of : ∀ {fs : List Field} {pvs : List PV}, FitsF P fs pvs → Parts P (fs.map (·.type)) pvs
  | [], _, h => by cases h; exact .nil
  | f :: fs, _, h => by cases h with | cons h1 h2 => exact .cons h1 (parts_of h2)
theorem fits_parts {t : TypeId} {ts : List TypeId} (h : ftypes P t = some ts) {pvs : List PV} (hf : Fits P t pvs) : Parts P ts pvs := by
  unfold ftypes at h
  split at h
  · rename_i fs hu
    obtain rfl := Option.some.inj h
    exact parts_of (fits_struct hu hf)
  · cases h
theorem Parts.c1 {t : TypeId} {ts : List TypeId} {pvs : List PV} (h : Parts P (t :: ts) pvs) : ∃ a b, pvs = a ++ b ∧ Fits P t a ∧ Parts P ts b := by
  cases h with | cons h1 h2 => exact ⟨_, _, rfl, h1, h2⟩
theorem Parts.c0 {pvs : List PV} (h : Parts P [] pvs) : pvs = [] := by cases h; rfl

theorem list_of {α β : Type} {f : β → α} {Q : β → Prop} : ∀ {l : List α}, (∀ x, x ∈ l → ∃ y, x = f y ∧ Q y) → ∃ ys : List β, l = ys.map f ∧ ∀ y, y ∈ ys → Q y
  | [], _ => ⟨[], rfl, by simp⟩
  | a :: l, h => by
    obtain ⟨y, h1, h2⟩ := h a (by simp)
    obtain ⟨ys, h3, h4⟩ := list_of (l := l) fun x hx => h x (by simp [hx])
    exact ⟨y :: ys, by rw [h1, h3]; rfl, fun z hz => by rcases List.mem_cons.1 hz with rfl | hz; exact h2; exact h4 z hz⟩

/-- A list whose elements have a form. -/
theorem lst_of {t e : TypeId} (hu : P.underlying t = some (.slice e)) {α : Type} {f : α → PV} {Q : α → Prop} (he : ∀ pvs, Fits P e pvs → ∃ x, pvElem P e pvs = f x ∧ Q x) {pvs : List PV} (h : Fits P t pvs) :
    ∃ xs : List α, pvs = [.lst (xs.map f)] ∧ xs.length ≤ maxLen ∧ xs.length * P.bytesOf e ≤ reachBytes ∧ ∀ x, x ∈ xs → Q x := by
  obtain ⟨xs, rfl, h1, h2, h3⟩ := fits_lst hu h
  obtain ⟨ys, e1, e2⟩ := list_of (l := xs.map (pvElem P e)) (f := f) (Q := Q) fun p hp => by
    obtain ⟨x, hx, rfl⟩ := List.mem_map.1 hp
    exact he x (h3 x hx)
  have hl : xs.length = ys.length := by have := congrArg List.length e1; simpa using this
  exact ⟨ys, by rw [e1], by rw [← hl]; exact h2, by rw [← hl]; exact h1, e2⟩
/-- The same, as an element, or an argument. -/
theorem elem_lst {t e : TypeId} (hu : P.underlying t = some (.slice e)) {α : Type} {f : α → PV} {Q : α → Prop} (he : ∀ pvs, Fits P e pvs → ∃ x, pvElem P e pvs = f x ∧ Q x) {pvs : List PV} (h : Fits P t pvs) :
    ∃ xs : List α, pvElem P t pvs = .lst (xs.map f) ∧ xs.length ≤ maxLen ∧ xs.length * P.bytesOf e ≤ reachBytes ∧ ∀ x, x ∈ xs → Q x := by
  obtain ⟨xs, rfl, h2⟩ := lst_of hu he h
  exact ⟨xs, by unfold pvElem isStruct; rw [hu]; rfl, h2⟩
theorem elem_int {t : TypeId} {k : IntKind} (hu : P.underlying t = some (.int k)) {pvs : List PV} (h : Fits P t pvs) : ∃ n, pvElem P t pvs = .int k n ∧ (Lit.int k n).wf = true := by
  obtain ⟨n, rfl, hw⟩ := fits_int hu h
  exact ⟨n, by unfold pvElem isStruct; rw [hu]; rfl, hw⟩
theorem elem_str {t : TypeId} (hu : P.underlying t = some .string) {pvs : List PV} (h : Fits P t pvs) : ∃ s, pvElem P t pvs = .str s ∧ s.length ≤ reachBytes := by
  obtain ⟨n, rfl, hw⟩ := fits_str hu h
  exact ⟨n, by unfold pvElem isStruct; rw [hu]; rfl, hw⟩
theorem elem_struct {t : TypeId} (h : isStruct P t = true) (pvs : List PV) : pvElem P t pvs = .agg pvs := by unfold pvElem; rw [h]; rfl
end
end Go.AL
