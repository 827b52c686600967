/- Regions whose order is drawn: every order. -/
import Derived.Test.YtlmodlihiglnhaaALza
set_option linter.unusedVariables false
set_option linter.unusedSimpArgs false
namespace Go.AL
open Go.RowKit

theorem ons_mem {l : List Edge} {j : Nat} : j ∈ ons l ↔ ∃ e, e ∈ l ∧ Region.binds .any e = true ∧ e.on = j := by
  induction l with
  | nil => simp [ons]
  | cons e l ih =>
    simp only [ons]
    cases hb : Region.binds .any e with
    | true => simp only [cond_true, List.mem_cons, ih]; constructor
              · rintro (rfl | ⟨e', h1, h2⟩)
                · exact ⟨e, .inl rfl, hb, rfl⟩
                · exact ⟨e', .inr h1, h2⟩
              · rintro ⟨e', rfl | h1, h2, h3⟩
                · exact .inl h3.symm
                · exact .inr ⟨e', h1, h2, h3⟩
    | false => simp only [cond_false, List.mem_cons, ih]; constructor
               · rintro ⟨e', h1, h2⟩; exact ⟨e', .inr h1, h2⟩
               · rintro ⟨e', rfl | h1, h2, h3⟩
                 · rw [hb] at h2; cases h2
                 · exact ⟨e', h1, h2, h3⟩

theorem preOf_mem {acc : List (List Nat)} {l : List Nat} {j : Nat} (h : j ∈ preOf acc l) : ∃ i, i ∈ l ∧ (j = i ∨ j ∈ acc.getD i []) := by
  induction l with
  | nil => cases h
  | cons a l ih =>
    simp only [preOf, List.mem_cons, List.mem_append] at h
    rcases h with rfl | h | h
    · exact ⟨j, by simp, .inl rfl⟩
    · exact ⟨a, by simp, .inr h⟩
    · obtain ⟨i, h1, h2⟩ := ih h
      exact ⟨i, by simp [h1], h2⟩

theorem pres_spec : ∀ (l : List Oper) (acc : List (List Nat)), (∀ i, i < acc.length → (pres acc l).getD i [] = acc.getD i []) ∧
    ∀ (k : Nat) o, l[k]? = some o → ∀ j, j ∈ (pres acc l).getD (acc.length + k) [] → ∃ i, i ∈ ons o.after.toList ∧ (j = i ∨ j ∈ (pres acc l).getD i [])
  | [], acc => ⟨fun _ _ => rfl, fun k o h => by simp at h⟩
  | o :: l, acc => by
    obtain ⟨g1, g2⟩ := pres_spec l (acc ++ [preOf acc (ons o.after.toList)])
    simp only [List.length_append, List.length_cons, List.length_nil] at g1 g2
    refine ⟨fun i hi => ?_, fun k o' hk j hj => ?_⟩
    · show (pres (acc ++ _) l).getD i [] = _
      rw [g1 i (by omega)]
      simp [List.getD, List.getElem?_append_left hi]
    · cases k with
      | zero =>
        simp at hk; subst hk
        have hj' : j ∈ (pres (acc ++ [preOf acc (ons o.after.toList)]) l).getD acc.length [] := hj
        rw [g1 acc.length (by omega)] at hj'
        simp [List.getD] at hj'
        obtain ⟨i, h1, h2⟩ := preOf_mem hj'
        refine ⟨i, h1, h2.imp id fun h2 => ?_⟩
        show j ∈ (pres (acc ++ _) l).getD i []
        by_cases hi : i < acc.length
        · rw [g1 i (by omega)]
          simpa [List.getD, List.getElem?_append_left hi] using h2
        · simp [List.getD, List.getElem?_eq_none (Nat.le_of_not_lt hi)] at h2
      | succ k =>
        exact g2 k o' (by simpa using hk) j (by rw [show acc.length + 1 + k = acc.length + (k + 1) by omega]; exact hj)

theorem slotsOk_spec {looks : List Nat} {dst : Option Nat} {p : List Nat} {i : Nat} {ps : List (List Nat)} : ∀ {l : List Oper} {j0 : Nat}, slotsOk looks dst p i ps l j0 = true → ∀ (k : Nat) o, l[k]? = some o → ∀ d, o.dst = some d → j0 + k ≠ i → (d ∈ looks ∨ dst = some d) →
    (j0 + k < i → j0 + k ∈ p) ∧ (¬ j0 + k < i → i ∈ ps.getD (j0 + k) [])
  | [], j0, h, k, o, hk => by simp at hk
  | o :: l, j0, h, k, o', hk => by
    simp only [slotsOk, Bool.and_eq_true] at h
    cases k with
    | succ k =>
      have := slotsOk_spec h.2 k o' (by simpa using hk)
      rw [show j0 + 1 + k = j0 + (k + 1) by omega] at this
      exact this
    | zero =>
      simp at hk; subst hk
      intro d hd hne hor
      have h1 := h.1
      rw [hd] at h1
      simp only [Bool.or_eq_true, Bool.not_eq_true'] at h1
      rw [Nat.add_zero] at hne ⊢
      rcases h1 with (h1 | h1) | h1
      · exact absurd (beq_eq h1) hne
      · rw [Bool.or_eq_false_iff] at h1
        rcases hor with hor | hor
        · rw [mem_iff.2 hor] at h1; cases h1.1
        · rw [hor] at h1
          simp only [Nat.beq_refl] at h1
          cases h1.2
      · cases hb : Nat.blt j0 i with
        | true => rw [hb] at h1; exact ⟨fun _ => mem_iff.1 h1, fun hn => absurd (blt_lt hb) hn⟩
        | false =>
          rw [hb] at h1
          refine ⟨fun hlt => ?_, fun _ => mem_iff.1 h1⟩
          have : Nat.blt j0 i = true := Nat.ble_eq_true_of_le hlt
          rw [hb] at this; cases this

structure Static (ops : Array Oper) (ps : List (List Nat)) : Prop where
  clo : ∀ (k : Nat) o, ops[k]? = some o → ∀ j, j ∈ ps.getD k [] → ∃ i, i ∈ ons o.after.toList ∧ (j = i ∨ j ∈ ps.getD i [])
  back : ∀ (k : Nat) o, ops[k]? = some o → ∀ j, j ∈ ons o.after.toList → j < k
  slots : ∀ (i : Nat) o, ops[i]? = some o → ∀ (j : Nat) o' d, ops[j]? = some o' → o'.dst = some d → j ≠ i → (d ∈ o.looksAt ops ∨ o.dst = some d) → (j < i → j ∈ ps.getD i []) ∧ (¬ j < i → i ∈ ps.getD j [])

theorem drawOkL_spec {all : Array Oper} {ps : List (List Nat)} : ∀ {l : List Oper} {i : Nat}, drawOkL all ps l i = true → ∀ (k : Nat) o, l[k]? = some o → (∀ j, j ∈ ons o.after.toList → j < i + k) ∧ slotsOk (o.looksAt all) o.dst (ps.getD (i + k) []) (i + k) ps all.toList 0 = true
  | [], i, h, k, o, hk => by simp at hk
  | o :: l, i, h, k, o', hk => by
    simp only [drawOkL, Bool.and_eq_true] at h
    cases k with
    | zero =>
      simp at hk; subst hk
      refine ⟨fun j hj => ?_, h.1.2⟩
      exact blt_lt (List.all_eq_true.1 h.1.1 j hj)
    | succ k =>
      have := drawOkL_spec h.2 k o' (by simpa using hk)
      rw [show i + 1 + k = i + (k + 1) by omega] at this
      exact this

theorem static_of {ops : Array Oper} (h : drawOkL ops (pres [] ops.toList) ops.toList 0 = true) : Static ops (pres [] ops.toList) := by
  have key := drawOkL_spec h
  refine ⟨fun k o hk j hj => ?_, fun k o hk j hj => ?_, fun i o hi j o' d hj hd hne hor => ?_⟩
  · have := (pres_spec ops.toList []).2 k o (by simpa using hk) j (by simpa using hj)
    exact this
  · have := (key k o (by simpa using hk)).1 j hj
    simpa using this
  · have h2 := (key i o (by simpa using hi)).2
    have := slotsOk_spec h2 j o' (by simpa using hj) d hd (by simpa using hne) hor
    simpa using this

theorem okFp_spec {p : List Nat} {fp : Fp} : ∀ {l : List Fp} {j0 : Nat}, okFp p fp l j0 = true → ∀ (k : Nat) g, l[k]? = some g → Fp.meets g fp = true → j0 + k ∈ p
  | [], j0, h, k, g, hk => by simp at hk
  | a :: l, j0, h, k, g, hk => by
    simp only [okFp, Bool.and_eq_true, Bool.or_eq_true, Bool.not_eq_true'] at h
    cases k with
    | zero =>
      simp at hk; subst hk
      intro hm
      rcases h.1 with h1 | h1
      · rw [hm] at h1; cases h1
      · exact mem_iff.1 h1
    | succ k =>
      intro hm
      have := okFp_spec h.2 k g (by simpa using hk) hm
      rwa [show j0 + 1 + k = j0 + (k + 1) by omega] at this

section
variable {P : Program} {E : Env} {f : FuncId} {ρ : Type}

/-- One operation of the run in the order of the text. -/
structure StepAt (P : Program) (ops : Array Oper) (ps : List (List Nat)) (np : Nat) (X : Nat → AS) (V : Nat → AV) (Fs : Nat → Fp) (i : Nat) (o : Oper) : Prop where
  at_ : ops[i]? = some o
  next : ∃ s', X (i + 1) = ({ X i with s := s' } : AS).put o.dst (V i) ∧ Shape (X i).s s' (Fs i)
  meets : ∀ j, j < i → Fp.meets (Fs j) (Fs i) = true → j ∈ ps.getD i []
  sem : (SemD P (avR (o.looksAt ops) (X i)) o (X i).s (V i) (X (i + 1)).s (Fs i) np ∧ ∀ (a : Act) G s, a.tmps.size = (X i).t.length → (∀ t, t ∈ o.looksAt ops → ∀ b v, (X i).t[t]? = some b → a.tmps[t]? = some v → ARel G s b v) → Region.wanted o (yielded ops a.tmps) = true) ∨
    (V i = .undef ∧ (X (i + 1)).s = (X i).s ∧ Fs i = ⟨[], [], false⟩ ∧ ∀ (a : Act) G s, a.tmps.size = (X i).t.length → (∀ t, t ∈ o.looksAt ops → ∀ b v, (X i).t[t]? = some b → a.tmps[t]? = some v → ARel G s b v) → Region.wanted o (yielded ops a.tmps) = false)

theorem put_s (x : AS) (d : Option Tmp) (v : AV) : (x.put d v).s = x.s := by cases d <;> rfl
theorem put_same {x : AS} {d : Nat} {v : AV} (h : x.t[d]? = some v) : x.put (some d) v = x := by
  obtain ⟨t, s⟩ := x
  simp only [AS.put, AS.mk.injEq, and_true]
  apply List.ext_getElem?
  intro i
  simp only at h
  by_cases hd : d = i
  · subst hd
    rw [List.getElem?_set_self (List.getElem?_eq_some_iff.1 h).1, h]
  · rw [List.getElem?_set_ne hd]

theorem guard_look {ops : Array Oper} {o : Oper} {j d : Nat} {want : Bool} (hg : o.guard = some (j, want)) (hd : (ops[j]?).bind (·.dst) = some d) : d ∈ o.looksAt ops := by
  unfold Oper.looksAt
  rw [hg]
  simp [hd]

theorem effsD_canon (hT : TOk P) (hF : FOk P) (hc : CallOk P E.call) {ops : Array Oper} {ps : List (List Nat)} {np : Nat} : ∀ {l : List Oper} {i : Nat} {fps : List Fp} {x : AS} {K : AS → Option ρ} {r : ρ}, effsD P E f ops ps np l i fps x K = some r → (∀ (k : Nat), l[k]? = ops[i + k]?) → fps.length = i →
    ∃ (X : Nat → AS) (V : Nat → AV) (Fs : Nat → Fp), X i = x ∧ (∀ j, j < i → fps[j]? = some (Fs j)) ∧ K (X (i + l.length)) = some r ∧ ∀ k, i ≤ k → k < i + l.length → ∃ o, StepAt P ops ps np X V Fs k o
  | [], i, fps, x, K, r, h, hl, hf => ⟨fun _ => x, fun _ => .undef, fun j => fps.getD j default, rfl, fun j hj => by rw [← hf] at hj; simp [List.getD, List.getElem?_eq_getElem hj], h, fun k h1 h2 => by simp at h2; omega⟩
  | o :: rest, i, fps, x, K, r, h, hl, hf => by
    have hoi : ops[i]? = some o := by have := hl 0; simpa using this.symm
    have hl' : ∀ (k : Nat), rest[k]? = ops[i + 1 + k]? := fun k => by have := hl (k + 1); rw [show i + 1 + k = i + (k + 1) by omega]; simpa using this
    have glue : ∀ {x1 : AS} {v : AV} {fp : Fp}, effsD P E f ops ps np rest (i + 1) (fps ++ [fp]) x1 K = some r → (∃ s', x1 = ({ x with s := s' } : AS).put o.dst v ∧ Shape x.s s' fp) → (∀ j, j < i → ∀ g, fps[j]? = some g → Fp.meets g fp = true → j ∈ ps.getD i []) →
        ((SemD P (avR (o.looksAt ops) x) o x.s v x1.s fp np ∧ ∀ (a : Act) G s, a.tmps.size = x.t.length → (∀ t, t ∈ o.looksAt ops → ∀ b v, x.t[t]? = some b → a.tmps[t]? = some v → ARel G s b v) → Region.wanted o (yielded ops a.tmps) = true) ∨
          (v = .undef ∧ x1.s = x.s ∧ fp = ⟨[], [], false⟩ ∧ ∀ (a : Act) G s, a.tmps.size = x.t.length → (∀ t, t ∈ o.looksAt ops → ∀ b v, x.t[t]? = some b → a.tmps[t]? = some v → ARel G s b v) → Region.wanted o (yielded ops a.tmps) = false)) →
        ∃ (X : Nat → AS) (V : Nat → AV) (Fs : Nat → Fp), X i = x ∧ (∀ j, j < i → fps[j]? = some (Fs j)) ∧ K (X (i + (o :: rest).length)) = some r ∧ ∀ k, i ≤ k → k < i + (o :: rest).length → ∃ o, StepAt P ops ps np X V Fs k o := by
      intro x1 v fp h' hn hm hs
      obtain ⟨X1, V1, Fs, e1, e2, e3, e4⟩ := effsD_canon hT hF hc h' hl' (by simp [hf])
      have hFi : Fs i = fp := by
        have := e2 i (by omega)
        rw [List.getElem?_append_right (by omega)] at this
        simp [hf] at this
        exact this.symm
      have hFj : ∀ j, j < i → fps[j]? = some (Fs j) := fun j hj => by
        have := e2 j (by omega)
        rwa [List.getElem?_append_left (by omega)] at this
      refine ⟨fun j => if j ≤ i then x else X1 j, fun j => if j = i then v else V1 j, Fs, by simp, hFj, ?_, fun k h1 h2 => ?_⟩
      · show K (if i + (o :: rest).length ≤ i then x else X1 (i + (o :: rest).length)) = some r
        rw [if_neg (by rw [List.length_cons]; omega), show i + (o :: rest).length = i + 1 + rest.length by rw [List.length_cons]; omega]; exact e3
      · by_cases hk : k = i
        · subst hk
          refine ⟨o, hoi, ?_, fun j hj hme => ?_, ?_⟩
          · simp only [Nat.le_refl, if_true, hFi]
            rw [if_neg (by omega), e1]
            exact hn
          · rw [hFi] at hme
            exact hm j hj _ (hFj j hj) hme
          · simp only [Nat.le_refl, if_true, hFi]
            rw [if_neg (by omega), e1]
            exact hs
        · obtain ⟨o', q1, q2, q3, q4⟩ := e4 k (by omega) (by simp at h2; omega)
          refine ⟨o', q1, ?_, q3, ?_⟩ <;> simp only [if_neg (show ¬ k ≤ i by omega), if_neg (show ¬ k + 1 ≤ i by omega), if_neg hk]
          · exact q2
          · exact q4
    have go : effD P E f ops (np + i) o x (fun v s fp => bif okFp (ps.getD i []) fp fps 0 then effsD P E f ops ps np rest (i + 1) (fps ++ [fp]) ({ x with s := s }.put o.dst v) K else none) = some r →
        (∀ (a : Act) G s, a.tmps.size = x.t.length → (∀ t, t ∈ o.looksAt ops → ∀ b v, x.t[t]? = some b → a.tmps[t]? = some v → ARel G s b v) → Region.wanted o (yielded ops a.tmps) = true) →
        ∃ (X : Nat → AS) (V : Nat → AV) (Fs : Nat → Fp), X i = x ∧ (∀ j, j < i → fps[j]? = some (Fs j)) ∧ K (X (i + (o :: rest).length)) = some r ∧ ∀ k, i ≤ k → k < i + (o :: rest).length → ∃ o, StepAt P ops ps np X V Fs k o := by
      intro h' hw
      obtain ⟨v, s', fp, g1, g2, g3⟩ := effD_sound hT hF hc (np := np) (by omega) h'
      replace g1 := bif_some g1; obtain ⟨g0, g1⟩ := g1
      exact glue g1 ⟨s', rfl, g2⟩ (fun j hj g hg hm => by have := okFp_spec g0 j g hg hm; simpa using this) (.inl ⟨by rw [put_s]; exact g3, hw⟩)
    have no : effsD P E f ops ps np rest (i + 1) (fps ++ [⟨[], [], false⟩]) (x.put o.dst .undef) K = some r →
        (∀ (a : Act) G s, a.tmps.size = x.t.length → (∀ t, t ∈ o.looksAt ops → ∀ b v, x.t[t]? = some b → a.tmps[t]? = some v → ARel G s b v) → Region.wanted o (yielded ops a.tmps) = false) →
        ∃ (X : Nat → AS) (V : Nat → AV) (Fs : Nat → Fp), X i = x ∧ (∀ j, j < i → fps[j]? = some (Fs j)) ∧ K (X (i + (o :: rest).length)) = some r ∧ ∀ k, i ≤ k → k < i + (o :: rest).length → ∃ o, StepAt P ops ps np X V Fs k o := by
      intro h' hw
      exact glue h' ⟨x.s, rfl, Shape.refl _ _ _⟩ (fun j hj g hg hm => by simp [Fp.meets, mem] at hm) (.inr ⟨rfl, put_s _ _ _, rfl, hw⟩)
    simp only [effsD] at h
    split at h
    · rename_i hg
      exact go h fun a G s _ _ => wanted_none hg _
    · rename_i j want hg
      split at h
      · cases h
      · rename_i d hd
        have hdl := guard_look hg hd
        have slot : ∀ {b : AV}, x.t[d]? = some b → ∀ (a : Act) G s, a.tmps.size = x.t.length → (∀ t, t ∈ o.looksAt ops → ∀ b v, x.t[t]? = some b → a.tmps[t]? = some v → ARel G s b v) → ∃ v, a.tmps[d]? = some v ∧ ARel G s b v := by
          intro b hb a G s hsz hr
          have hlt : d < a.tmps.size := by rw [hsz]; exact (List.getElem?_eq_some_iff.1 hb).1
          exact ⟨_, Array.getElem?_eq_getElem hlt, hr d hdl b _ hb (Array.getElem?_eq_getElem hlt)⟩
        split at h
        · rename_i g hx
          have hw : ∀ (a : Act) G s, a.tmps.size = x.t.length → (∀ t, t ∈ o.looksAt ops → ∀ b v, x.t[t]? = some b → a.tmps[t]? = some v → ARel G s b v) → Region.wanted o (yielded ops a.tmps) = (some g == some want) := by
            intro a G s hsz hr
            obtain ⟨v, hv, hb⟩ := slot hx a G s hsz hr
            cases rep_bool hb
            have hy := yielded_of hd _ hv
            rw [wanted_some hg, hy]
          cases g with
          | true =>
            simp only [cond_true] at h
            rw [put_same hx] at h
            cases want with
            | true => exact go h fun a G s h1 h2 => by rw [hw a G s h1 h2]; rfl
            | false => exact no h fun a G s h1 h2 => by rw [hw a G s h1 h2]; rfl
          | false =>
            simp only [cond_false] at h
            rw [put_same hx] at h
            cases want with
            | true => exact no h fun a G s h1 h2 => by rw [hw a G s h1 h2]; rfl
            | false => exact go h fun a G s h1 h2 => by rw [hw a G s h1 h2]; rfl
        · rename_i hx
          refine no h fun a G s hsz hr => ?_
          obtain ⟨v, hv, hb⟩ := slot hx a G s hsz hr
          have hb' : v = undef := hb
          subst hb'
          have hy := yielded_of hd _ hv
          rw [wanted_some hg, hy]; rfl
        · cases h
end
end Go.AL
