/- Talks: runs, whoever goes first. -/
import Derived.Test.YtofjejdlggmcjaaS1Talk2
set_option linter.unusedVariables false
set_option linter.unusedSimpArgs false
namespace Go.AL.S1
open Go Go.AL

def inc (a : List Nat) (p : Nat) : List Nat := a.set p (a.getD p 0 + 1)
def step (ls : List Line) (a : List Nat) (i : Nat) : List Nat := match ls[i]? with | some x => inc (inc a x.1.toNat) x.2.toNat | none => a
theorem u64_range (x : Int) : 0 ≤ IntKind.u64.wrap x := by
  simp [IntKind.wrap, IntKind.bits, IntKind.signed]
  omega
def pk (picks : List Int) (n len : Nat) : Nat := match picks[n]? with | some x => (IntKind.u64.wrap x).toNat % len | none => 0
def runF (ls : List Line) (ws : List (List Deed)) (picks : List Int) : Nat → List Nat → List Nat → List Nat × List Nat
  | 0, out, a => (out, a)
  | n + 1, out, a => match (readyL ws a ls 0)[pk picks out.length (readyL ws a ls 0).length]? with
    | none => (out, a)
    | some i => runF ls ws picks n (out ++ [i]) (step ls a i)

theorem readyL_mem {ws : List (List Deed)} {a : List Nat} : ∀ {l : List Line} {k i : Nat}, i ∈ readyL ws a l k ↔ k ≤ i ∧ ∃ x, l[i - k]? = some x ∧ fits2 i (cur ws a x.1) (cur ws a x.2) = true
  | [], k, i => by simp [readyL]
  | x :: l, k, i => by
    have ih := readyL_mem (ws := ws) (a := a) (l := l) (k := k + 1) (i := i)
    simp only [readyL]
    have key : (k + 1 ≤ i ∧ ∃ y, l[i - (k + 1)]? = some y ∧ fits2 i (cur ws a y.1) (cur ws a y.2) = true) ∨ (i = k ∧ fits2 k (cur ws a x.1) (cur ws a x.2) = true) ↔ k ≤ i ∧ ∃ y, (x :: l)[i - k]? = some y ∧ fits2 i (cur ws a y.1) (cur ws a y.2) = true := by
      constructor
      · rintro (⟨h1, y, h2, h3⟩ | ⟨rfl, h⟩)
        · refine ⟨by omega, y, ?_, h3⟩
          rw [show i - k = (i - (k + 1)) + 1 by omega]; simpa using h2
        · exact ⟨Nat.le_refl _, x, by simp, h⟩
      · rintro ⟨h1, y, h2, h3⟩
        rcases Nat.lt_or_ge k i with hlt | hge
        · left
          refine ⟨by omega, y, ?_, h3⟩
          rw [show i - k = (i - (k + 1)) + 1 by omega] at h2; simpa using h2
        · right
          have : i = k := by omega
          subst this
          simp at h2
          subst h2
          exact ⟨rfl, h3⟩
    rw [← key, ← ih]
    split
    · rename_i h
      simp only [List.mem_cons]
      constructor
      · rintro (rfl | h')
        · exact .inr ⟨rfl, h⟩
        · exact .inl h'
      · rintro (h' | ⟨rfl, _⟩)
        · exact .inr h'
        · exact .inl rfl
    · rename_i h
      constructor
      · exact .inl
      · rintro (h' | ⟨rfl, h'⟩)
        · exact h'
        · exact absurd h' h

theorem getD_inc {a : List Nat} {p : Nat} (hp : p < a.length) (q : Nat) : (inc a p)[q]? = if p = q then (a[q]?).map (· + 1) else a[q]? := by
  unfold inc
  by_cases h : p = q
  · subst h
    rw [if_pos rfl, List.getElem?_set_self hp]
    simp [List.getD, List.getElem?_eq_getElem hp]
  · rw [if_neg h, List.getElem?_set_ne h]
theorem length_inc (a : List Nat) (p : Nat) : (inc a p).length = a.length := by simp [inc]
theorem sum_inc : ∀ (a : List Nat) (p : Nat), p < a.length → (inc a p).sum = a.sum + 1
  | [], p, h => by simp at h
  | x :: a, 0, h => by simp [inc]; omega
  | x :: a, p + 1, h => by
    have := sum_inc a p (by simpa using h)
    simp only [inc, List.set_cons_succ, List.getD_cons_succ, List.sum_cons] at this ⊢
    omega
theorem inc_comm {a : List Nat} {p q : Nat} (hp : p < a.length) (hq : q < a.length) : inc (inc a p) q = inc (inc a q) p := by
  apply List.ext_getElem?
  intro i
  rw [getD_inc (a := inc a p) (by rw [length_inc]; exact hq), getD_inc hp, getD_inc (a := inc a q) (by rw [length_inc]; exact hp), getD_inc hq]
  by_cases h1 : q = i <;> by_cases h2 : p = i <;> simp [h1, h2]

/-- What a line that is ready tells. -/
theorem ready_at {ls : List Line} {ws : List (List Deed)} {a : List Nat} (hwf : WF ls ws) (hv : Valid ws a) {i : Nat} (h : i ∈ readyL ws a ls 0) :
    ∃ x p q v w d e, ls[i]? = some x ∧ x.1.toNat < a.length ∧ x.2.toNat < a.length ∧ x.1.toNat ≠ x.2.toNat ∧ a[x.1.toNat]? = some p ∧ a[x.2.toNat]? = some q ∧ ws[x.1.toNat]? = some v ∧ ws[x.2.toNat]? = some w ∧ v[p]? = some d ∧ w[q]? = some e ∧
      d.1 = i ∧ e.1 = i ∧ d.2.2 = e.2.2 ∧ d.2.1 ≠ e.2.1 := by
  obtain ⟨_, x, hx, hf⟩ := readyL_mem.1 h
  rw [Nat.sub_zero] at hx
  obtain ⟨g1, g2, g3, g4, g5⟩ := hwf.line x (List.mem_of_getElem? hx)
  obtain ⟨v, hv1, _⟩ := get_int (xs := ws) g1 g3
  obtain ⟨w, hw1, _⟩ := get_int (xs := ws) g2 g4
  obtain ⟨p, hp, _⟩ := get_int (xs := a) g1 (by rw [hv.len]; exact g3)
  obtain ⟨q, hq, _⟩ := get_int (xs := a) g2 (by rw [hv.len]; exact g4)
  have c1 : cur ws a x.1 = v[p]? := by simp [cur, hv1, hp]
  have c2 : cur ws a x.2 = w[q]? := by simp [cur, hw1, hq]
  rw [c1, c2] at hf
  cases hd : v[p]? with
  | none => rw [hd] at hf; simp [fits2] at hf
  | some d =>
    cases he : w[q]? with
    | none => rw [hd, he] at hf; simp [fits2] at hf
    | some e =>
      rw [hd, he] at hf
      simp only [fits2, Bool.and_eq_true, beq_iff_eq, Bool.not_eq_true', beq_eq_false_iff_ne] at hf
      exact ⟨x, p, q, v, w, d, e, hx, by have := (List.getElem?_eq_some_iff.1 hp).1; exact this, (List.getElem?_eq_some_iff.1 hq).1, by omega, hp, hq, hv1, hw1, hd, he, hf.1, hf.2.1, hf.2.2.1, hf.2.2.2⟩

theorem step_eq {ls : List Line} {i : Nat} {x : Line} (h : ls[i]? = some x) (a : List Nat) : step ls a i = inc (inc a x.1.toNat) x.2.toNat := by simp [step, h]

theorem step_get {a : List Nat} {p q : Nat} (hp : p < a.length) (hq : q < a.length) (hne : p ≠ q) (i : Nat) : (inc (inc a p) q)[i]? = if p = i ∨ q = i then (a[i]?).map (· + 1) else a[i]? := by
  rw [getD_inc (by rw [length_inc]; exact hq), getD_inc hp]
  by_cases h1 : q = i
  · have : p ≠ i := by omega
    simp [h1, this]
  · by_cases h2 : p = i <;> simp [h1, h2]

theorem step_valid {ls : List Line} {ws : List (List Deed)} {a : List Nat} (hwf : WF ls ws) (hv : Valid ws a) {i : Nat} (h : i ∈ readyL ws a ls 0) : Valid ws (step ls a i) ∧ (step ls a i).sum = a.sum + 2 := by
  obtain ⟨x, p, q, v, w, d, e, hx, h1, h2, h3, hp, hq, hv1, hw1, hd, he, _⟩ := ready_at hwf hv h
  rw [step_eq hx]
  refine ⟨⟨by rw [length_inc, length_inc]; exact hv.len, fun j k u hk hu => ?_⟩, by rw [sum_inc _ _ (by rw [length_inc]; exact h2), sum_inc _ _ h1]⟩
  rw [step_get h1 h2 h3] at hk
  split at hk
  · rename_i hj
    cases ha : a[j]? with
    | none => rw [ha] at hk; cases hk
    | some m =>
      rw [ha] at hk
      obtain rfl := Option.some.inj hk
      rcases hj with rfl | rfl
      · rw [hp] at ha; obtain rfl := Option.some.inj ha
        rw [hv1] at hu; obtain rfl := Option.some.inj hu
        exact (List.getElem?_eq_some_iff.1 hd).1
      · rw [hq] at ha; obtain rfl := Option.some.inj ha
        rw [hw1] at hu; obtain rfl := Option.some.inj hu
        exact (List.getElem?_eq_some_iff.1 he).1
  · exact hv.le j k u hk hu

theorem cur_step {ls : List Line} {ws : List (List Deed)} {a : List Nat} {x : Line} (h1 : x.1.toNat < a.length) (h2 : x.2.toNat < a.length) (h3 : x.1.toNat ≠ x.2.toNat) {p : Int} (hp : x.1.toNat ≠ p.toNat) (hq : x.2.toNat ≠ p.toNat) :
    cur ws (inc (inc a x.1.toNat) x.2.toNat) p = cur ws a p := by
  unfold cur
  rw [step_get h1 h2 h3, if_neg (by omega)]

/-- Two lines that are ready have nobody in common. -/
theorem ready_apart {ls : List Line} {ws : List (List Deed)} {a : List Nat} (hwf : WF ls ws) (hv : Valid ws a) {i j : Nat} (hi : i ∈ readyL ws a ls 0) (hj : j ∈ readyL ws a ls 0) (hne : i ≠ j) {x y : Line} (hx : ls[i]? = some x) (hy : ls[j]? = some y) :
    x.1.toNat ≠ y.1.toNat ∧ x.1.toNat ≠ y.2.toNat ∧ x.2.toNat ≠ y.1.toNat ∧ x.2.toNat ≠ y.2.toNat := by
  obtain ⟨x', p, q, v, w, d, e, hx', h1, h2, h3, hp, hq, hv1, hw1, hd, he, k1, k2, _⟩ := ready_at hwf hv hi
  obtain ⟨y', p', q', v', w', d', e', hy', h1', h2', h3', hp', hq', hv1', hw1', hd', he', k1', k2', _⟩ := ready_at hwf hv hj
  rw [hx] at hx'; obtain rfl := Option.some.inj hx'
  rw [hy] at hy'; obtain rfl := Option.some.inj hy'
  have key : ∀ {m n : Nat} {k k' : Nat} {u u' : List Deed} {f f' : Deed}, a[m]? = some k → ws[m]? = some u → u[k]? = some f → a[n]? = some k' → ws[n]? = some u' → u'[k']? = some f' → f.1 = i → f'.1 = j → m ≠ n := by
    intro m n k k' u u' f f' e1 e2 e3 e4 e5 e6 e7 e8 hmn
    subst hmn
    rw [e1] at e4; obtain rfl := Option.some.inj e4
    rw [e2] at e5; obtain rfl := Option.some.inj e5
    rw [e3] at e6; obtain rfl := Option.some.inj e6
    omega
  exact ⟨key hp hv1 hd hp' hv1' hd' k1 k1', key hp hv1 hd hq' hw1' he' k1 k2', key hq hw1 he hp' hv1' hd' k2 k1', key hq hw1 he hq' hw1' he' k2 k2'⟩

theorem ready_still {ls : List Line} {ws : List (List Deed)} {a : List Nat} (hwf : WF ls ws) (hv : Valid ws a) {i j : Nat} (hi : i ∈ readyL ws a ls 0) (hj : j ∈ readyL ws a ls 0) (hne : i ≠ j) : j ∈ readyL ws (step ls a i) ls 0 := by
  obtain ⟨x, p, q, v, w, d, e, hx, h1, h2, h3, _⟩ := ready_at hwf hv hi
  obtain ⟨_, y, hy, hf⟩ := readyL_mem.1 hj
  have hy' := hy
  rw [Nat.sub_zero] at hy
  obtain ⟨g1, g2, g3, g4⟩ := ready_apart hwf hv hi hj hne hx hy
  refine readyL_mem.2 ⟨Nat.zero_le _, y, hy', ?_⟩
  rw [step_eq hx, cur_step (ls := ls) h1 h2 h3 g1 g3, cur_step (ls := ls) h1 h2 h3 g2 g4]
  exact hf

theorem step_comm {ls : List Line} {ws : List (List Deed)} {a : List Nat} (hwf : WF ls ws) (hv : Valid ws a) {i j : Nat} (hi : i ∈ readyL ws a ls 0) (hj : j ∈ readyL ws a ls 0) : step ls (step ls a i) j = step ls (step ls a j) i := by
  obtain ⟨x, p, q, v, w, d, e, hx, h1, h2, h3, _⟩ := ready_at hwf hv hi
  obtain ⟨y, p', q', v', w', d', e', hy, h1', h2', h3', _⟩ := ready_at hwf hv hj
  rw [step_eq hx, step_eq hy, step_eq hy, step_eq hx]
  have l1 : ∀ b p, (inc b p).length = b.length := length_inc
  rw [inc_comm (p := x.2.toNat) (q := y.1.toNat) (by rw [l1]; exact h2) (by rw [l1]; exact h1'), inc_comm (p := x.1.toNat) (q := y.1.toNat) h1 h1']
  rw [inc_comm (p := x.2.toNat) (q := y.2.toNat) (by simp only [l1]; exact h2) (by simp only [l1]; exact h2'), inc_comm (p := x.1.toNat) (q := y.2.toNat) (by simp only [l1]; exact h1) (by simp only [l1]; exact h2')]

/-- Runs to their end. -/
inductive Runs (ls : List Line) (ws : List (List Deed)) : List Nat → List Nat → Prop where
  | stop {a : List Nat} : readyL ws a ls 0 = [] → Runs ls ws a a
  | go {a b : List Nat} {i : Nat} : i ∈ readyL ws a ls 0 → Runs ls ws (step ls a i) b → Runs ls ws a b

theorem sum_le : ∀ {ws : List (List Deed)} {a : List Nat}, Valid ws a → a.sum ≤ (ws.map List.length).sum
  | [], [], _ => Nat.le_refl _
  | [], _ :: _, h => by have := h.len; simp at this
  | _ :: _, [], h => by have := h.len; simp at this
  | w :: ws, x :: a, h => by
    have h0 := h.le 0 x w rfl rfl
    have := sum_le (ws := ws) (a := a) ⟨by have := h.len; simpa using this, fun i k u e1 e2 => h.le (i + 1) k u (by simpa using e1) (by simpa using e2)⟩
    simp only [List.sum_cons, List.map_cons]
    omega

/-- There is an end. -/
theorem runs_end {ls : List Line} {ws : List (List Deed)} (hwf : WF ls ws) : ∀ (n : Nat) {a : List Nat}, Valid ws a → (ws.map List.length).sum - a.sum < n → ∃ b, Runs ls ws a b
  | 0, a, hv, h => by omega
  | n + 1, a, hv, h => by
    cases hr : readyL ws a ls 0 with
    | nil => exact ⟨a, .stop hr⟩
    | cons i l =>
      have hi : i ∈ readyL ws a ls 0 := by rw [hr]; simp
      obtain ⟨hv', hs⟩ := step_valid hwf hv hi
      have hle := sum_le hv'
      obtain ⟨b, hb⟩ := runs_end hwf n hv' (by omega)
      exact ⟨b, .go hi hb⟩

/-- Whoever goes first, all have done as much in the end. -/
theorem runs_one {ls : List Line} {ws : List (List Deed)} (hwf : WF ls ws) : ∀ (n : Nat) {a b c : List Nat}, Valid ws a → (ws.map List.length).sum - a.sum < n → Runs ls ws a b → Runs ls ws a c → b = c
  | 0, a, b, c, hv, h, _, _ => by omega
  | n + 1, a, b, c, hv, h, hb, hc => by
    cases hb with
    | stop h1 =>
      cases hc with
      | stop _ => rfl
      | go hj _ => rw [h1] at hj; cases hj
    | go hi hb =>
      rename_i i
      cases hc with
      | stop h1 => rw [h1] at hi; cases hi
      | go hj hc =>
        rename_i j
        obtain ⟨hvi, hsi⟩ := step_valid hwf hv hi
        obtain ⟨hvj, hsj⟩ := step_valid hwf hv hj
        have li := sum_le hvi
        have lj := sum_le hvj
        by_cases hij : i = j
        · subst hij
          exact runs_one hwf n hvi (by omega) hb hc
        · have hj' := ready_still hwf hv hi hj hij
          have hi' := ready_still hwf hv hj hi (Ne.symm hij)
          obtain ⟨hvk, hsk⟩ := step_valid hwf hvi hj'
          obtain ⟨d, hd⟩ := runs_end hwf _ hvk (Nat.lt_succ_self _)
          have e1 := runs_one hwf n hvi (by omega) hb (.go hj' hd)
          have hd' : Runs ls ws (step ls a j) d := .go hi' (by rw [← step_comm hwf hv hi hj]; exact hd)
          have e2 := runs_one hwf n hvj (by omega) hc hd'
          rw [e1, e2]
end Go.AL.S1
