/- Talks: dual lines and no ring: all comes to its end. Plain Lean. -/
import Derived.Test.YtofjejdlggmcjaaS1Turned
import Derived.Test.YtofjejdlggmcjaaS1Waits
set_option linter.unusedVariables false
set_option linter.unusedSimpArgs false
namespace Go.AL.S1
open Go Go.AL

/-- x has the ends p and q -/
def Ends (x : Line) (p q : Nat) : Prop := (x.1 = p ∧ x.2 = q) ∨ (x.1 = q ∧ x.2 = p)
/-- A set that no line but one leaves. -/
def Closed (ls : List Line) (but : Nat) (S : Nat → Prop) : Prop := ∀ i x p q, ls[i]? = some x → i ≠ but → Ends x p q → S p → S q
def Cut (ls : List Line) (i : Nat) (x : Line) : Prop := ∃ S : Nat → Prop, Closed ls i S ∧ S x.2.toNat ∧ ¬ S x.1.toNat

theorem Ends.symm {x : Line} {p q : Nat} (h : Ends x p q) : Ends x q p := by
  rcases h with ⟨a, b⟩ | ⟨a, b⟩
  · exact .inr ⟨a, b⟩
  · exact .inl ⟨a, b⟩

theorem cut_any {ls : List Line} {i : Nat} {x : Line} (h : Cut ls i x) {p q : Nat} (he : Ends x p q) : ∃ S : Nat → Prop, Closed ls i S ∧ S q ∧ ¬ S p := by
  obtain ⟨S, h1, h2, h3⟩ := h
  rcases he with ⟨a, b⟩ | ⟨a, b⟩
  · refine ⟨S, h1, ?_, ?_⟩
    · rw [b] at h2; simpa using h2
    · rw [a] at h3; simpa using h3
  · refine ⟨fun v => ¬ S v, fun j y u v e1 e2 e3 e4 e5 => e4 (h1 j y v u e1 e2 e3.symm e5), ?_, ?_⟩
    · rw [a] at h3; simpa using h3
    · rw [b] at h2; simpa using h2

theorem count_set {l : List Bool} : ∀ {i : Nat}, l[i]? = some false → (l.set i true).count true = l.count true + 1 ∧ l.count false = (l.set i true).count false + 1 := by
  induction l with
  | nil => intro i h; cases h
  | cons b l ih =>
    intro i h
    cases i with
    | zero =>
      have : b = false := by simpa using h
      subst this
      simp
    | succ i =>
      have := ih (i := i) (by simpa using h)
      simp only [List.set_cons_succ, List.count_cons]
      omega

theorem pigeon {m : Nat} (g : Nat → Nat) (hg : ∀ k, g k < m) (hinj : ∀ a b, a < b → g b ≠ g a) : False := by
  have key : ∀ n, ∃ l : List Bool, l.length = m ∧ (∀ v : Nat, l[v]? = some true → ∃ k, k < n ∧ g k = v) ∧ l.count true = n := by
    intro n
    induction n with
    | zero =>
      refine ⟨List.replicate m false, by simp, fun v hv => ?_, by simp [List.count_replicate]⟩
      have := (List.mem_replicate.1 (List.mem_of_getElem? hv)).2
      cases this
    | succ n ih =>
      obtain ⟨l, h1, h2, h3⟩ := ih
      have hlt : g n < l.length := by rw [h1]; exact hg n
      have hb : l[g n]? = some false := by
        have e := List.getElem?_eq_getElem hlt
        cases hv : l[g n] with
        | false => rw [e, hv]
        | true =>
          rw [hv] at e
          obtain ⟨k, k1, k2⟩ := h2 _ e
          exact absurd k2.symm (hinj k n k1)
      refine ⟨l.set (g n) true, by simp [h1], fun v hv => ?_, by rw [(count_set hb).1, h3]⟩
      by_cases hvn : g n = v
      · exact ⟨n, Nat.lt_succ_self _, hvn⟩
      · rw [List.getElem?_set_ne hvn] at hv
        obtain ⟨k, k1, k2⟩ := h2 v hv
        exact ⟨k, by omega, k2⟩
  obtain ⟨l, h1, _, h3⟩ := key (m + 1)
  have := List.count_le_length (a := true) (l := l)
  omega

/-! #### What is left to do -/
def rem (ws : List (List Deed)) (a : List Nat) (p : Nat) : List Deed := (ws.getD p []).drop (a.getD p 0)
def DualInv (ls : List Line) (ws : List (List Deed)) (a : List Nat) : Prop := ∀ (i : Nat) x, ls[i]? = some x → dualOk (onLine (rem ws a x.1.toNat) i) (onLine (rem ws a x.2.toNat) i) = true

theorem dualL_all {ws : List (List Deed)} : ∀ {l : List Line} {k : Nat}, dualL ws l k < 0 → ∀ (j : Nat) x, l[j]? = some x → dualOk (onLine (ws.getD x.1.toNat []) ((k + j : Nat) : Int)) (onLine (ws.getD x.2.toNat []) ((k + j : Nat) : Int)) = true
  | [], k, _, j, x, h => by simp at h
  | y :: l, k, h, j, x, hx => by
    simp only [dualL] at h
    split at h
    · rename_i h1
      cases j with
      | zero => simp at hx; subst hx; exact h1
      | succ j =>
        have := dualL_all h j x (by simpa using hx)
        rw [show k + (j + 1) = k + 1 + j by omega]
        exact this
    · omega

theorem inv0 {ls : List Line} {ws : List (List Deed)} (h : dualL ws ls 0 < 0) : DualInv ls ws (List.replicate ws.length 0) := by
  intro i x hx
  have := dualL_all h i x hx
  rw [Nat.zero_add] at this
  have e : ∀ p, rem ws (List.replicate ws.length 0) p = ws.getD p [] := fun p => by
    unfold rem
    have : (List.replicate ws.length 0).getD p 0 = 0 := by
      simp only [List.getD, List.getElem?_replicate]
      split <;> rfl
    rw [this]; rfl
  rw [e, e]
  exact this

theorem rem_of {ws : List (List Deed)} {a : List Nat} {p k : Nat} {w : List Deed} (h1 : ws[p]? = some w) (h2 : a[p]? = some k) : rem ws a p = w.drop k := by
  simp [rem, List.getD, h1, h2]
theorem rem_set {ws : List (List Deed)} {a b : List Nat} {p : Nat} (h : b[p]? = a[p]?) : rem ws b p = rem ws a p := by
  simp [rem, List.getD, h]
theorem rem_cons {ws : List (List Deed)} {a b : List Nat} {p k : Nat} {w : List Deed} {d : Deed} (h1 : ws[p]? = some w) (h2 : a[p]? = some k) (h3 : w[k]? = some d) (h4 : b[p]? = some (k + 1)) : rem ws a p = d :: rem ws b p := by
  rw [rem_of h1 h2, rem_of h1 h4]
  obtain ⟨hk, rfl⟩ := List.getElem?_eq_some_iff.1 h3
  exact List.drop_eq_getElem_cons hk
theorem onLine_cons (d : Deed) (l : List Deed) (i : Int) : onLine (d :: l) i = if d.1 = i then d :: onLine l i else onLine l i := by
  unfold onLine
  rw [List.filter_cons]
  by_cases h : d.1 = i <;> simp [h]

theorem inv_step {ls : List Line} {ws : List (List Deed)} {a : List Nat} (hwf : WF ls ws) (hv : Valid ws a) (hD : DualInv ls ws a) {i : Nat} (hi : i ∈ readyL ws a ls 0) : DualInv ls ws (step ls a i) := by
  obtain ⟨x, p, q, v, w, d, e, hx, h1, h2, h3, hp, hq, hv1, hw1, hd, he, k1, k2, _⟩ := ready_at hwf hv hi
  rw [step_eq hx]
  intro j y hy
  have hg := step_get h1 h2 h3
  have r1 : rem ws a x.1.toNat = d :: rem ws (inc (inc a x.1.toNat) x.2.toNat) x.1.toNat := rem_cons hv1 hp hd (by rw [hg, if_pos (.inl rfl), hp]; rfl)
  have r2 : rem ws a x.2.toNat = e :: rem ws (inc (inc a x.1.toNat) x.2.toNat) x.2.toNat := rem_cons hw1 hq he (by rw [hg, if_pos (.inr rfl), hq]; rfl)
  have ho := hD j y hy
  by_cases hji : j = i
  · subst hji
    rw [hx] at hy
    obtain rfl := Option.some.inj hy
    rw [r1, r2, onLine_cons, onLine_cons, if_pos k1, if_pos k2] at ho
    simp only [dualOk, Bool.and_eq_true] at ho
    exact ho.2
  · have hs : ∀ P, onLine (rem ws (inc (inc a x.1.toNat) x.2.toNat) P) j = onLine (rem ws a P) j := by
      intro P
      by_cases e1 : x.1.toNat = P
      · subst e1
        rw [r1, onLine_cons, if_neg (by omega)]
      · by_cases e2 : x.2.toNat = P
        · subst e2
          rw [r2, onLine_cons, if_neg (by omega)]
        · have : rem ws (inc (inc a x.1.toNat) x.2.toNat) P = rem ws a P := rem_set (by rw [hg, if_neg (by omega)])
          rw [this]
    rw [hs, hs]
    exact ho

theorem inv_last {ls : List Line} {ws : List (List Deed)} (hwf : WF ls ws) {a b : List Nat} (hv : Valid ws a) (hD : DualInv ls ws a) (h : Runs ls ws a b) : DualInv ls ws b := by
  induction h with
  | stop h => exact hD
  | go hi _ ih => exact ih (step_valid hwf hv hi).1 (inv_step hwf hv hD hi)

/-! #### Nobody waits -/
/-- p is at a deed; its other end, q, is at a deed of another line. -/
def Nx (ls : List Line) (ws : List (List Deed)) (a : List Nat) (p q : Nat) : Prop := ∃ d e x, cur ws a p = some d ∧ cur ws a q = some e ∧ e.1 ≠ d.1 ∧ 0 ≤ d.1 ∧ ls[d.1.toNat]? = some x ∧ Ends x p q

theorem cur_rem {ws : List (List Deed)} {a : List Nat} (hv : Valid ws a) {p : Nat} (hp : p < a.length) : cur ws a p = (rem ws a p).head? := by
  obtain ⟨k, w, a1, a2, _, _, _, a6⟩ := at_of hv hp
  rw [a6, rem_of a2 a1, List.head?_drop]

theorem head_of {l : List Deed} {d : Deed} (h : l.head? = some d) : ∃ r, l = d :: r := by
  cases l with
  | nil => cases h
  | cons x r => simp at h; subst h; exact ⟨r, rfl⟩

theorem next_of {ls : List Line} {ws : List (List Deed)} {a : List Nat} (hwf : WF ls ws) (hv : Valid ws a) (hD : DualInv ls ws a) (hr : readyL ws a ls 0 = []) {p : Nat} (hp : p < a.length) {d : Deed} (hd : cur ws a p = some d) : ∃ q, q < a.length ∧ Nx ls ws a p q := by
  obtain ⟨k, w, a1, a2, _, _, _, a6⟩ := at_of hv hp
  have hd0 := hd
  rw [a6] at hd
  obtain ⟨g1, g2, g3, g4, g5⟩ := hwf.deed p w a2 d (List.mem_of_getElem? hd)
  obtain ⟨x, hx, hxm⟩ := get_int (xs := ls) g1 g2
  obtain ⟨f1, f2, f3, f4, f5⟩ := hwf.line x hxm
  have hdi : ((d.1.toNat : Nat) : Int) = d.1 := Int.toNat_of_nonneg g1
  have hdual := hD _ x hx
  rw [hdi] at hdual
  have hal := hv.len
  obtain ⟨r, hrp⟩ := head_of (by rw [← cur_rem hv hp]; exact hd0)
  -- the other end
  have main : ∀ q : Nat, q < a.length → Ends x p q → (∀ e l, onLine (rem ws a q) d.1 = e :: l → d.2.2 = e.2.2 ∧ d.2.1 ≠ e.2.1) → onLine (rem ws a q) d.1 ≠ [] → Nx ls ws a p q := by
    intro q hq hE hf hne
    have hwt : wt ls ws a p = q := by
      unfold wt
      rw [hd0]
      simp only [hx]
      rcases hE with ⟨u, v⟩ | ⟨u, v⟩ <;> omega
    cases hrq : rem ws a q with
    | nil => rw [hrq] at hne; exact absurd rfl hne
    | cons e l =>
      have hce : cur ws a q = some e := by rw [cur_rem hv hq, hrq]; rfl
      refine ⟨d, e, x, hd0, hce, fun heq => ?_, g1, hx, hE⟩
      rw [hrq, onLine_cons, if_pos heq] at hf
      obtain ⟨u, v⟩ := hf _ _ rfl
      exact stuck hwf hv hr hd0 hce hp hwt ⟨heq.symm, u, v⟩
  have hop : ∀ q, rem ws a q = d :: r → onLine (rem ws a q) d.1 = d :: onLine r d.1 := fun q h => by rw [h, onLine_cons, if_pos rfl]
  rcases g5 x hx with e1 | e1
  · refine ⟨x.2.toNat, by omega, main _ (by omega) (.inl ⟨e1, by omega⟩) ?_ ?_⟩
    · intro e l hl
      rw [show x.1.toNat = p by omega, hop p hrp, hl] at hdual
      simp only [dualOk, Bool.and_eq_true, beq_iff_eq, Bool.not_eq_true', beq_eq_false_iff_ne] at hdual
      exact hdual.1
    · intro hl
      rw [show x.1.toNat = p by omega, hop p hrp, hl] at hdual
      simp [dualOk] at hdual
  · refine ⟨x.1.toNat, by omega, main _ (by omega) (.inr ⟨by omega, e1⟩) ?_ ?_⟩
    · intro e l hl
      rw [show x.2.toNat = p by omega, hop p hrp, hl] at hdual
      simp only [dualOk, Bool.and_eq_true, beq_iff_eq, Bool.not_eq_true', beq_eq_false_iff_ne] at hdual
      exact ⟨hdual.1.1.symm, fun h => hdual.1.2 h.symm⟩
    · intro hl
      rw [show x.2.toNat = p by omega, hop p hrp, hl] at hdual
      simp [dualOk] at hdual

theorem nobody {ls : List Line} {ws : List (List Deed)} {a : List Nat} (hwf : WF ls ws) (hv : Valid ws a) (hD : DualInv ls ws a) (hr : readyL ws a ls 0 = []) (hcut : ∀ i x, ls[i]? = some x → Cut ls i x) {p : Nat} (hp : p < a.length) {d : Deed} (hd : cur ws a p = some d) : False := by
  let St := { p : Nat // p < a.length ∧ ∃ d, cur ws a p = some d }
  have hnx : ∀ s : St, ∃ t : St, Nx ls ws a s.1 t.1 := by
    rintro ⟨p, hp, d, hd⟩
    obtain ⟨q, hq, hn⟩ := next_of hwf hv hD hr hp hd
    obtain ⟨d', e, x, _, h2, _⟩ := id hn
    exact ⟨⟨q, hq, e, h2⟩, hn⟩
  let nx : St → St := fun s => (hnx s).choose
  have hnx' : ∀ s, Nx ls ws a s.1 (nx s).1 := fun s => (hnx s).choose_spec
  let g : Nat → St := fun k => Nat.rec ⟨p, hp, d, hd⟩ (fun _ s => nx s) k
  have hg : ∀ k, Nx ls ws a (g k).1 (g (k + 1)).1 := fun k => hnx' (g k)
  refine pigeon (fun k => (g k).1) (fun k => (g k).2.1) fun b c hbc => ?_
  obtain ⟨d, e, x, h1, h2, h3, h4, h5, h6⟩ := hg b
  obtain ⟨S, s1, s2, s3⟩ := cut_any (hcut _ x h5) h6
  have key : ∀ k, S (g (b + 1 + k)).1 := by
    intro k
    induction k with
    | zero => exact s2
    | succ k ih =>
      obtain ⟨d', e', x', k1, k2, k3, k4, k5, k6⟩ := hg (b + 1 + k)
      by_cases hl : d'.1.toNat = d.1.toNat
      · rw [hl, h5] at k5
        obtain rfl := Option.some.inj k5
        have hu : (g (b + 1 + k)).1 = (g b).1 ∨ (g (b + 1 + k)).1 = (g (b + 1)).1 := by
          rcases h6 with ⟨u, v⟩ | ⟨u, v⟩ <;> rcases k6 with ⟨u', v'⟩ | ⟨u', v'⟩ <;> omega
        rcases hu with hu | hu
        · rw [hu] at ih; exact absurd ih s3
        · rw [hu, h2] at k1
          obtain rfl := Option.some.inj k1
          exact absurd (show e.1 = d.1 by omega) h3
      · exact s1 _ x' _ _ k5 hl k6 ih
  intro heq
  obtain ⟨k, rfl⟩ : ∃ k, c = b + 1 + k := ⟨c - (b + 1), by omega⟩
  have := key k
  rw [show (g (b + 1 + k)).1 = (g b).1 from heq] at this
  exact s3 this

/-- All have done their deeds. -/
theorem all_done {ls : List Line} {ws : List (List Deed)} {b : List Nat} (hwf : WF ls ws) (hd : dualL ws ls 0 < 0) (hcut : ∀ i x, ls[i]? = some x → Cut ls i x) (h : Runs ls ws (List.replicate ws.length 0) b) : Valid ws b ∧ ∀ (p : Nat) w, ws[p]? = some w → b[p]? = some w.length := by
  obtain ⟨hv, hr⟩ := runs_last hwf (valid0 ws) h
  have hD := inv_last hwf (valid0 ws) (inv0 hd) h
  refine ⟨hv, fun p w hw => ?_⟩
  have hp : p < b.length := by rw [hv.len]; exact (List.getElem?_eq_some_iff.1 hw).1
  obtain ⟨k, w', a1, a2, _, _, a5, a6⟩ := at_of hv hp
  rw [hw] at a2
  obtain rfl := Option.some.inj a2
  rcases Nat.lt_or_ge k w.length with hk | hk
  · exact (nobody hwf hv hD hr hcut hp (by rw [a6]; exact List.getElem?_eq_getElem hk)).elim
  · rw [a1]; congr 1; omega
end Go.AL.S1
