/- Regions whose order is drawn: every order leaves the same. -/
import Derived.Test.YtlmodlihiglnhaaALzb
set_option linter.unusedVariables false
set_option linter.unusedSimpArgs false
namespace Go.AL
open Go.RowKit

section
variable {P : Program} {ops : Array Oper} {ps : List (List Nat)} {np n : Nat} {X : Nat → AS} {V : Nat → AV} {Fs : Nat → Fp}

theorem pre_down (hs : Static ops ps) {D : Nat → Prop} (hd : ∀ (k : Nat) o, ops[k]? = some o → D k → ∀ j, j ∈ ons o.after.toList → D j) : ∀ (i : Nat) o, ops[i]? = some o → D i → ∀ j, j ∈ ps.getD i [] → D j := by
  intro i
  induction i using Nat.strongRecOn with
  | _ i ih =>
    intro o ho hi j hj
    obtain ⟨i', h1, h2⟩ := hs.clo i o ho j hj
    have hD := hd i o ho hi i' h1
    rcases h2 with rfl | h2
    · exact hD
    · have hlt := hs.back i o ho i' h1
      have hi'l : i' < ops.size := Nat.lt_trans hlt (Array.getElem?_eq_some_iff.1 ho).1
      exact ih i' hlt ops[i'] (Array.getElem?_eq_getElem hi'l) hD j h2

theorem pre_ready (hs : Static ops ps) {D : Nat → Prop} (hd : ∀ (k : Nat) o, ops[k]? = some o → D k → ∀ j, j ∈ ons o.after.toList → D j) {i : Nat} {o : Oper} (ho : ops[i]? = some o) (hr : ∀ j, j ∈ ons o.after.toList → D j) : ∀ j, j ∈ ps.getD i [] → D j := by
  intro j hj
  obtain ⟨i', h1, h2⟩ := hs.clo i o ho j hj
  rcases h2 with rfl | h2
  · exact hr _ h1
  · have hlt := hs.back i o ho i' h1
    have hi'l : i' < ops.size := Nat.lt_trans hlt (Array.getElem?_eq_some_iff.1 ho).1
    exact pre_down hs hd i' ops[i'] (Array.getElem?_eq_getElem hi'l) (hr i' h1) j h2

abbrev Canon (P : Program) (ops : Array Oper) (ps : List (List Nat)) (np : Nat) (X : Nat → AS) (V : Nat → AV) (Fs : Nat → Fp) (n : Nat) : Prop := ∀ k, k < n → ∃ o, StepAt P ops ps np X V Fs k o

theorem step_t {x : AS} {d : Option Tmp} {v : AV} : (x.put d v).t.length = x.t.length := by cases d <;> simp [AS.put]

theorem Canon.len (h : Canon P ops ps np X V Fs n) : ∀ i, i ≤ n → (X i).t.length = (X 0).t.length ∧ (X i).s.bx.length = (X 0).s.bx.length := by
  intro i
  induction i with
  | zero => intro _; exact ⟨rfl, rfl⟩
  | succ i ih =>
    intro hi
    obtain ⟨g1, g2⟩ := ih (by omega)
    obtain ⟨o, hst⟩ := h i (by omega)
    obtain ⟨s', e, hsh⟩ := hst.next
    rw [e]
    exact ⟨by rw [step_t]; exact g1, by rw [put_s]; exact hsh.len.trans g2⟩

theorem Canon.const (h : Canon P ops ps np X V Fs n) : ∀ (m i : Nat), i + m ≤ n →
    (∀ b, (∀ k, i ≤ k → k < i + m → b ∉ (Fs k).w) → (X (i + m)).s.bx[b]? = (X i).s.bx[b]?) ∧ ((∀ k, i ≤ k → k < i + m → (Fs k).tv = false) → (X (i + m)).s.vc = (X i).s.vc ∧ (X (i + m)).s.tp = (X i).s.tp) ∧
    ∀ t, (∀ k, i ≤ k → k < i + m → ∀ o, ops[k]? = some o → o.dst ≠ some t) → (X (i + m)).t[t]? = (X i).t[t]? := by
  intro m
  induction m with
  | zero => intro i _; exact ⟨fun _ _ => rfl, fun _ => ⟨rfl, rfl⟩, fun _ _ => rfl⟩
  | succ m ih =>
    intro i hi
    obtain ⟨g1, g2, g3⟩ := ih i (by omega)
    obtain ⟨o, hst⟩ := h (i + m) (by omega)
    obtain ⟨s', e, hsh⟩ := hst.next
    rw [show i + (m + 1) = i + m + 1 by omega, e, put_s]
    refine ⟨fun b hb => ?_, fun hb => ?_, fun t ht => ?_⟩
    · exact (hsh.same b (hb (i + m) (by omega) (by omega))).trans (g1 b fun k h1 h2 => hb k h1 (by omega))
    · obtain ⟨q1, q2⟩ := hsh.tv (hb (i + m) (by omega) (by omega))
      obtain ⟨q3, q4⟩ := g2 fun k h1 h2 => hb k h1 (by omega)
      exact ⟨q1.trans q3, q2.trans q4⟩
    · have hne := ht (i + m) (by omega) (by omega) o hst.at_
      rw [← g3 t fun k h1 h2 => ht k h1 (by omega)]
      cases hd : o.dst with
      | none => rfl
      | some d =>
        have : d ≠ t := by rintro rfl; exact hne hd
        simp only [AS.put]
        rw [List.getElem?_set_ne this]

structure Inv (ops : Array Oper) (np : Nat) (X : Nat → AS) (Fs : Nat → Fp) (n : Nat) (F : Nat → Prop) (w0 : World) (M0 : Mem) (listed : Array Bool) (G : Gh) (s : St) (a : Act) (w : World) : Prop where
  S : SRel F w0 M0 G s w
  D : a.defers = []
  size : listed.size = n
  tsize : a.tmps.size = (X 0).t.length
  len : s.bx.length = (X 0).s.bx.length
  down : ∀ (k : Nat) o, ops[k]? = some o → listed.getD k false = true → ∀ j, j ∈ ons o.after.toList → listed.getD j false = true
  B : ∀ b i, i ≤ n → (∀ k, k < n → b ∈ (Fs k).w → (listed.getD k false = true ↔ k < i)) → s.bx[b]? = (X i).s.bx[b]?
  C : ∀ i, i ≤ n → (∀ k, k < n → (Fs k).tv = true → (listed.getD k false = true ↔ k < i)) → s.vc = (X i).s.vc ∧ s.tp = (X i).s.tp
  T : ∀ t i, i ≤ n → (∀ k, k < n → ∀ o, ops[k]? = some o → o.dst = some t → (listed.getD k false = true ↔ k < i)) → ∀ b v, (X i).t[t]? = some b → a.tmps[t]? = some v → ARel G s b v
  M : ∀ b, np ≤ b → s.bx[b]? = some (true, []) → G.μ b = none

variable {F : Nat → Prop} {w0 : World} {M0 : Mem} {listed : Array Bool} {G : Gh} {s : St} {a : Act} {w : World}

theorem meets_w {f g : Fp} {b : Nat} (h1 : b ∈ f.w) (h2 : b ∈ g.r ∨ b ∈ g.w) : Fp.meets f g = true := by
  have : f.w.any (fun b => mem g.r b || mem g.w b) = true := List.any_eq_true.2 ⟨b, h1, by rcases h2 with h | h <;> simp [mem_iff.2 h]⟩
  simp [Fp.meets, this]
theorem meets_r {f g : Fp} {b : Nat} (h1 : b ∈ g.w) (h2 : b ∈ f.r ∨ b ∈ f.w) : Fp.meets f g = true := by
  rcases h2 with h2 | h2
  · have : g.w.any (fun b => mem f.r b) = true := List.any_eq_true.2 ⟨b, h1, mem_iff.2 h2⟩
    simp [Fp.meets, this]
  · exact meets_w h2 (.inr h1)
theorem meets_tv {f g : Fp} (h1 : f.tv = true) (h2 : g.tv = true) : Fp.meets f g = true := by simp [Fp.meets, h1, h2]

/-- Where an operation may come up: who is ordered with it has come up, or has not, as in the text. -/
theorem Inv.ordered (hs : Static ops ps) (hc : Canon P ops ps np X V Fs n) (hn : n = ops.size) (h : Inv ops np X Fs n F w0 M0 listed G s a w) {i : Nat} (hi : i ∈ Region.ready .any ops listed) {o : Oper} (ho : ops[i]? = some o) :
    (∀ b, b ∈ (Fs i).r ∨ b ∈ (Fs i).w → ∀ k, k < n → b ∈ (Fs k).w → (listed.getD k false = true ↔ k < i)) ∧ ((Fs i).tv = true → ∀ k, k < n → (Fs k).tv = true → (listed.getD k false = true ↔ k < i)) ∧
    (∀ t, t ∈ o.looksAt ops ∨ o.dst = some t → ∀ k, k < n → ∀ o', ops[k]? = some o' → o'.dst = some t → (listed.getD k false = true ↔ k < i)) ∧ listed.getD i false = false ∧ i < n ∧ ∀ j, j ∈ ons o.after.toList → listed.getD j false = true := by
  obtain ⟨h0, o', ho', hall⟩ := mem_ready.1 hi
  rw [ho] at ho'
  obtain rfl := Option.some.inj ho'
  have hil : i < listed.size := by
    rcases Nat.lt_or_ge i listed.size with hl | hl
    · exact hl
    · simp [Array.getElem?_eq_none hl] at h0
  have hnd : listed.getD i false = false := by simp [hil] at h0 ⊢; exact h0
  have hons : ∀ j, j ∈ ons o.after.toList → listed.getD j false = true := fun j hj => by
    obtain ⟨e, h1, h2, rfl⟩ := ons_mem.1 hj
    exact hall e (by simpa using h1) h2
  have hpre := pre_ready hs (D := fun k => listed.getD k false = true) h.down ho hons
  have hlater : ∀ k, k < n → i ∈ ps.getD k [] → ¬ listed.getD k false = true := by
    intro k hk hik hD
    have := pre_down hs (D := fun k => listed.getD k false = true) h.down k ops[k] (Array.getElem?_eq_getElem (by omega)) hD i hik
    rw [hnd] at this; cases this
  have gen : ∀ k, k < n → (k < i → Fp.meets (Fs k) (Fs i) = true) → (i < k → Fp.meets (Fs i) (Fs k) = true) → (listed.getD k false = true ↔ k < i) := by
    intro k hk m1 m2
    rcases Nat.lt_trichotomy k i with hlt | rfl | hlt
    · obtain ⟨_, hst⟩ := hc i (by rw [← h.size]; exact hil)
      exact ⟨fun _ => hlt, fun _ => hpre k (hst.meets k hlt (m1 hlt))⟩
    · exact ⟨fun hD => (by rw [hnd] at hD; cases hD), fun hl => (by omega)⟩
    · obtain ⟨_, hst⟩ := hc k hk
      exact ⟨fun hD => absurd hD (hlater k hk (hst.meets i hlt (m2 hlt))), fun hl => by omega⟩
  refine ⟨fun b hb k hk hbk => gen k hk (fun _ => meets_w hbk hb) (fun _ => meets_r hbk hb), fun ht k hk htk => gen k hk (fun _ => meets_tv htk ht) (fun _ => meets_tv ht htk), fun t ht k hk o' ho' hd => ?_, hnd, by rw [← h.size]; exact hil, hons⟩
  by_cases hki : k = i
  · subst hki
    exact ⟨fun hD => (by rw [hnd] at hD; cases hD), fun hl => (by omega)⟩
  · obtain ⟨s1, s2⟩ := hs.slots i o ho k o' t ho' hd hki ht
    by_cases hlt : k < i
    · exact ⟨fun _ => hlt, fun _ => hpre k (s1 hlt)⟩
    · exact ⟨fun hD => absurd hD (hlater k hk (s2 hlt)), fun hl => absurd hl hlt⟩

theorem getD_set {listed : Array Bool} {i : Nat} (hi : i < listed.size) (k : Nat) : (listed.setIfInBounds i true).getD k false = true ↔ (listed.getD k false = true ∨ k = i) := by
  by_cases hk : k = i
  · subst hk; simp [hi]
  · rw [getD_set_ne false (Ne.symm hk)]
    simp [hk]

theorem Inv.step (hs : Static ops ps) (hc : Canon P ops ps np X V Fs n) (hn : n = ops.size) (h : Inv ops np X Fs n F w0 M0 listed G s a w) {i : Nat} (hi : i ∈ Region.ready .any ops listed) {o : Oper} (hst : StepAt P ops ps np X V Fs i o) {u : Value} {w' : World}
    (hp : Post F w0 M0 G s (V i) (X (i + 1)).s (Fs i) u w') : ∃ G' s', Inv ops np X Fs n F w0 M0 (listed.setIfInBounds i true) G' s' (a.put o.dst u) w' := by
  obtain ⟨o1, o2, o3, hnd, hin, hons⟩ := h.ordered hs hc hn hi hst.at_
  obtain ⟨G', s', k1, k2, k3, k4, k5, k6, k7, k8, k9⟩ := hp
  have hil : i < listed.size := by rw [h.size]; exact hin
  have hD : ∀ k, (listed.setIfInBounds i true).getD k false = true ↔ (listed.getD k false = true ∨ k = i) := getD_set hil
  obtain ⟨sx, e, hsh⟩ := hst.next
  have hxs : (X (i + 1)).s = sx := by rw [e, put_s]
  have later : ∀ i' k, i + 1 ≤ k → k < i' → (∀ j, j = k → ((listed.setIfInBounds i true).getD j false = true ↔ j < i')) → listed.getD k false = true := by
    intro i' k h1 h2 hc'
    rcases (hD k).1 ((hc' k rfl).2 h2) with hd | hd
    · exact hd
    · omega
  refine ⟨G', s', k1, ?_, by simpa using h.size, ?_, k5.trans h.len, ?_, ?_, ?_, ?_, ?_⟩
  · cases o.dst <;> exact h.D
  · cases hd : o.dst <;> simp [Act.put, h.tsize]
  · intro k ok hok hk j hj
    rw [hD] at hk ⊢
    rcases hk with hk | rfl
    · exact .inl (h.down k ok hok hk j hj)
    · rw [hst.at_] at hok
      obtain rfl := Option.some.inj hok
      exact .inl (hons j hj)
  · intro b i' hi' hw
    by_cases hb : b ∈ (Fs i).w
    · have hlt : i < i' := (hw i hin hb).1 ((hD i).2 (.inr rfl))
      rw [k6 b hb]
      have := (hc.const (i' - (i + 1)) (i + 1) (by omega)).1 b fun k h1 h2 hbk => by
        have hdk := later i' k h1 (by omega) (fun j hj => by subst hj; exact hw j (by omega) hbk)
        have := (o1 b (.inr hb) k (by omega) hbk).1 hdk
        omega
      rw [show i + 1 + (i' - (i + 1)) = i' by omega] at this
      exact this.symm
    · rw [k7 b hb]
      refine h.B b i' hi' fun k hk hbk => ?_
      rw [← hw k hk hbk, hD]
      constructor
      · exact .inl
      · rintro (hd | rfl)
        · exact hd
        · exact absurd hbk hb
  · intro i' hi' hw
    cases ht : (Fs i).tv with
    | true =>
      have hlt : i < i' := (hw i hin ht).1 ((hD i).2 (.inr rfl))
      have := (hc.const (i' - (i + 1)) (i + 1) (by omega)).2.1 fun k h1 h2 => by
        cases htk : (Fs k).tv with
        | false => rfl
        | true =>
          have hdk := later i' k h1 (by omega) (fun j hj => by subst hj; exact hw j (by omega) htk)
          have := (o2 ht k (by omega) htk).1 hdk
          omega
      rw [show i + 1 + (i' - (i + 1)) = i' by omega] at this
      obtain ⟨q1, q2⟩ := k8 ht
      exact ⟨q1.trans this.1.symm, q2.trans this.2.symm⟩
    | false =>
      obtain ⟨q1, q2⟩ := k9 ht
      obtain ⟨q3, q4⟩ := h.C i' hi' fun k hk htk => by
        rw [← hw k hk htk, hD]
        constructor
        · exact .inl
        · rintro (hd | rfl)
          · exact hd
          · rw [ht] at htk; cases htk
      exact ⟨q1.trans q3, q2.trans q4⟩
  · intro t i' hi' hw b v hb hv
    by_cases hd : o.dst = some t
    · have hlt : i < i' := (hw i hin o hst.at_ hd).1 ((hD i).2 (.inr rfl))
      have := (hc.const (i' - (i + 1)) (i + 1) (by omega)).2.2 t fun k h1 h2 ok hok hdk => by
        have hdk' := later i' k h1 (by omega) (fun j hj => by subst hj; exact hw j (by omega) ok hok hdk)
        have := (o3 t (.inr hd) k (by omega) ok hok hdk).1 hdk'
        omega
      rw [show i + 1 + (i' - (i + 1)) = i' by omega] at this
      rw [this, e, hd] at hb
      have htl : t < ({ X i with s := sx } : AS).t.length := by
        rcases Nat.lt_or_ge t ({ X i with s := sx } : AS).t.length with hl | hl
        · exact hl
        · rw [List.getElem?_eq_none (by rw [step_t]; exact hl)] at hb; cases hb
      simp only [AS.put] at hb
      rw [List.getElem?_set_self htl] at hb
      obtain rfl := Option.some.inj hb
      have htl' : t < a.tmps.size := by rw [h.tsize, ← (hc.len i (by omega)).1]; exact htl
      rw [hd] at hv
      simp [Act.put, htl'] at hv
      subst hv
      exact k4
    · have hv' : a.tmps[t]? = some v := by
        cases hdst : o.dst with
        | none => rw [hdst] at hv; exact hv
        | some d =>
          rw [hdst] at hv hd
          have : d ≠ t := by rintro rfl; exact hd rfl
          simpa [Act.put, Array.getElem?_setIfInBounds_ne this] using hv
      refine k2 _ _ (h.T t i' hi' (fun k hk ok hok hdk => ?_) b v hb hv')
      rw [← hw k hk ok hok hdk, hD]
      constructor
      · exact .inl
      · rintro (hdd | rfl)
        · exact hdd
        · rw [hst.at_] at hok
          obtain rfl := Option.some.inj hok
          exact absurd hdk hd
  · intro b hb hbx
    by_cases hbw : b ∈ (Fs i).w
    · rw [k6 b hbw, hxs] at hbx
      obtain ⟨cs, hcs⟩ := hsh.wr b hbw
      rw [hcs] at hbx; cases hbx
    · rw [k7 b hbw] at hbx
      exact k3 b (List.getElem?_eq_some_iff.1 hbx).1 hbw (h.M b hb hbx)

theorem Inv.done (hc : Canon P ops ps np X V Fs n) (hn : n = ops.size) (hs : Static ops ps) (h : Inv ops np X Fs n F w0 M0 listed G s a w) (hr : Region.ready .any ops listed = []) : R F w0 M0 G (X n) a w := by
  have all : ∀ k, k < n → listed.getD k false = true := by
    intro k
    induction k using Nat.strongRecOn with
    | _ k ih =>
      intro hk
      have hok : ops[k]? = some ops[k] := Array.getElem?_eq_getElem (by omega)
      cases hD : listed.getD k false with
      | true => rfl
      | false =>
        have : k ∈ Region.ready .any ops listed := by
          refine mem_ready.2 ⟨?_, ops[k], hok, fun e he hb => ?_⟩
          · have hl : k < listed.size := by rw [h.size]; exact hk
            simp [hl] at hD ⊢; exact hD
          · have hj : e.on ∈ ons (ops[k]).after.toList := ons_mem.2 ⟨e, by simpa using he, hb, rfl⟩
            have hlt := hs.back k _ hok e.on hj
            exact ih e.on hlt (by omega)
        rw [hr] at this; cases this
  have hiff : ∀ k, k < n → (listed.getD k false = true ↔ k < n) := fun k hk => ⟨fun _ => hk, fun _ => all k hk⟩
  have hbx : s.bx = (X n).s.bx := List.ext_getElem? fun b => h.B b n (Nat.le_refl _) fun k hk _ => hiff k hk
  obtain ⟨hv, ht⟩ := h.C n (Nat.le_refl _) fun k hk _ => hiff k hk
  have hs' : s = (X n).s := by
    obtain ⟨b1, v1, t1⟩ := s
    generalize hX : (X n).s = y at hbx hv ht
    obtain ⟨b2, v2, t2⟩ := y
    simp only at hbx hv ht
    subst hbx; subst hv; subst ht; rfl
  refine ⟨hs' ▸ h.S, ⟨by rw [h.tsize, (hc.len n (Nat.le_refl _)).1], fun t b v hb hv => ?_⟩, h.D⟩
  have := h.T t n (Nat.le_refl _) (fun k hk _ _ _ => hiff k hk) b v hb hv
  rw [← hs']; exact this

theorem Inv.any {Q : Exit → Act → World → Prop} (hs : Static ops ps) (hc : Canon P ops ps np X V Fs n) (hn : n = ops.size) (hQ : ∀ G a w, R F w0 M0 G (X n) a w → Q .normal a w) : ∀ (fuel : Nat) {listed : Array Bool} {G : Gh} {s : St} {a : Act} {w : World} (L : List Nat), Inv ops np X Fs n F w0 M0 listed G s a w →
    (∀ k, k < n → listed.getD k false = false → k ∈ L) → L.length ≤ fuel → wpAny P .any ops Q fuel listed a w
  | 0, listed, G, s, a, w, L, h, hL, hf => by
    have hLe : L = [] := List.eq_nil_of_length_eq_zero (by omega)
    subst hLe
    have hr : Region.ready .any ops listed = [] := by
      cases he : Region.ready .any ops listed with
      | nil => rfl
      | cons i l =>
        have hi : i ∈ Region.ready .any ops listed := by rw [he]; simp
        obtain ⟨_, o, ho, _⟩ := mem_ready.1 hi
        obtain ⟨_, _, _, hnd, hin, _⟩ := h.ordered hs hc hn hi ho
        cases hL i hin hnd
    exact ⟨hr, hQ G a w (h.done hc hn hs hr)⟩
  | fuel + 1, listed, G, s, a, w, L, h, hL, hf => by
    refine ⟨fun hr => hQ G a w (h.done hc hn hs hr), fun i hi => ?_⟩
    obtain ⟨_, o, ho, _⟩ := mem_ready.1 hi
    obtain ⟨o1, o2, o3, hnd, hin, hons⟩ := h.ordered hs hc hn hi ho
    obtain ⟨o', hst⟩ := hc i hin
    have hoo : o' = o := by have := hst.at_; rw [ho] at this; exact (Option.some.inj this).symm
    subst hoo
    have hlook : ∀ t, t ∈ o'.looksAt ops → ∀ b v, (X i).t[t]? = some b → a.tmps[t]? = some v → ARel G s b v := fun t ht b v hb hv => h.T t i (by omega) (o3 t (.inl ht)) b v hb hv
    have htl : a.tmps.size = (X i).t.length := by rw [h.tsize, (hc.len i (by omega)).1]
    have next : ∀ u w', Post F w0 M0 G s (V i) (X (i + 1)).s (Fs i) u w' → wpAny P .any ops Q fuel (listed.setIfInBounds i true) (a.put o'.dst u) w' := by
      intro u w' hp
      obtain ⟨G', s', h'⟩ := h.step hs hc hn hi hst hp
      have hil : i < listed.size := by rw [h.size]; exact hin
      refine Inv.any hs hc hn hQ fuel (L.erase i) h' (fun k hk hd => ?_) (by rw [List.length_erase_of_mem (hL i hin hnd)]; omega)
      have hne : ¬ (listed.getD k false = true ∨ k = i) := by
        rw [← getD_set hil k, hd]; simp
      have hki : k ≠ i := fun e => hne (.inr e)
      refine (List.mem_erase_of_ne hki).2 (hL k hk ?_)
      cases hdk : listed.getD k false with
      | false => rfl
      | true => exact absurd (.inl hdk) hne
    unfold wpOp
    rw [ho]
    simp only
    rcases hst.sem with ⟨g1, g2⟩ | ⟨g1, g2, g3, g4⟩
    · rw [if_pos (g2 a G s htl hlook)]
      refine .inl (g1 F w0 M0 G s a w h.S (avR_rel htl hlook) ⟨by rw [h.len, (hc.len i (by omega)).2], fun b hb => h.B b i (by omega) (o1 b hb), fun ht => h.C i (by omega) (o2 ht), h.M⟩ _ _ next)
    · rw [if_neg (by rw [g4 a G s htl hlook]; simp)]
      refine next undef w ⟨G, s, h.S, fun _ _ hz => hz, fun _ _ _ hm => hm, by rw [g1]; rfl, rfl, fun b hb => (by rw [g3] at hb; cases hb), fun _ _ => rfl, fun ht => (by rw [g3] at ht; cases ht), fun _ => ⟨rfl, rfl⟩⟩
end

theorem draw_sound {P : Program} (hT : TOk P) (hF : FOk P) (hm : P.follows .mixedOrders = true) {E : Env} {f : FuncId} {ρ : Type} (hc : CallOk P E.call) : DrawOk P E f ρ := by
  intro F w0 M0 G id ops x K r a w Q h hR hQ
  unfold draw at h
  replace h := bif_some h; obtain ⟨h0, h⟩ := h
  have hs := static_of h0
  obtain ⟨G1, p1, p2, p3⟩ := hR.S.pend (pending ops.toList)
  obtain ⟨X, V, Fs, e1, _, e3, e4⟩ := effsD_canon hT hF hc h (by simp) rfl
  simp only [Nat.zero_add, Array.length_toList] at e3 e4
  refine wp_region_any hm (Inv.any (n := ops.size) (F := F) (w0 := w0) (M0 := M0) (G := G1) (s := (X 0).s) hs (fun k hk => e4 k (Nat.zero_le _) hk) rfl (fun G a w hR' => hQ _ G a w e3 hR') ops.size (List.range ops.size) ?_ (fun k hk _ => List.mem_range.2 hk) (by simp))
  have no : ∀ k, (Array.replicate ops.size false).getD k false = true → False := fun k hk => by
    by_cases hl : k < ops.size <;> simp [hl] at hk
  have hiff : ∀ {i : Nat} {q : Nat → Prop}, True := trivial
  refine ⟨?_, hR.D, by simp, by rw [e1]; exact hR.T.1, rfl, fun k o _ hk => (no k hk).elim, fun b i hi hw => ?_, fun i hi hw => ?_, fun t i hi hw b v hb hv => ?_, fun b hb hbx => p3 b hb⟩
  · rw [e1]; exact p1.drew
  · have := (Canon.const (n := ops.size) (fun k hk => e4 k (Nat.zero_le _) hk) i 0 (by omega)).1 b fun k _ h2 hb => no k ((hw k (by omega) hb).2 (by omega))
    rw [Nat.zero_add] at this
    exact this.symm
  · have := (Canon.const (n := ops.size) (fun k hk => e4 k (Nat.zero_le _) hk) i 0 (by omega)).2.1 fun k _ h2 => by
      cases ht : (Fs k).tv with
      | false => rfl
      | true => exact (no k ((hw k (by omega) ht).2 (by omega))).elim
    rw [Nat.zero_add] at this
    exact ⟨this.1.symm, this.2.symm⟩
  · have := (Canon.const (n := ops.size) (fun k hk => e4 k (Nat.zero_le _) hk) i 0 (by omega)).2.2 t fun k _ h2 o ho hd => no k ((hw k (by omega) o ho hd).2 (by omega))
    rw [Nat.zero_add] at this
    rw [this, e1] at hb
    rw [e1]
    exact (hR.T.2 t b v hb hv).ext p2

/-- What the abstract machine says of a call, the machine does. -/
theorem sound {P : Program} (hT : TOk P) (hF : FOk P) (hm : P.follows .mixedOrders = true) {T : Tab} (hp : PrimOk P T) (n : Nat) : CallOk P (acall P T n) :=
  acall_sound hT hF (fun E f hc => draw_sound hT hF hm hc) hp n
end Go.AL
