/- Sessions: bisimulation. Plain Lean. -/
import Derived.Test.YtlmodlihiglnhaaS2Sub
set_option linter.unusedVariables false
set_option linter.unusedSimpArgs false
namespace Go.AL.S2.Se
open Go Go.AL Go.AL.S2

def At (a : List Sta) (i : Int) (x : Sta) : Prop := 0 ≤ i ∧ a[i.toNat]? = some x
theorem At.inj {a : List Sta} {i : Int} {x y : Sta} (h : At a i x) (h' : At a i y) : x = y := by
  have := h.2.symm.trans h'.2
  exact Option.some.inj this
theorem At.lt {a : List Sta} {i : Int} {x : Sta} (h : At a i x) : i.toNat < a.length := (List.getElem?_eq_some_iff.1 h.2).1
def BrR (R : Int → Int → Prop) : List Br → List Br → Prop
  | [], [] => True
  | b :: l, c :: m => b.1 = c.1 ∧ R b.2 c.2 ∧ BrR R l m
  | _, _ => False
theorem BrR.mono {R S : Int → Int → Prop} (h : ∀ i j, R i j → S i j) : ∀ {l m : List Br}, BrR R l m → BrR S l m
  | [], [], _ => trivial
  | _ :: _, [], k => k.elim
  | [], _ :: _, k => k.elim
  | _ :: _, _ :: _, ⟨a, b, c⟩ => ⟨a, h _ _ b, BrR.mono h c⟩
theorem BrR.symm {R : Int → Int → Prop} : ∀ {l m : List Br}, BrR R l m → BrR (fun i j => R j i) m l
  | [], [], _ => trivial
  | _ :: _, [], k => k.elim
  | [], _ :: _, k => k.elim
  | _ :: _, _ :: _, ⟨a, b, c⟩ => ⟨a.symm, b, BrR.symm c⟩
theorem BrR.comp {R S : Int → Int → Prop} : ∀ {l m n : List Br}, BrR R l m → BrR S m n → BrR (fun i k => ∃ j, R i j ∧ S j k) l n
  | [], [], [], _, _ => trivial
  | _ :: _, _ :: _, _ :: _, ⟨a, b, c⟩, ⟨a', b', c'⟩ => ⟨a.trans a', ⟨_, b, b'⟩, BrR.comp c c'⟩
  | _ :: _, [], _, k, _ => k.elim
  | [], _ :: _, _, k, _ => k.elim
  | _ :: _, _ :: _, [], _, k => k.elim
  | [], [], _ :: _, _, k => k.elim
theorem BrR.refl {R : Int → Int → Prop} : ∀ {l : List Br}, (∀ b, b ∈ l → R b.2 b.2) → BrR R l l
  | [], _ => trivial
  | b :: l, h => ⟨rfl, h b (by simp), BrR.refl fun c hc => h c (by simp [hc])⟩
theorem BrR.len {R : Int → Int → Prop} : ∀ {l m : List Br}, BrR R l m → l.length = m.length
  | [], [], _ => rfl
  | _ :: _, [], k => k.elim
  | [], _ :: _, k => k.elim
  | _ :: _, _ :: _, ⟨_, _, c⟩ => by simp [BrR.len c]
theorem BrR.nxt {R : Int → Int → Prop} (m : Int) : ∀ {l l' : List Br}, BrR R l l' → (nxt m l = none ∧ nxt m l' = none) ∨ ∃ n n', nxt m l = some n ∧ nxt m l' = some n' ∧ R n n'
  | [], [], _ => .inl ⟨rfl, rfl⟩
  | _ :: _, [], k => k.elim
  | [], _ :: _, k => k.elim
  | b :: l, c :: l', ⟨h1, h2, h3⟩ => by
    simp only [Se.nxt]
    by_cases hb : b.1 = m
    · rw [if_pos hb, if_pos (h1 ▸ hb)]
      exact .inr ⟨_, _, rfl, rfl, h2⟩
    · rw [if_neg hb, if_neg (fun e => hb (h1.trans e))]
      exact BrR.nxt m h3

def Bis (a b : List Sta) (R : Int → Int → Prop) : Prop := ∀ i j, R i j → ∃ x y, At a i x ∧ At b j y ∧ x.1 = y.1 ∧ BrR R x.2 y.2
def Eqv (a b : List Sta) (i j : Int) : Prop := ∃ R, Bis a b R ∧ R i j
theorem bis_eqv (a b : List Sta) : Bis a b (Eqv a b) := by
  rintro i j ⟨R, h1, h2⟩
  obtain ⟨x, y, k1, k2, k3, k4⟩ := h1 i j h2
  exact ⟨x, y, k1, k2, k3, k4.mono fun i j h => ⟨R, h1, h⟩⟩
theorem Eqv.symm {a b : List Sta} {i j : Int} (h : Eqv a b i j) : Eqv b a j i := by
  obtain ⟨R, h1, h2⟩ := h
  refine ⟨fun i j => R j i, fun i j hij => ?_, h2⟩
  obtain ⟨x, y, k1, k2, k3, k4⟩ := h1 j i hij
  exact ⟨y, x, k2, k1, k3.symm, k4.symm⟩
theorem Eqv.trans {a b c : List Sta} {i j k : Int} (h : Eqv a b i j) (h' : Eqv b c j k) : Eqv a c i k := by
  obtain ⟨R, h1, h2⟩ := h
  obtain ⟨S, h3, h4⟩ := h'
  refine ⟨fun i k => ∃ j, R i j ∧ S j k, ?_, j, h2, h4⟩
  rintro i k ⟨j, r, s⟩
  obtain ⟨x, y, k1, k2, k3, k4⟩ := h1 i j r
  obtain ⟨y', z, l1, l2, l3, l4⟩ := h3 j k s
  obtain rfl := k2.inj l1
  exact ⟨x, z, k1, l2, k3.trans l3, k4.comp l4⟩
theorem Eqv.at1 {a b : List Sta} {i j : Int} (h : Eqv a b i j) : ∃ x y, At a i x ∧ At b j y ∧ x.1 = y.1 ∧ BrR (Eqv a b) x.2 y.2 := bis_eqv a b i j h
theorem wf_at {a : List Sta} (ha : WF a) {s : Sta} (hs : s ∈ a) {b : Br} (hb : b ∈ s.2) : ∃ x, At a b.2 x := by
  obtain ⟨_, _, _, _, h⟩ := ha.st s hs
  obtain ⟨_, _, h3, h4⟩ := h b hb
  obtain ⟨x, hx, _⟩ := get_int h3 h4
  exact ⟨x, h3, hx⟩
theorem Eqv.refl {a : List Sta} (ha : WF a) {i : Int} {x : Sta} (h : At a i x) : Eqv a a i i := by
  refine ⟨fun i j => i = j ∧ ∃ x, At a i x, ?_, rfl, x, h⟩
  rintro i j ⟨rfl, x, hx⟩
  exact ⟨x, x, hx, hx, rfl, BrR.refl fun b hb => ⟨rfl, wf_at ha (List.mem_of_getElem? hx.2) hb⟩⟩
theorem at0 {a : List Sta} (ha : WF a) : ∃ x, At a 0 x := by
  obtain ⟨x, hx, _⟩ := get_int (xs := a) (i := 0) (Int.le_refl _) (by have := ha.pos; omega)
  exact ⟨x, Int.le_refl _, hx⟩

/-! #### Sorted branches -/
def Srt (l : List Br) : Prop := l.Pairwise fun b c => b.1 < c.1
theorem ckB_low {n : Int} : ∀ {l : List Br} {m : Int}, ckB n (some m) l = 0 → ∀ b, b ∈ l → m < b.1
  | [], _, _, b, hb => by cases hb
  | c :: l, m, h, b, hb => by
    simp only [ckB] at h
    repeat' (split at h; · cases h)
    rcases List.mem_cons.1 hb with rfl | hb
    · omega
    · have := ckB_low h b hb; omega
theorem ckB_srt {n : Int} : ∀ {l : List Br} {p : Option Int}, ckB n p l = 0 → Srt l
  | [], _, _ => List.Pairwise.nil
  | c :: l, p, h => by
    have h' : ckB n (some c.1) l = 0 := by
      simp only [ckB] at h
      split at h
      · cases h
      split at h
      · cases h
      split at h
      · cases h
      split at h
      · cases h
      cases p with
      | none => exact h
      | some m =>
        simp only at h
        split at h
        · cases h
        · exact h
    exact List.Pairwise.cons (fun b hb => ckB_low h' b hb) (ckB_srt h')
theorem chk_srt {a : List Sta} (h : chk a = 0) {s : Sta} (hs : s ∈ a) : ckB a.length none s.2 = 0 := by
  unfold chk at h
  split at h
  · cases h
  split at h
  · cases h
  exact (ckS_ok h s hs).2.2.2.2
theorem ckB_turn {n n' : Int} {R : Int → Int → Prop} (hR : ∀ i j, R i j → 0 ≤ j ∧ j < n') : ∀ {l l' : List Br} {p : Option Int}, BrR R l l' → ckB n p l = 0 → ckB n' p l' = 0
  | [], [], _, _, _ => rfl
  | _ :: _, [], _, k, _ => k.elim
  | [], _ :: _, _, k, _ => k.elim
  | b :: l, c :: l', p, ⟨h1, h2, h3⟩, h => by
    obtain ⟨g1, g2⟩ := hR _ _ h2
    simp only [ckB] at h ⊢
    rw [← h1, if_neg (show ¬ c.2 < 0 by omega), if_neg (show ¬ c.2 ≥ n' by omega)]
    split at h
    · cases h
    split at h
    · cases h
    split at h
    · cases h
    split at h
    · cases h
    rename_i e1 e2 e3 e4
    rw [if_neg e1, if_neg e2]
    cases p with
    | none => exact ckB_turn hR h3 h
    | some m =>
      simp only at h ⊢
      split at h
      · cases h
      · rename_i e5
        rw [if_neg e5]
        exact ckB_turn hR h3 h

theorem srt_rel {R : Int → Int → Prop} : ∀ {l l' : List Br}, Srt l → Srt l' → (∀ c, c ∈ l → ∃ n, nxt c.1 l' = some n) → (∀ c, c ∈ l' → ∃ n, nxt c.1 l = some n) → (∀ c, c ∈ l → R ((nxt c.1 l).getD 0) ((nxt c.1 l').getD 0)) → BrR R l l'
  | [], [], _, _, _, _, _ => trivial
  | [], c :: l', _, _, _, h, _ => by
    obtain ⟨n, hn⟩ := h c (by simp)
    cases hn
  | b :: l, [], _, _, h, _, _ => by
    obtain ⟨n, hn⟩ := h b (by simp)
    cases hn
  | b :: l, c :: l', s1, s2, h1, h2, h3 => by
    obtain ⟨p1, q1⟩ := List.pairwise_cons.1 s1
    obtain ⟨p2, q2⟩ := List.pairwise_cons.1 s2
    have e : b.1 = c.1 := by
      obtain ⟨n, hn⟩ := h1 b (by simp)
      obtain ⟨d, d1, d2⟩ := nxt_in hn
      obtain ⟨n', hn'⟩ := h2 c (by simp)
      obtain ⟨f, f1, f2⟩ := nxt_in hn'
      have a1 : c.1 ≤ b.1 := by
        rcases List.mem_cons.1 d1 with rfl | d1
        · omega
        · have := p2 d d1; omega
      have a2 : b.1 ≤ c.1 := by
        rcases List.mem_cons.1 f1 with rfl | f1
        · omega
        · have := p1 f f1; omega
      omega
    have k1 : ∀ d, d ∈ l → nxt d.1 (b :: l) = nxt d.1 l := fun d hd => by
      have := p1 d hd
      simp only [nxt]; rw [if_neg (by omega)]
    have k2 : ∀ d : Br, b.1 < d.1 → nxt d.1 (c :: l') = nxt d.1 l' := fun d hd => by
      simp only [nxt]; rw [if_neg (by omega)]
    refine ⟨e, ?_, srt_rel q1 q2 (fun d hd => ?_) (fun d hd => ?_) fun d hd => ?_⟩
    · have := h3 b (by simp)
      simp only [nxt, if_pos e.symm] at this
      simpa using this
    · obtain ⟨n, hn⟩ := h1 d (by simp [hd])
      rw [k2 d (p1 d hd)] at hn
      exact ⟨n, hn⟩
    · obtain ⟨n, hn⟩ := h2 d (by simp [hd])
      have hlt := p2 d hd
      simp only [nxt] at hn
      rw [if_neg (by omega)] at hn
      exact ⟨n, hn⟩
    · have := h3 d (by simp [hd])
      rw [k1 d hd, k2 d (p1 d hd)] at this
      exact this

/-- What can be used for each other is bisimilar. -/
theorem same_eqv {a b : List Sta} (ha : chk a = 0) (hb : chk b = 0) : (Subs a b ∧ Subs b a) ↔ Eqv a b 0 0 := by
  constructor
  · rintro ⟨⟨R, hR, r0⟩, ⟨S, hS, s0⟩⟩
    refine ⟨fun i j => 0 ≤ i ∧ 0 ≤ j ∧ R (i, j) ∧ S (j, i), ?_, Int.le_refl _, Int.le_refl _, r0, s0⟩
    rintro i j ⟨i0, j0, r, s⟩
    obtain ⟨l1, q1, t1⟩ := hR _ r
    obtain ⟨l2, q2, t2⟩ := hS _ s
    obtain ⟨x, y, x1, x2, x3, x4⟩ := step_of q1
    obtain ⟨y', x', y1, y2, y3, y4⟩ := step_of q2
    simp only at x1 x2 y1 y2
    rw [x2] at y1; obtain rfl := Option.some.inj y1
    rw [x1] at y2; obtain rfl := Option.some.inj y2
    have hxm := List.mem_of_getElem? x1
    have hym := List.mem_of_getElem? x2
    refine ⟨x, y, ⟨i0, x1⟩, ⟨j0, x2⟩, x3, ?_⟩
    have wa := chk_ok ha
    have wb := chk_ok hb
    have key : (∀ c, c ∈ x.2 → ∃ n, nxt c.1 y.2 = some n) ∧ (∀ c, c ∈ y.2 → ∃ n, nxt c.1 x.2 = some n) ∧ (∀ c, c ∈ x.2 → R ((nxt c.1 x.2).getD 0, (nxt c.1 y.2).getD 0)) ∧ (∀ c, c ∈ x.2 → S ((nxt c.1 y.2).getD 0, (nxt c.1 x.2).getD 0)) := by
      unfold stepXY at x4 y4
      rw [if_neg (by simpa using x3)] at x4
      rw [if_neg (by simpa using y3)] at y4
      by_cases h2 : x.1 = 2
      · rw [if_pos h2] at x4
        rw [if_pos (x3 ▸ h2)] at y4
        have m1 : ∀ c, c ∈ x.2 → ∃ n, nxt c.1 y.2 = some n := fun c hc => (sucL_need y4 c hc).1
        refine ⟨m1, fun c hc => (sucL_need x4 c hc).1, fun c hc => ?_, fun c hc => t2 _ (sucL_need y4 c hc).2⟩
        obtain ⟨n, hn⟩ := m1 c hc
        obtain ⟨d, d1, d2⟩ := nxt_in hn
        rw [← d2]
        exact t1 _ (sucL_need x4 d d1).2
      · rw [if_neg h2] at x4
        rw [if_neg (fun e => h2 (x3.trans e))] at y4
        have m1 : ∀ c, c ∈ x.2 → ∃ n, nxt c.1 y.2 = some n := fun c hc => (sucL_need x4 c hc).1
        refine ⟨m1, fun c hc => (sucL_need y4 c hc).1, fun c hc => t1 _ (sucL_need x4 c hc).2, fun c hc => ?_⟩
        obtain ⟨n, hn⟩ := m1 c hc
        obtain ⟨d, d1, d2⟩ := nxt_in hn
        rw [← d2]
        exact t2 _ (sucL_need y4 d d1).2
    obtain ⟨k1, k2, k3, k4⟩ := key
    exact srt_rel (ckB_srt (chk_srt ha hxm)) (ckB_srt (chk_srt hb hym)) k1 k2 fun c hc => ⟨(getD_in wa hxm c.1).1, (getD_in wb hym c.1).1, k3 c hc, k4 c hc⟩
  · intro h
    have go : ∀ {a b : List Sta}, Eqv a b 0 0 → Subs a b := by
      intro a b h
      refine ⟨fun p => Eqv a b p.1 p.2, fun p hp => ?_, h⟩
      obtain ⟨x, y, x1, y1, hk, hB⟩ := hp.at1
      have hst : step a b p = stepXY x y := by simp only [step, x1.2, y1.2]
      have hq : ∀ c, (∃ n, nxt c x.2 = some n) ∨ (∃ n, nxt c y.2 = some n) → (∃ n, nxt c x.2 = some n) ∧ (∃ n, nxt c y.2 = some n) ∧ Eqv a b ((nxt c x.2).getD 0) ((nxt c y.2).getD 0) := fun c hc => by
        rcases hB.nxt c with ⟨e1, e2⟩ | ⟨n, n', e1, e2, e3⟩
        · rw [e1, e2] at hc
          rcases hc with ⟨_, hc⟩ | ⟨_, hc⟩ <;> cases hc
        · exact ⟨⟨n, e1⟩, ⟨n', e2⟩, by rw [e1, e2]; exact e3⟩
      unfold stepXY at hst
      rw [if_neg (by simpa using hk)] at hst
      by_cases h2 : x.1 = 2
      · rw [if_pos h2] at hst
        obtain ⟨r, e1, _⟩ := sucL_all (x := x.2) (y := y.2) (many := x.2) (l := y.2) fun c hc => (hq c.1 (.inr (nxt_self hc))).1
        refine ⟨r, hst.trans e1, fun q hq' => ?_⟩
        obtain ⟨c, c1, _, rfl⟩ := sucL_mem e1 q hq'
        exact (hq c.1 (.inr (nxt_self c1))).2.2
      · rw [if_neg h2] at hst
        obtain ⟨r, e1, _⟩ := sucL_all (x := x.2) (y := y.2) (many := y.2) (l := x.2) fun c hc => (hq c.1 (.inl (nxt_self hc))).2.1
        refine ⟨r, hst.trans e1, fun q hq' => ?_⟩
        obtain ⟨c, c1, _, rfl⟩ := sucL_mem e1 q hq'
        exact (hq c.1 (.inl (nxt_self c1))).2.2
    exact ⟨go h, go h.symm⟩
end Go.AL.S2.Se
