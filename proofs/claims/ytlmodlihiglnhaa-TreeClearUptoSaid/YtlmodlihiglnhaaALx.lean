/- Calls that are handed slices which may be appended to. -/
import Derived.Test.YtlmodlihiglnhaaALw
set_option linter.unusedVariables false
set_option linter.unusedSimpArgs false
namespace Go.AL
open Go.RowKit

theorem nodup_cons {a : Nat} {l : List Nat} (h : nodup (a :: l) = true) : a ∉ l ∧ nodup l = true := by
  simp only [nodup, Bool.and_eq_true, Bool.not_eq_true'] at h
  refine ⟨fun hm => ?_, h.2⟩
  have : (l.any fun b => Nat.beq a b) = true := List.any_eq_true.2 ⟨a, hm, Nat.beq_refl a⟩
  rw [this] at h
  cases h.1

theorem length_bumpAll : ∀ (ids : List Nat) (tp : List (Nat × Nat)), (bumpAll ids tp).length = tp.length
  | [], tp => rfl
  | i :: l, tp => by
    simp only [bumpAll]
    rw [length_bumpAll l]
    unfold bump1
    split <;> simp

theorem bumpAll_get : ∀ (ids : List Nat) (tp : List (Nat × Nat)) (i : Nat), nodup ids = true → (bumpAll ids tp)[i]? = if i ∈ ids then (tp[i]?).map (fun c => (c.1 + 1, c.2)) else tp[i]?
  | [], tp, i, _ => by simp [bumpAll]
  | j :: l, tp, i, h => by
    obtain ⟨h1, h2⟩ := nodup_cons h
    simp only [bumpAll]
    rw [bumpAll_get l _ i h2]
    by_cases hij : i = j
    · subst hij
      rw [if_neg h1, if_pos (by simp)]
      cases ht : tp[i]? with
      | none => simp [bump1, ht]
      | some c =>
        have hl : i < tp.length := (List.getElem?_eq_some_iff.1 ht).1
        simp [bump1, ht, List.getElem?_set_self hl]
    · have : (bump1 j tp)[i]? = tp[i]? := by
        unfold bump1
        split
        · rw [List.getElem?_set_ne (Ne.symm hij)]
        · rfl
      rw [this]
      simp [hij]

inductive PassRel (G : Gh) (s : St) : List Arg → List Value → List (Option Nat × Nat) → Prop where
  | nil : PassRel G s [] [] []
  | pv {p : PV} {v : Value} {l vs gs} : PRep G.M p v → PassRel G s l vs gs → PassRel G s (.pv p :: l) (v :: vs) gs
  | bldN {k : Nat} {l vs gs} : 0 < k → PassRel G s l vs gs → PassRel G s (.bld k [] :: l) (.slice none 0 0 :: vs) ((none, k) :: gs)
  | bld {i ver sz : Nat} {xs : List PV} {v : Value} {l vs gs} : s.tp[i]? = some (ver, sz) → ARel G s (.bld i ver xs) v → PassRel G s l vs gs → PassRel G s (.bld sz xs :: l) (v :: vs) ((some i, sz) :: gs)

def idsOf (gs : List (Option Nat × Nat)) : List Nat := gs.filterMap (·.1)

theorem PassRel.gs {G : Gh} {s : St} {l : List Arg} {vs : List Value} {gs : List (Option Nat × Nat)} (h : PassRel G s l vs gs) : ∀ g, g ∈ gs → (g.1 = none → 0 < g.2) ∧ ∀ i, g.1 = some i → ∃ ver, s.tp[i]? = some (ver, g.2) := by
  induction h with
  | nil => intro g hg; cases hg
  | pv _ _ ih => exact ih
  | bldN hk _ ih =>
    intro g hg
    rcases List.mem_cons.1 hg with rfl | hg
    · exact ⟨fun _ => hk, fun i e => by cases e⟩
    · exact ih g hg
  | bld h1 _ _ ih =>
    intro g hg
    rcases List.mem_cons.1 hg with rfl | hg
    · exact ⟨fun e => (by cases e), fun i e => (by simp at e; subst e; exact ⟨_, h1⟩)⟩
    · exact ih g hg

def posG : List (Option Nat × Nat) → Nat → Option Nat
  | [], _ => none
  | g :: l, i => if g.1 = some i then some 0 else (posG l i).map (· + 1)

theorem posG_get : ∀ {gs : List (Option Nat × Nat)} {i j : Nat}, posG gs i = some j → ∃ sz, gs[j]? = some (some i, sz)
  | [], i, j, h => by cases h
  | (o, sz) :: l, i, j, h => by
    simp only [posG] at h
    split at h
    · rename_i ho
      obtain rfl := Option.some.inj h
      exact ⟨sz, by simp [ho]⟩
    · cases hp : posG l i with
      | none => rw [hp] at h; cases h
      | some k =>
        rw [hp] at h
        obtain rfl := Option.some.inj h
        obtain ⟨sz', e⟩ := posG_get hp
        exact ⟨sz', by simpa using e⟩
theorem posG_of : ∀ {gs : List (Option Nat × Nat)} {i j sz : Nat}, nodup (idsOf gs) = true → gs[j]? = some (some i, sz) → posG gs i = some j
  | [], i, j, sz, _, h => by simp at h
  | (o, sz') :: l, i, j, sz, hn, h => by
    cases j with
    | zero => simp at h; obtain ⟨rfl, rfl⟩ := h; simp [posG]
    | succ j =>
      simp only [List.getElem?_cons_succ] at h
      have hm : i ∈ idsOf l := List.mem_filterMap.2 ⟨_, List.mem_of_getElem? h, rfl⟩
      cases o with
      | none => simp [posG, posG_of (gs := l) (by simpa [idsOf] using hn) h]
      | some i' =>
        have hn' : nodup (i' :: idsOf l) = true := by simpa [idsOf] using hn
        obtain ⟨h1, h2⟩ := nodup_cons hn'
        have : i' ≠ i := by rintro rfl; exact h1 hm
        simp [posG, this, posG_of h2 h]
theorem posG_mem {gs : List (Option Nat × Nat)} {i : Nat} (h : i ∈ idsOf gs) : ∃ j, posG gs i = some j := by
  induction gs with
  | nil => cases h
  | cons g l ih =>
    simp only [posG]
    split
    · exact ⟨0, rfl⟩
    · rename_i hne
      have : i ∈ idsOf l := by
        obtain ⟨g', h1, h2⟩ := List.mem_filterMap.1 h
        rcases List.mem_cons.1 h1 with rfl | h1
        · exact absurd h2 hne
        · exact List.mem_filterMap.2 ⟨g', h1, h2⟩
      obtain ⟨j, hj⟩ := ih this
      exact ⟨j + 1, by rw [hj]; rfl⟩
theorem mem_posG {gs : List (Option Nat × Nat)} {i j : Nat} (h : posG gs i = some j) : i ∈ idsOf gs := by
  obtain ⟨sz, e⟩ := posG_get h
  exact List.mem_filterMap.2 ⟨_, List.mem_of_getElem? e, rfl⟩

def GC (G : Gh) (gs : List (Option Nat × Nat)) : Gh :=
  ⟨G.M, fun b => match G.own b with | .tip i => (match posG gs i with | some j => .tip j | none => .free) | _ => .free, fun _ => none, fun _ => ⟨none, 0, 1⟩,
    fun j => match gs[j]? with | some (some i, _) => G.τ i | some (none, k) => ⟨none, 0, k⟩ | none => ⟨none, 0, 1⟩⟩
def SC (gs : List (Option Nat × Nat)) : St := ⟨[], [], gs.map fun g => (0, g.2)⟩
def FG (G : Gh) (gs : List (Option Nat × Nat)) (b : Nat) : Prop := ∃ i, i ∈ idsOf gs ∧ G.own b = .tip i

section
variable {F : Nat → Prop} {w0 : World} {M0 : Mem} {G : Gh} {s : St} {w : World} {gs : List (Option Nat × Nat)} {args : List Arg} {vals : List Value}

theorem GC_own {b j : Nat} (h : (GC G gs).own b = .tip j) : ∃ i, G.own b = .tip i ∧ posG gs i = some j := by
  simp only [GC] at h
  split at h
  · rename_i i hi
    split at h
    · rename_i j' hj; cases h; exact ⟨i, hi, hj⟩
    · cases h
  · cases h

theorem SRel.start2 (h : SRel F w0 M0 G s w) (hp : PassRel G s args vals gs) (hn : nodup (idsOf gs) = true) : SRel (FG G gs) w G.M (GC G gs) (SC gs) w := by
  refine ⟨rfl, rfl, rfl, Nat.le_refl _, fun _ _ _ => rfl, h.agree, Mem.le_refl _, fun _ _ e => .inl e, fun b hb => ?_, fun a v e => ?_, fun i z cs b h1 _ => by simp [SC] at h1, fun i v sz xs h1 => by simp [SC] at h1, fun j e h1 => ?_⟩
  · cases ho : (GC G gs).own b with
    | free => exact absurd ho hb
    | tip j =>
      obtain ⟨i, g1, g2⟩ := GC_own ho
      exact ⟨(h.own b (by rw [g1]; simp)).1, .inl ⟨i, mem_posG g2, g1⟩⟩
    | box j => simp only [GC] at ho; split at ho <;> (try split at ho) <;> cases ho
    | vec j => simp only [GC] at ho; split at ho <;> (try split at ho) <;> cases ho
  · rcases h.ownM a v e with e1 | ⟨i, ad, hi, e1, e2, e3⟩
    · left; simp only [GC, e1]
    · cases hpi : posG gs i with
      | none => left; simp only [GC, e1, hpi]
      | some j =>
        obtain ⟨sz, hj⟩ := posG_get hpi
        right
        refine ⟨j, ad, ?_, by simp only [GC, e1, hpi], by simp only [GC, hj]; exact e2, e3⟩
        simp [SC]; exact (List.getElem?_eq_some_iff.1 hj).1
  · simp only [SC, List.getElem?_map] at h1
    cases hg : gs[j]? with
    | none => rw [hg] at h1; cases h1
    | some g =>
      rw [hg] at h1
      obtain rfl := Option.some.inj h1
      obtain ⟨g1, g2⟩ := hp.gs g (List.mem_of_getElem? hg)
      obtain ⟨o, sz⟩ := g
      cases o with
      | none => simp only [GC, hg]; exact ⟨⟨trivial, g1 rfl⟩, .inl ⟨trivial, trivial⟩⟩
      | some i =>
        obtain ⟨ver, hv⟩ := g2 i rfl
        obtain ⟨q0, q2⟩ := h.tp i _ hv
        simp only [GC, hg]
        refine ⟨q0, ?_⟩
        rcases q2 with q2 | ⟨b, o, vs, T, k1, k2, k3, k4⟩
        · exact .inl q2
        · exact .inr ⟨b, o, vs, T, k1, by rw [k2]; simp only [posG_of hn hg], k3, k4⟩

def LRel (G : Gh) (s : St) (l : List AV) (vs : List Value) : Prop := vs.length = l.length ∧ ∀ (i : Nat) a v, l[i]? = some a → vs[i]? = some v → ARel G s a v
theorem LRel.cons {G : Gh} {s : St} {a : AV} {v : Value} {l : List AV} {vs : List Value} (h : ARel G s a v) (k : LRel G s l vs) : LRel G s (a :: l) (v :: vs) :=
  ⟨by simp [k.1], fun i a' v' h1 h2 => by
    cases i with
    | zero => simp at h1 h2; subst h1; subst h2; exact h
    | succ i => exact k.2 i a' v' (by simpa using h1) (by simpa using h2)⟩
theorem LRel.frel {G : Gh} {s : St} {l : List AV} {vs : List Value} (h : LRel G s l vs) : FRel G s l vs.toArray := ⟨by simpa using h.1, fun i a v h1 h2 => h.2 i a v h1 (by simpa using h2)⟩

theorem PassRel.enter {full : List (Option Nat × Nat)} (h : PassRel G s args vals gs) : ∀ (pre : List (Option Nat × Nat)), full = pre ++ gs → (enterT args ⟨[], [], pre.map fun g => (0, g.2)⟩).2 = SC full ∧ LRel (GC G full) (SC full) (enterT args ⟨[], [], pre.map fun g => (0, g.2)⟩).1 vals := by
  induction h with
  | nil => intro pre e; simp at e; subst e; exact ⟨rfl, rfl, by simp [enterT]⟩
  | pv h1 _ ih =>
    intro pre e
    obtain ⟨k1, k2⟩ := ih pre e
    exact ⟨k1, LRel.cons h1 k2⟩
  | bldN hk hq ih =>
    rename_i k l vs gs
    intro pre e
    obtain ⟨k1, k2⟩ := ih (pre ++ [(none, k)]) (by simpa using e)
    simp only [List.map_append, List.map_cons, List.map_nil] at k1 k2
    have hfull : full[pre.length]? = some (none, k) := by subst e; simp
    have hsc : (SC full).tp[pre.length]? = some (0, k) := by simp [SC, hfull]
    refine ⟨k1, LRel.cons ?_ k2⟩
    simp only [List.length_map]
    refine ⟨(List.getElem?_eq_some_iff.1 hsc).1, rep_empty _ _ _ (by omega), fun cur hc => ?_⟩
    rw [hsc] at hc
    obtain rfl := Option.some.inj hc
    refine ⟨Nat.le_refl _, fun _ => ?_⟩
    simp only [GC, hfull]
    exact ⟨⟨none, rfl, by simp⟩, by simp⟩
  | bld h1 h2 hq ih =>
    rename_i i ver sz xs v l vs gs
    intro pre e
    obtain ⟨k1, k2⟩ := ih (pre ++ [(some i, sz)]) (by simpa using e)
    simp only [List.map_append, List.map_cons, List.map_nil] at k1 k2
    have hfull : full[pre.length]? = some (some i, sz) := by subst e; simp
    have hsc : (SC full).tp[pre.length]? = some (0, sz) := by simp [SC, hfull]
    refine ⟨k1, LRel.cons ?_ k2⟩
    simp only [List.length_map]
    obtain ⟨_, g2, g3⟩ := h2
    refine ⟨(List.getElem?_eq_some_iff.1 hsc).1, g2, fun cur hc => ?_⟩
    rw [hsc] at hc
    obtain rfl := Option.some.inj hc
    refine ⟨Nat.le_refl _, fun _ => ?_⟩
    simp only [GC, hfull]
    exact (g3 _ h1).2 rfl

theorem PassRel.plain (h : SRel F w0 M0 G s w) (hp : PassRel G s args vals gs) : args.all plainArg = true := by
  induction hp with
  | nil => rfl
  | pv _ _ ih => simpa [plainArg] using ih
  | bldN hk _ ih =>
    simp only [List.all_cons, Bool.and_eq_true, plainArg]
    exact ⟨Nat.ble_eq_true_of_le hk, ih⟩
  | bld h1 _ _ ih =>
    simp only [List.all_cons, Bool.and_eq_true, plainArg]
    obtain ⟨⟨q0, q1⟩, _⟩ := h.tp _ _ h1
    simp only at q0
    exact ⟨Nat.ble_eq_true_of_le (by rw [← q0]; exact q1), ih⟩

def GN (G : Gh) (ids : List Nat) (M : Mem) : Gh :=
  { G with M := M, own := fun b => match G.own b with | .tip i => if i ∈ ids then .free else .tip i | x => x, τ := fun i => if i ∈ ids then ⟨none, 0, (G.τ i).sz⟩ else G.τ i }

theorem GN_own {ids : List Nat} {M : Mem} {b : Nat} (h : ∀ i, i ∈ ids → G.own b ≠ .tip i) : (GN G ids M).own b = G.own b := by
  simp only [GN]
  split
  · rename_i i hi
    rw [if_neg (fun hm => h i hm hi), hi]
  · rfl

/-- Behind a call that was handed tails. -/
theorem SRel.absorb2 (h : SRel F w0 M0 G s w) (hn : nodup (idsOf gs) = true) {G' : Gh} {s' : St} {w' : World} (hc : SRel (FG G gs) w G.M G' s' w') :
    SRel F w0 M0 (GN G (idsOf gs) G'.M) (s.given (idsOf gs)) w' ∧ Ext G s (GN G (idsOf gs) G'.M) (s.given (idsOf gs)) := by
  have he : Ext G s (GN G (idsOf gs) G'.M) (s.given (idsOf gs)) := by
    refine ⟨hc.base, Nat.le_refl _, Nat.le_refl _, by simp [St.given, length_bumpAll], fun _ _ _ h => h, fun i _ cur xs h => ⟨cur, xs, h, Nat.le_refl _, fun _ => ⟨rfl, rfl⟩⟩, fun i hi cur' e => ?_⟩
    simp only [St.given] at e
    rw [bumpAll_get _ _ _ hn] at e
    split at e
    · rw [List.getElem?_eq_getElem hi] at e
      simp at e
      subst e
      exact ⟨_, List.getElem?_eq_getElem hi, by simp, fun e => by simp at e⟩
    · rename_i hni
      exact ⟨cur', e, Nat.le_refl _, fun _ => by simp only [GN]; rw [if_neg hni]⟩
  have hkeep : ∀ b, b < w.heap.size → (∀ i, i ∈ idsOf gs → G.own b ≠ .tip i) → w'.heap[b]? = w.heap[b]? := fun b hb hno => hc.old b hb (fun ⟨i, h1, h2⟩ => hno i h1 h2)
  refine ⟨⟨hc.os.trans h.os, hc.tape.trans h.tape, hc.output.trans h.output, Nat.le_trans h.size hc.size, ?_, hc.agree, Mem.le_trans h.base hc.base, ?_, ?_, ?_, ?_, ?_, ?_⟩, he⟩
  · intro k hk hF
    rw [hkeep k (Nat.lt_of_lt_of_le hk h.size) (fun i _ e => by
      rcases (h.own k (by rw [e]; simp)).2 with e | e
      · exact hF e
      · omega)]
    exact h.old k hk hF
  · intro a v e
    rcases hc.newM a v e with e | e | ⟨i, h1, h2⟩
    · exact h.newM a v e
    · exact .inr (.inl (Nat.le_trans h.size e))
    · rcases (h.own a.block (by rw [h2]; simp)).2 with e | e
      · exact .inr (.inr e)
      · exact .inr (.inl e)
  · intro b hb
    have : G.own b ≠ .free := by
      intro e
      apply hb
      simp only [GN, e]
    obtain ⟨g1, g2⟩ := h.own b this
    exact ⟨Nat.lt_of_lt_of_le g1 hc.size, g2⟩
  · intro a v e
    rcases hc.newM a v e with e | e | ⟨i, h1, h2⟩
    · rcases h.ownM a v e with e1 | ⟨i, ad, hi, e1, e2, e3⟩
      · left; simp only [GN, e1]
      · by_cases hi' : i ∈ idsOf gs
        · left; simp only [GN, e1, if_pos hi']
        · right
          exact ⟨i, ad, by simpa [St.given, length_bumpAll] using hi, by simp only [GN, e1, if_neg hi'], by simp only [GN, if_neg hi']; exact e2, e3⟩
    · left
      cases ho : G.own a.block with
      | free => simp only [GN, ho]
      | _ => have := (h.own a.block (by rw [ho]; simp)).1; omega
    · left; simp only [GN, h2, if_pos h1]
  · intro i z cs b h1 h2
    obtain ⟨q1, q2, q3, vs, T, q4, q5, q6⟩ := h.bx i z cs b h1 h2
    have hno : ∀ j, j ∈ idsOf gs → G.own b ≠ .tip j := fun j _ e => by rw [q1] at e; cases z <;> cases e
    exact ⟨(GN_own hno).trans q1, Nat.lt_of_lt_of_le q2 hc.size, q3, vs, T, by rw [hkeep b q2 hno]; exact q4, q5, fun k c v hk hv => ⟨(q6 k c v hk hv).1.ext he, (q6 k c v hk hv).2⟩⟩
  · intro i ver sz xs h1
    obtain ⟨q0, q1, q2⟩ := h.vc i ver sz xs h1
    refine ⟨q0, q1, ?_⟩
    rcases q2 with q2 | ⟨b, o, vs, T, g1, g2, g3, g4, g5, g6⟩
    · exact .inl q2
    · have hno : ∀ j, j ∈ idsOf gs → G.own b ≠ .tip j := fun j _ e => by rw [g2] at e; cases e
      refine .inr ⟨b, o, vs, T, g1, (GN_own hno).trans g2, ?_, g4, g5, fun j x k y e1 e2 => ?_⟩
      · rw [hkeep b (h.own b (by rw [g2]; simp)).1 hno]; exact g3
      · obtain ⟨v, e3, e4⟩ := g6 j x k y e1 e2
        exact ⟨v, e3, e4.mono hc.base⟩
  · intro i e h1
    simp only [St.given] at h1
    rw [bumpAll_get _ _ _ hn] at h1
    split at h1
    · rename_i hi
      cases ht : s.tp[i]? with
      | none => rw [ht] at h1; cases h1
      | some c =>
        rw [ht] at h1
        obtain rfl := Option.some.inj h1
        obtain ⟨q0, q2⟩ := h.tp i _ ht
        simp only [GN, if_pos hi]
        exact ⟨q0, .inl ⟨by trivial, by trivial⟩⟩
    · rename_i hi
      obtain ⟨q0, q2⟩ := h.tp i _ h1
      simp only [GN, if_neg hi]
      refine ⟨q0, ?_⟩
      rcases q2 with q2 | ⟨b, o, vs, T, g1, g2, g3, g4⟩
      · exact .inl q2
      · have hno : ∀ j, j ∈ idsOf gs → G.own b ≠ .tip j := fun j hj e => by rw [g2] at e; cases e; exact hi hj
        refine .inr ⟨b, o, vs, T, g1, by rw [g2]; simp only [if_neg hi], ?_, g4⟩
        rw [hkeep b (h.own b (by rw [g2]; simp)).1 hno]; exact g3

/-- The callee's blocks are nobody's in the caller's eyes. -/
theorem callee_free (h : SRel F w0 M0 G s w) {G' : Gh} {s' : St} {w' : World} (hc : SRel (FG G gs) w G.M G' s' w') {b : Nat} (hb : G'.own b ≠ .free) :
    (GN G (idsOf gs) G'.M).own b = .free ∧ b < w'.heap.size ∧ (F b ∨ w0.heap.size ≤ b) ∧ ∀ i cs, (s.given (idsOf gs)).bx[i]? = some (true, cs) → (GN G (idsOf gs) G'.M).μ i ≠ some b := by
  obtain ⟨g1, g2⟩ := hc.own b hb
  refine ⟨?_, g1, ?_, fun i cs h1 h2 => ?_⟩
  · rcases g2 with ⟨i, h1, h2⟩ | g2
    · simp only [GN, h2, if_pos h1]
    · cases ho : G.own b with
      | free => simp only [GN, ho]
      | _ => have := (h.own b (by rw [ho]; simp)).1; omega
  · rcases g2 with ⟨i, h1, h2⟩ | g2
    · exact (h.own b (by rw [h2]; simp)).2
    · exact .inr (Nat.le_trans h.size g2)
  · obtain ⟨q1, q2, _⟩ := h.bx i true cs b h1 h2
    rcases g2 with ⟨j, h3, h4⟩ | g2
    · rw [h4] at q1; cases q1
    · omega

theorem take_tip (h : SRel F w0 M0 G s w) (hn : nodup (idsOf gs) = true) {G' : Gh} {s' : St} {w' : World} (hc : SRel (FG G gs) w G.M G' s' w') {sz : Nat} {xs : List PV} {outs : List (List PV)} {v : Value} (ho : OutRel G' s' (.bld sz xs, outs) v) :
    ∃ G3, SRel F w0 M0 G3 { s.given (idsOf gs) with tp := (s.given (idsOf gs)).tp ++ [(0, sz)] } w' ∧ Ext G s G3 { s.given (idsOf gs) with tp := (s.given (idsOf gs)).tp ++ [(0, sz)] } ∧
      ARel G3 { s.given (idsOf gs) with tp := (s.given (idsOf gs)).tp ++ [(0, sz)] } (.bld (s.given (idsOf gs)).tp.length 0 xs) v := by
  obtain ⟨hS, he⟩ := h.absorb2 hn hc
  rcases ho with ⟨rfl, rfl, hsz⟩ | ⟨i, e, h1, h2⟩
  · obtain ⟨G3, q1, q2, q3⟩ := hS.newTip sz hsz
    exact ⟨G3, q1, he.trans q2, q3 _ .nils⟩
  · obtain ⟨⟨t1, t2⟩, t3⟩ := hc.tp i _ h1
    simp only at t1
    obtain ⟨g1, g2, g3⟩ := h2
    have ht := (g3 _ h1).2 rfl
    have := hS.attachTip (hd := G'.τ i) (xs := xs) (v := v) t2 (by
      rcases t3 with t3 | ⟨b, o, vs, T, k1, k2, k3, k4⟩
      · exact .inl t3
      · obtain ⟨f1, f2, f3, f4⟩ := callee_free h hc (b := b) (by rw [k2]; simp)
        refine .inr ⟨b, o, vs, T, k1, f1, f2, f3, k3, k4, fun a u e1 e2 => ?_, f4⟩
        rcases hc.ownM a u e1 with e3 | ⟨j, ad, hj, e3, e4, e5⟩
        · rw [e2, k2] at e3; cases e3
        · rw [e2, k2] at e3
          cases e3
          rw [k1] at e4
          obtain rfl := Option.some.inj e4
          exact e5) g2 ht
    rw [t1] at this
    obtain ⟨G3, q1, q2, q3⟩ := this
    exact ⟨G3, q1, he.trans q2, q3⟩

theorem take_vec (h : SRel F w0 M0 G s w) (hn : nodup (idsOf gs) = true) {G' : Gh} {s' : St} {w' : World} (hc : SRel (FG G gs) w G.M G' s' w') {sz : Nat} {xs : List PV} {outs : List (List PV)} {v : Value} (ho : OutRel G' s' (.vec sz xs, outs) v) :
    ∃ G3, SRel F w0 M0 G3 { s.given (idsOf gs) with vc := (s.given (idsOf gs)).vc ++ [some (0, sz, xs)] } w' ∧ Ext G s G3 { s.given (idsOf gs) with vc := (s.given (idsOf gs)).vc ++ [some (0, sz, xs)] } ∧
      ARel G3 { s.given (idsOf gs) with vc := (s.given (idsOf gs)).vc ++ [some (0, sz, xs)] } (.vec (s.given (idsOf gs)).vc.length 0) v := by
  obtain ⟨hS, he⟩ := h.absorb2 hn hc
  obtain ⟨i, ver, h1, h2⟩ := ho
  obtain ⟨⟨r0, r0'⟩, r1, r2⟩ := hc.vc i ver sz xs h1
  obtain ⟨g1, _, g3⟩ := h2
  have hv := (g3 _ _ h1).2 rfl
  simp only at hv
  have := hS.attachVec (hd := G'.ν i) (xs := xs) r0' r1 (by
    rcases r2 with r2 | ⟨b, o, vs, T, k1, k2, k3, k4, k5, k6⟩
    · exact .inl r2
    · obtain ⟨f1, f2, f3, f4⟩ := callee_free h hc (b := b) (by rw [k2]; simp)
      refine .inr ⟨b, o, vs, T, k1, f1, f2, f3, k3, k4, k5, k6, fun a u e1 e2 => ?_, f4⟩
      rcases hc.ownM a u e1 with e3 | ⟨j, ad, hj, e3, _⟩
      · rw [e2, k2] at e3; cases e3
      · rw [e2, k2] at e3; cases e3)
  rw [r0] at this
  obtain ⟨G3, q1, q2, q3⟩ := this
  exact ⟨G3, q1, he.trans q2, by rw [hv]; exact q3⟩

/-! ### Handing over -/
theorem pass_rel (hS : SRel F w0 M0 G s w) {mode : Nat} {b : AV} {u : Value} {a : Arg} {is : List Nat} {s1 : St} (hr : ARel G s b u) (h : pass mode b s = some (a, is, s1)) :
    ∃ G1, SRel F w0 M0 G1 s1 w ∧ Ext G s G1 s1 ∧ s1.tp = s.tp ∧ ∀ G2 s2, Ext G1 s1 G2 s2 → s2.tp = s.tp → ∀ l vs gs, PassRel G2 s2 l vs gs → ∃ gs', PassRel G2 s2 (a :: l) (u :: vs) gs' ∧ idsOf gs' = is ++ idsOf gs := by
  unfold pass at h
  split at h
  · rename_i i ver
    split at h
    · rename_i cur sz xs hi
      replace h := bif_some h; obtain ⟨h1, h⟩ := h
      have hcv := beq_eq h1
      simp only [Option.some.injEq, Prod.mk.injEq] at h
      obtain ⟨rfl, rfl, rfl⟩ := h
      subst hcv
      obtain ⟨G', q1, q2, q3⟩ := hS.pubVec hi hr
      exact ⟨G', q1, q2, rfl, fun G2 s2 he _ l vs gs hp => ⟨gs, .pv (q3.mono he.M) hp, rfl⟩⟩
    · cases h
  · split at h
    · rename_i p hp
      simp only [Option.some.injEq, Prod.mk.injEq] at h
      obtain ⟨rfl, rfl, rfl⟩ := h
      exact ⟨G, hS, Ext.refl _ _, rfl, fun G2 s2 he _ l vs gs hp' => ⟨gs, .pv ((toPV_rel hr hp).mono he.M) hp', rfl⟩⟩
    · cases h
  · rename_i k
    replace h := bif_some h; obtain ⟨h1, h⟩ := h
    simp only [Option.some.injEq, Prod.mk.injEq] at h
    obtain ⟨rfl, rfl, rfl⟩ := h
    cases hr
    exact ⟨G, hS, Ext.refl _ _, rfl, fun G2 s2 he _ l vs gs hp' => ⟨_, .bldN (blt_lt h1) hp', by simp [idsOf]⟩⟩
  · rename_i k i ver xs
    split at h
    · rename_i cur sz hi
      replace h := bif_some h; obtain ⟨h1, h⟩ := h
      simp only [Option.some.injEq, Prod.mk.injEq] at h
      obtain ⟨rfl, rfl, rfl⟩ := h
      simp only [Bool.and_eq_true] at h1
      have hcv := beq_eq h1.1
      subst hcv
      exact ⟨G, hS, Ext.refl _ _, rfl, fun G2 s2 he ht l vs gs hp' => ⟨_, .bld (by rw [ht]; exact hi) (hr.ext he) hp', by simp [idsOf]⟩⟩
    · cases h
  · cases h

theorem passAll_rel {E : Env} {g : FuncId} : ∀ {l : List AV} {us : List Value} {n : Nat} {s s' : St} {G : Gh} {args : List Arg} {ids : List Nat}, SRel F w0 M0 G s w → LRel G s l us → passAll E g n l s = some (args, ids, s') →
    ∃ G' gs, SRel F w0 M0 G' s' w ∧ Ext G s G' s' ∧ s'.tp = s.tp ∧ PassRel G' s' args us gs ∧ idsOf gs = ids
  | [], us, n, s, s', G, args, ids, hS, hl, h => by
    simp only [passAll, Option.some.injEq, Prod.mk.injEq] at h
    obtain ⟨rfl, rfl, rfl⟩ := h
    have : us = [] := List.eq_nil_of_length_eq_zero hl.1
    subst this
    exact ⟨G, [], hS, Ext.refl _ _, rfl, .nil, rfl⟩
  | b :: l, us, n, s, s', G, args, ids, hS, hl, h => by
    cases us with
    | nil => have := hl.1; simp at this
    | cons u us =>
      simp only [passAll] at h
      split at h
      · rename_i a is s1 hp
        split at h
        · rename_i as js s2 hps
          simp only [Option.some.injEq, Prod.mk.injEq] at h
          obtain ⟨rfl, rfl, rfl⟩ := h
          obtain ⟨G1, a1, a2, a3, a4⟩ := pass_rel hS (hl.2 0 b u rfl rfl) hp
          obtain ⟨G2, gs, b1, b2, b3, b4, b5⟩ := passAll_rel a1 ⟨by have := hl.1; simpa using this, fun i b' u' h1 h2 => (hl.2 (i + 1) b' u' (by simpa using h1) (by simpa using h2)).ext a2⟩ hps
          obtain ⟨gs', c1, c2⟩ := a4 G2 s2 b2 (b3.trans a3) as us gs b4
          exact ⟨G2, gs', b1, a2.trans b2, b3.trans a3, c1, by rw [c2, b5]⟩
        · cases h
      · cases h
end

section
variable {P : Program} {ty : TypeId} {av : Av} {s : St}

/-- A call, whatever is handed over. -/
theorem call_gen (hF : FOk P) {E : Env} (hc : CallOk P E.call) {c : Call} {g : FuncId} {bs : List AV} {args : List Arg} {ids : List Nat} {s1 : St} {out : Out} (hcal : c.callee = .value (.func g)) (h1 : c.args.toList.mapM av = some bs) (h2 : passAll E g 0 bs s = some (args, ids, s1)) (hn : nodup ids = true)
    (h : E.call g args = some out) {F : Nat → Prop} {w0 : World} {M0 : Mem} {G : Gh} {a : Act} {w : World} {o : Oper} (hS : SRel F w0 M0 G s w) (hA : Avs av G s a) (ho : o.op = .call c) {N : Value → World → Prop}
    (hN : ∀ G1 gs, SRel F w0 M0 G1 s1 w → Ext G s G1 s1 → idsOf gs = ids → ∀ v G' s' w', SRel (FG G1 gs) w G1.M G' s' w' → OutRel G' s' out v → N v w') : OpTo P o a w N := by
  obtain ⟨g1, g2⟩ := avs_rel hA h1
  obtain ⟨G1, gs, k1, k2, k3, k4, k5⟩ := passAll_rel (us := (c.args.map a.eval).toList) hS ⟨by simp [g1], fun i b u e1 e2 => by
    simp only [Array.toList_map, List.getElem?_map] at e2
    cases hy : c.args.toList[i]? with
    | none => rw [hy] at e2; cases e2
    | some y =>
      rw [hy] at e2
      obtain rfl := Option.some.inj e2
      exact g2 i b y e1 hy⟩ h2
  obtain ⟨hb, hs⟩ := hc g args out h (k4.plain k1)
  have hrun : (execOp a.eval o).run P w = .ok (.enter g (c.args.map a.eval)) w := by
    simp [execOp, ho, resolve, hcal, Act.eval, Deferred.ofValue, invoke, run_callFunc hF hb]
  obtain ⟨e1, e2⟩ := k4.enter (full := gs) [] rfl
  simp only [List.map_nil] at e1 e2
  have hnd : nodup (idsOf gs) = true := by rw [k5]; exact hn
  have hfr := e2.frel
  rw [Array.toArray_toList] at hfr
  refine OpTo.enter hrun ((hs (FG G1 gs) G1.M (GC G1 gs) w _ (by rw [e1]; exact k1.start2 k4 hnd) (by rw [e1]; exact hfr)).mono ?_)
  rintro e w' ⟨v, G', s', rfl, q1, q2⟩
  exact ⟨v, rfl, hN G1 gs k1 k2 k5 v G' s' w' q1 q2⟩

theorem s_call0 (hF : FOk P) {E : Env} (hc : CallOk P E.call) {c : Call} {g : FuncId} {bs : List AV} {args : List Arg} {ids : List Nat} {s1 : St} {out : Out} {r : PV} (hcal : c.callee = .value (.func g)) (h1 : c.args.toList.mapM av = some bs) (h2 : passAll E g 0 bs s = some (args, ids, s1)) (hn : nodup ids = true)
    (h : E.call g args = some out) (hr : retPV out = some r) : Sound2 P (.call c) ty av s (.pv r) (s1.given ids) := by
  intro F w0 M0 G a w o hS hA ho _
  refine call_gen hF hc hcal h1 h2 hn h hS hA ho fun G1 gs k1 k2 k5 v G' s' w' q1 q2 => ?_
  obtain ⟨m1, m2⟩ := k1.absorb2 (by rw [k5]; exact hn) q1
  rw [k5] at m1 m2
  refine ⟨_, m1, k2.trans m2, ?_⟩
  obtain ⟨arg, outs⟩ := out
  cases arg with
  | pv p =>
    cases outs with
    | nil => obtain rfl := Option.some.inj hr; exact q2
    | cons _ _ => cases hr
  | bld sz xs =>
    cases outs with
    | nil =>
      obtain rfl := Option.some.inj hr
      rcases q2 with ⟨rfl, rfl, _⟩ | ⟨i, e, _, q2⟩
      · exact PRep.weak (p := .nils) .nils
      · exact q2.2.1
    | cons _ _ => cases hr
  | vec sz xs => cases hr
  | box cs => cases hr

theorem s_call1 (hF : FOk P) {E : Env} (hc : CallOk P E.call) {c : Call} {g : FuncId} {bs : List AV} {args : List Arg} {ids : List Nat} {s1 : St} {out : Out} {k : Nat} {xs : List PV} (hcal : c.callee = .value (.func g)) (h1 : c.args.toList.mapM av = some bs) (h2 : passAll E g 0 bs s = some (args, ids, s1)) (hn : nodup ids = true)
    (h : E.call g args = some out) (hr : retB k out = some xs) : Sound2 P (.call c) ty av s (.bld (s1.given ids).tp.length 0 xs) { s1.given ids with tp := (s1.given ids).tp ++ [(0, k)] } := by
  intro F w0 M0 G a w o hS hA ho _
  refine call_gen hF hc hcal h1 h2 hn h hS hA ho fun G1 gs k1 k2 k5 v G' s' w' q1 q2 => ?_
  obtain ⟨arg, outs⟩ := out
  cases arg with
  | bld sz ys =>
    cases outs with
    | nil =>
      simp only [retB] at hr
      replace hr := bif_some hr
      obtain ⟨hr1, hr2⟩ := hr
      obtain rfl := beq_eq hr1
      obtain rfl := Option.some.inj hr2
      obtain ⟨G3, m1, m2, m3⟩ := take_tip k1 (by rw [k5]; exact hn) q1 q2
      rw [k5] at m1 m2 m3
      exact ⟨G3, m1, k2.trans m2, m3⟩
    | cons _ _ => cases hr
  | pv p => cases hr
  | vec sz xs => cases hr
  | box cs => cases hr

theorem s_call2 (hF : FOk P) {E : Env} (hc : CallOk P E.call) {c : Call} {g : FuncId} {bs : List AV} {args : List Arg} {ids : List Nat} {s1 : St} {out : Out} {k : Nat} {xs : List PV} (hcal : c.callee = .value (.func g)) (h1 : c.args.toList.mapM av = some bs) (h2 : passAll E g 0 bs s = some (args, ids, s1)) (hn : nodup ids = true)
    (h : E.call g args = some out) (hr : retV k out = some xs) : Sound2 P (.call c) ty av s (.vec (s1.given ids).vc.length 0) { s1.given ids with vc := (s1.given ids).vc ++ [some (0, k, xs)] } := by
  intro F w0 M0 G a w o hS hA ho _
  refine call_gen hF hc hcal h1 h2 hn h hS hA ho fun G1 gs k1 k2 k5 v G' s' w' q1 q2 => ?_
  obtain ⟨arg, outs⟩ := out
  cases arg with
  | vec sz ys =>
    cases outs with
    | nil =>
      simp only [retV] at hr
      replace hr := bif_some hr
      obtain ⟨hr1, hr2⟩ := hr
      obtain rfl := beq_eq hr1
      obtain rfl := Option.some.inj hr2
      obtain ⟨G3, m1, m2, m3⟩ := take_vec k1 (by rw [k5]; exact hn) q1 q2
      rw [k5] at m1 m2 m3
      exact ⟨G3, m1, k2.trans m2, m3⟩
    | cons _ _ => cases hr
  | pv p => cases hr
  | bld sz xs => cases hr
  | box cs => cases hr
end
end Go.AL
