/- The abstract machine, its soundness, and what a row needs of it: part 3. -/
import Derived.Test.YtjfibflkfdpllaaGreatDoorAL2
import Derived.LoopN
/- Calls that are handed slices which may be appended to. -/
set_option linter.unusedVariables false
set_option linter.unusedSimpArgs false
namespace Go.AL
open Go.RowKit

theorem nodup_cons {a : Nat} {l : List Nat} (h : nodup (a :: l) = true) : a ∉ l ∧ nodup l = true := by
  simp only [nodup, Bool.and_eq_true, Bool.not_eq_true'] at h
  refine ⟨fun hm => ?_, h.2⟩
  have : (l.any fun b => Nat.beq a b) = true := List.any_eq_true.2 ⟨a, hm, Nat.beq_refl a⟩
  rw [this] at h
  cases h.1

theorem length_bumpAll : ∀ (ids : List Nat) (tp : List (Nat × Nat)), (bumpAll ids tp).length = tp.length
  | [], tp => rfl
  | i :: l, tp => by
    simp only [bumpAll]
    rw [length_bumpAll l]
    unfold bump1
    split <;> simp

theorem bumpAll_get : ∀ (ids : List Nat) (tp : List (Nat × Nat)) (i : Nat), nodup ids = true → (bumpAll ids tp)[i]? = if i ∈ ids then (tp[i]?).map (fun c => (c.1 + 1, c.2)) else tp[i]?
  | [], tp, i, _ => by simp [bumpAll]
  | j :: l, tp, i, h => by
    obtain ⟨h1, h2⟩ := nodup_cons h
    simp only [bumpAll]
    rw [bumpAll_get l _ i h2]
    by_cases hij : i = j
    · subst hij
      rw [if_neg h1, if_pos (by simp)]
      cases ht : tp[i]? with
      | none => simp [bump1, ht]
      | some c =>
        have hl : i < tp.length := (List.getElem?_eq_some_iff.1 ht).1
        simp [bump1, ht, List.getElem?_set_self hl]
    · have : (bump1 j tp)[i]? = tp[i]? := by
        unfold bump1
        split
        · rw [List.getElem?_set_ne (Ne.symm hij)]
        · rfl
      rw [this]
      simp [hij]

inductive PassRel (G : Gh) (s : St) : List Arg → List Value → List (Option Nat × Nat) → Prop where
  | nil : PassRel G s [] [] []
  | pv {p : PV} {v : Value} {l vs gs} : PRep G.M p v → PassRel G s l vs gs → PassRel G s (.pv p :: l) (v :: vs) gs
  | bldN {k : Nat} {l vs gs} : 0 < k → PassRel G s l vs gs → PassRel G s (.bld k [] :: l) (.slice none 0 0 :: vs) ((none, k) :: gs)
  | bld {i ver sz : Nat} {xs : List PV} {v : Value} {l vs gs} : s.tp[i]? = some (ver, sz) → ARel G s (.bld i ver xs) v → PassRel G s l vs gs → PassRel G s (.bld sz xs :: l) (v :: vs) ((some i, sz) :: gs)

def idsOf (gs : List (Option Nat × Nat)) : List Nat := gs.filterMap (·.1)

theorem PassRel.gs {G : Gh} {s : St} {l : List Arg} {vs : List Value} {gs : List (Option Nat × Nat)} (h : PassRel G s l vs gs) : ∀ g, g ∈ gs → (g.1 = none → 0 < g.2) ∧ ∀ i, g.1 = some i → ∃ ver, s.tp[i]? = some (ver, g.2) := by
  induction h with
  | nil => intro g hg; cases hg
  | pv _ _ ih => exact ih
  | bldN hk _ ih =>
    intro g hg
    rcases List.mem_cons.1 hg with rfl | hg
    · exact ⟨fun _ => hk, fun i e => by cases e⟩
    · exact ih g hg
  | bld h1 _ _ ih =>
    intro g hg
    rcases List.mem_cons.1 hg with rfl | hg
    · exact ⟨fun e => (by cases e), fun i e => (by simp at e; subst e; exact ⟨_, h1⟩)⟩
    · exact ih g hg

def posG : List (Option Nat × Nat) → Nat → Option Nat
  | [], _ => none
  | g :: l, i => if g.1 = some i then some 0 else (posG l i).map (· + 1)

theorem posG_get : ∀ {gs : List (Option Nat × Nat)} {i j : Nat}, posG gs i = some j → ∃ sz, gs[j]? = some (some i, sz)
  | [], i, j, h => by cases h
  | (o, sz) :: l, i, j, h => by
    simp only [posG] at h
    split at h
    · rename_i ho
      obtain rfl := Option.some.inj h
      exact ⟨sz, by simp [ho]⟩
    · cases hp : posG l i with
      | none => rw [hp] at h; cases h
      | some k =>
        rw [hp] at h
        obtain rfl := Option.some.inj h
        obtain ⟨sz', e⟩ := posG_get hp
        exact ⟨sz', by simpa using e⟩
theorem posG_of : ∀ {gs : List (Option Nat × Nat)} {i j sz : Nat}, nodup (idsOf gs) = true → gs[j]? = some (some i, sz) → posG gs i = some j
  | [], i, j, sz, _, h => by simp at h
  | (o, sz') :: l, i, j, sz, hn, h => by
    cases j with
    | zero => simp at h; obtain ⟨rfl, rfl⟩ := h; simp [posG]
    | succ j =>
      simp only [List.getElem?_cons_succ] at h
      have hm : i ∈ idsOf l := List.mem_filterMap.2 ⟨_, List.mem_of_getElem? h, rfl⟩
      cases o with
      | none => simp [posG, posG_of (gs := l) (by simpa [idsOf] using hn) h]
      | some i' =>
        have hn' : nodup (i' :: idsOf l) = true := by simpa [idsOf] using hn
        obtain ⟨h1, h2⟩ := nodup_cons hn'
        have : i' ≠ i := by rintro rfl; exact h1 hm
        simp [posG, this, posG_of h2 h]
theorem posG_mem {gs : List (Option Nat × Nat)} {i : Nat} (h : i ∈ idsOf gs) : ∃ j, posG gs i = some j := by
  induction gs with
  | nil => cases h
  | cons g l ih =>
    simp only [posG]
    split
    · exact ⟨0, rfl⟩
    · rename_i hne
      have : i ∈ idsOf l := by
        obtain ⟨g', h1, h2⟩ := List.mem_filterMap.1 h
        rcases List.mem_cons.1 h1 with rfl | h1
        · exact absurd h2 hne
        · exact List.mem_filterMap.2 ⟨g', h1, h2⟩
      obtain ⟨j, hj⟩ := ih this
      exact ⟨j + 1, by rw [hj]; rfl⟩
theorem mem_posG {gs : List (Option Nat × Nat)} {i j : Nat} (h : posG gs i = some j) : i ∈ idsOf gs := by
  obtain ⟨sz, e⟩ := posG_get h
  exact List.mem_filterMap.2 ⟨_, List.mem_of_getElem? e, rfl⟩

def GC (G : Gh) (gs : List (Option Nat × Nat)) : Gh :=
  ⟨G.M, fun b => match G.own b with | .tip i => (match posG gs i with | some j => .tip j | none => .free) | _ => .free, fun _ => none, fun _ => ⟨none, 0, 1⟩,
    fun j => match gs[j]? with | some (some i, _) => G.τ i | some (none, k) => ⟨none, 0, k⟩ | none => ⟨none, 0, 1⟩⟩
def SC (gs : List (Option Nat × Nat)) : St := ⟨[], [], gs.map fun g => (0, g.2), 0, 0⟩
def FG (G : Gh) (gs : List (Option Nat × Nat)) : Fr := ⟨fun b => ∃ i, i ∈ idsOf gs ∧ G.own b = .tip i, fun _ => none, fun _ => ⟨none, 0, 1⟩, fun _ => 0, (0, 0)⟩

section
variable {F : Fr} {w0 : World} {M0 : Mem} {G : Gh} {s : St} {w : World} {gs : List (Option Nat × Nat)} {args : List Arg} {vals : List Value}

theorem GC_own {b j : Nat} (h : (GC G gs).own b = .tip j) : ∃ i, G.own b = .tip i ∧ posG gs i = some j := by
  simp only [GC] at h
  split at h
  · rename_i i hi
    split at h
    · rename_i j' hj; cases h; exact ⟨i, hi, hj⟩
    · cases h
  · cases h

theorem SRel.start2 (h : SRel F w0 M0 G s w) (hp : PassRel G s args vals gs) (hn : nodup (idsOf gs) = true) : SRel (FG G gs) w G.M (GC G gs) (SC gs) w := by
  refine ⟨rfl, rfl, rfl, Nat.le_refl _, fun _ _ _ => rfl, h.agree, Mem.le_refl _, h.layW (fun b hb => by obtain ⟨i, _, e⟩ := hb; rw [e]; simp), fun _ _ e => .inl e, fun b hb => ?_, fun a v e => ?_, fun i z cs b h1 _ => by simp [SC] at h1, fun i v sz xs h1 => by simp [SC] at h1, fun j e h1 => ?_, ⟨rfl, fun i h1 => absurd h1 (Nat.not_lt_zero _)⟩, fun i h1 => absurd h1 (Nat.not_lt_zero _)⟩
  · cases ho : (GC G gs).own b with
    | free => exact absurd ho hb
    | tip j =>
      obtain ⟨i, g1, g2⟩ := GC_own ho
      exact ⟨(h.own b (by rw [g1]; simp)).1, .inl ⟨i, mem_posG g2, g1⟩⟩
    | box j => simp only [GC] at ho; split at ho <;> (try split at ho) <;> cases ho
    | vec j => simp only [GC] at ho; split at ho <;> (try split at ho) <;> cases ho
  · rcases h.ownM a v e with e1 | ⟨i, ad, hi, e1, e2, e3⟩
    · left; simp only [GC, e1]
    · cases hpi : posG gs i with
      | none => left; simp only [GC, e1, hpi]
      | some j =>
        obtain ⟨sz, hj⟩ := posG_get hpi
        right
        refine ⟨j, ad, ?_, by simp only [GC, e1, hpi], by simp only [GC, hj]; exact e2, e3⟩
        simp [SC]; exact (List.getElem?_eq_some_iff.1 hj).1
  · simp only [SC, List.getElem?_map] at h1
    cases hg : gs[j]? with
    | none => rw [hg] at h1; cases h1
    | some g =>
      rw [hg] at h1
      obtain rfl := Option.some.inj h1
      obtain ⟨g1, g2⟩ := hp.gs g (List.mem_of_getElem? hg)
      obtain ⟨o, sz⟩ := g
      cases o with
      | none => simp only [GC, hg]; exact ⟨⟨trivial, g1 rfl⟩, .inl ⟨trivial, trivial⟩⟩
      | some i =>
        obtain ⟨ver, hv⟩ := g2 i rfl
        obtain ⟨q0, q2⟩ := h.tp i _ hv
        simp only [GC, hg]
        refine ⟨q0, ?_⟩
        rcases q2 with q2 | ⟨b, o, vs, T, k1, k2, k3, k4⟩
        · exact .inl q2
        · exact .inr ⟨b, o, vs, T, k1, by rw [k2]; simp only [posG_of hn hg], k3, k4⟩

def LRel (G : Gh) (s : St) (l : List AV) (vs : List Value) : Prop := vs.length = l.length ∧ ∀ (i : Nat) a v, l[i]? = some a → vs[i]? = some v → ARel G s a v
theorem LRel.cons {G : Gh} {s : St} {a : AV} {v : Value} {l : List AV} {vs : List Value} (h : ARel G s a v) (k : LRel G s l vs) : LRel G s (a :: l) (v :: vs) :=
  ⟨by simp [k.1], fun i a' v' h1 h2 => by
    cases i with
    | zero => simp at h1 h2; subst h1; subst h2; exact h
    | succ i => exact k.2 i a' v' (by simpa using h1) (by simpa using h2)⟩
theorem LRel.frel {G : Gh} {s : St} {l : List AV} {vs : List Value} (h : LRel G s l vs) : FRel G s l vs.toArray := ⟨by simpa using h.1, fun i a v h1 h2 => h.2 i a v h1 (by simpa using h2)⟩

theorem PassRel.enter {full : List (Option Nat × Nat)} (h : PassRel G s args vals gs) : ∀ (pre : List (Option Nat × Nat)), full = pre ++ gs → (enterT args ⟨[], [], pre.map fun g => (0, g.2), 0, 0⟩).2 = SC full ∧ LRel (GC G full) (SC full) (enterT args ⟨[], [], pre.map fun g => (0, g.2), 0, 0⟩).1 vals := by
  induction h with
  | nil => intro pre e; simp at e; subst e; exact ⟨rfl, rfl, by simp [enterT]⟩
  | pv h1 _ ih =>
    intro pre e
    obtain ⟨k1, k2⟩ := ih pre e
    exact ⟨k1, LRel.cons h1 k2⟩
  | bldN hk hq ih =>
    rename_i k l vs gs
    intro pre e
    obtain ⟨k1, k2⟩ := ih (pre ++ [(none, k)]) (by simpa using e)
    simp only [List.map_append, List.map_cons, List.map_nil] at k1 k2
    have hfull : full[pre.length]? = some (none, k) := by subst e; simp
    have hsc : (SC full).tp[pre.length]? = some (0, k) := by simp [SC, hfull]
    refine ⟨k1, LRel.cons ?_ k2⟩
    simp only [List.length_map]
    refine ⟨(List.getElem?_eq_some_iff.1 hsc).1, rep_empty _ _ _ (by omega), fun cur hc => ?_⟩
    rw [hsc] at hc
    obtain rfl := Option.some.inj hc
    refine ⟨Nat.le_refl _, fun _ => ?_⟩
    simp only [GC, hfull]
    exact ⟨⟨none, rfl, by simp⟩, by simp⟩
  | bld h1 h2 hq ih =>
    rename_i i ver sz xs v l vs gs
    intro pre e
    obtain ⟨k1, k2⟩ := ih (pre ++ [(some i, sz)]) (by simpa using e)
    simp only [List.map_append, List.map_cons, List.map_nil] at k1 k2
    have hfull : full[pre.length]? = some (some i, sz) := by subst e; simp
    have hsc : (SC full).tp[pre.length]? = some (0, sz) := by simp [SC, hfull]
    refine ⟨k1, LRel.cons ?_ k2⟩
    simp only [List.length_map]
    obtain ⟨_, g2, g3⟩ := h2
    refine ⟨(List.getElem?_eq_some_iff.1 hsc).1, g2, fun cur hc => ?_⟩
    rw [hsc] at hc
    obtain rfl := Option.some.inj hc
    refine ⟨Nat.le_refl _, fun _ => ?_⟩
    simp only [GC, hfull]
    exact (g3 _ h1).2 rfl

theorem PassRel.noRefs (h : PassRel G s args vals gs) : nBox args = 0 ∧ nVec args = 0 := by
  induction h with
  | nil => exact ⟨rfl, rfl⟩
  | pv _ _ ih => simpa [nBox, nVec] using ih
  | bldN _ _ ih => simpa [nBox, nVec] using ih
  | bld _ _ _ ih => simpa [nBox, nVec] using ih
theorem PassRel.enterA (h : PassRel G s args vals gs) : (Go.AL.enter args).2 = SC gs ∧ LRel (GC G gs) (SC gs) (Go.AL.enter args).1 vals := by
  obtain ⟨e1, e2⟩ := h.enter (full := gs) [] rfl
  obtain ⟨n1, n2⟩ := h.noRefs
  simp only [List.map_nil] at e1 e2
  refine ⟨?_, e2⟩
  simp only [Go.AL.enter, e1, n1, n2]
  rfl

theorem PassRel.plain (h : SRel F w0 M0 G s w) (hp : PassRel G s args vals gs) : args.all plainArg = true := by
  induction hp with
  | nil => rfl
  | pv _ _ ih => simpa [plainArg] using ih
  | bldN hk _ ih =>
    simp only [List.all_cons, Bool.and_eq_true, plainArg]
    exact ⟨Nat.ble_eq_true_of_le hk, ih⟩
  | bld h1 _ _ ih =>
    simp only [List.all_cons, Bool.and_eq_true, plainArg]
    obtain ⟨⟨q0, q1⟩, _⟩ := h.tp _ _ h1
    simp only at q0
    exact ⟨Nat.ble_eq_true_of_le (by rw [← q0]; exact q1), ih⟩

def GN (G : Gh) (ids : List Nat) (M : Mem) : Gh :=
  { G with M := M, own := fun b => match G.own b with | .tip i => if i ∈ ids then .free else .tip i | x => x, τ := fun i => if i ∈ ids then ⟨none, 0, (G.τ i).sz⟩ else G.τ i }

theorem GN_own {ids : List Nat} {M : Mem} {b : Nat} (h : ∀ i, i ∈ ids → G.own b ≠ .tip i) : (GN G ids M).own b = G.own b := by
  simp only [GN]
  split
  · rename_i i hi
    rw [if_neg (fun hm => h i hm hi), hi]
  · rfl

/-- Behind a call that was handed tails. -/
theorem SRel.absorb2 (h : SRel F w0 M0 G s w) (hn : nodup (idsOf gs) = true) {G' : Gh} {s' : St} {w' : World} (hc : SRel (FG G gs) w G.M G' s' w') :
    SRel F w0 M0 (GN G (idsOf gs) G'.M) (s.given (idsOf gs)) w' ∧ Ext G s (GN G (idsOf gs) G'.M) (s.given (idsOf gs)) := by
  have he : Ext G s (GN G (idsOf gs) G'.M) (s.given (idsOf gs)) := by
    refine ⟨hc.base, Nat.le_refl _, Nat.le_refl _, by simp [St.given, length_bumpAll], fun _ _ _ h => h, fun i _ cur xs h => ⟨cur, xs, h, Nat.le_refl _, fun _ => ⟨rfl, rfl⟩⟩, fun i hi cur' e => ?_⟩
    simp only [St.given] at e
    rw [bumpAll_get _ _ _ hn] at e
    split at e
    · rw [List.getElem?_eq_getElem hi] at e
      simp at e
      subst e
      exact ⟨_, List.getElem?_eq_getElem hi, by simp, fun e => by simp at e⟩
    · rename_i hni
      exact ⟨cur', e, Nat.le_refl _, fun _ => by simp only [GN]; rw [if_neg hni]⟩
  have hkeep : ∀ b, b < w.heap.size → (∀ i, i ∈ idsOf gs → G.own b ≠ .tip i) → w'.heap[b]? = w.heap[b]? := fun b hb hno => hc.old b hb (fun ⟨i, h1, h2⟩ => hno i h1 h2)
  refine ⟨⟨hc.os.trans h.os, hc.tape.trans h.tape, hc.output.trans h.output, Nat.le_trans h.size hc.size, ?_, hc.agree, Mem.le_trans h.base hc.base, h.lay, ?_, ?_, ?_, ?_, ?_, ?_, h.rt, h.rv⟩, he⟩
  · intro k hk hF
    rw [hkeep k (Nat.lt_of_lt_of_le hk h.size) (fun i _ e => by
      rcases (h.own k (by rw [e]; simp)).2 with e | e
      · exact hF e
      · omega)]
    exact h.old k hk hF
  · intro a v e
    rcases hc.newM a v e with e | e | ⟨i, h1, h2⟩
    · exact h.newM a v e
    · exact .inr (.inl (Nat.le_trans h.size e))
    · rcases (h.own a.block (by rw [h2]; simp)).2 with e | e
      · exact .inr (.inr e)
      · exact .inr (.inl e)
  · intro b hb
    have : G.own b ≠ .free := by
      intro e
      apply hb
      simp only [GN, e]
    obtain ⟨g1, g2⟩ := h.own b this
    exact ⟨Nat.lt_of_lt_of_le g1 hc.size, g2⟩
  · intro a v e
    rcases hc.newM a v e with e | e | ⟨i, h1, h2⟩
    · rcases h.ownM a v e with e1 | ⟨i, ad, hi, e1, e2, e3⟩
      · left; simp only [GN, e1]
      · by_cases hi' : i ∈ idsOf gs
        · left; simp only [GN, e1, if_pos hi']
        · right
          exact ⟨i, ad, by simpa [St.given, length_bumpAll] using hi, by simp only [GN, e1, if_neg hi'], by simp only [GN, if_neg hi']; exact e2, e3⟩
    · left
      cases ho : G.own a.block with
      | free => simp only [GN, ho]
      | _ => have := (h.own a.block (by rw [ho]; simp)).1; omega
    · left; simp only [GN, h2, if_pos h1]
  · intro i z cs b h1 h2
    obtain ⟨q1, q2, q3, vs, q4, q5⟩ := h.bx i z cs b h1 h2
    have hno : ∀ j, j ∈ idsOf gs → G.own b ≠ .tip j := fun j _ e => by rw [q1] at e; cases z <;> cases e
    exact ⟨(GN_own hno).trans q1, Nat.lt_of_lt_of_le q2 hc.size, q3, vs, by rw [hkeep b q2 hno]; exact q4, q5.ext he⟩
  · intro i ver sz xs h1
    obtain ⟨q0, q1, q2⟩ := h.vc i ver sz xs h1
    refine ⟨q0, q1, ?_⟩
    rcases q2 with q2 | ⟨b, o, vs, T, g1, g2, g3, g4, g5, g6⟩
    · exact .inl q2
    · have hno : ∀ j, j ∈ idsOf gs → G.own b ≠ .tip j := fun j _ e => by rw [g2] at e; cases e
      refine .inr ⟨b, o, vs, T, g1, (GN_own hno).trans g2, ?_, g4, g5, fun j x k y e1 e2 => ?_⟩
      · rw [hkeep b (h.own b (by rw [g2]; simp)).1 hno]; exact g3
      · obtain ⟨v, e3, e4⟩ := g6 j x k y e1 e2
        exact ⟨v, e3, e4.mono hc.base⟩
  · intro i e h1
    simp only [St.given] at h1
    rw [bumpAll_get _ _ _ hn] at h1
    split at h1
    · rename_i hi
      cases ht : s.tp[i]? with
      | none => rw [ht] at h1; cases h1
      | some c =>
        rw [ht] at h1
        obtain rfl := Option.some.inj h1
        obtain ⟨q0, q2⟩ := h.tp i _ ht
        simp only [GN, if_pos hi]
        exact ⟨q0, .inl ⟨by trivial, by trivial⟩⟩
    · rename_i hi
      obtain ⟨q0, q2⟩ := h.tp i _ h1
      simp only [GN, if_neg hi]
      refine ⟨q0, ?_⟩
      rcases q2 with q2 | ⟨b, o, vs, T, g1, g2, g3, g4⟩
      · exact .inl q2
      · have hno : ∀ j, j ∈ idsOf gs → G.own b ≠ .tip j := fun j hj e => by rw [g2] at e; cases e; exact hi hj
        refine .inr ⟨b, o, vs, T, g1, by rw [g2]; simp only [if_neg hi], ?_, g4⟩
        rw [hkeep b (h.own b (by rw [g2]; simp)).1 hno]; exact g3

/-- The callee's blocks are nobody's in the caller's eyes. -/
theorem callee_free (h : SRel F w0 M0 G s w) {G' : Gh} {s' : St} {w' : World} (hc : SRel (FG G gs) w G.M G' s' w') {b : Nat} (hb : G'.own b ≠ .free) :
    (GN G (idsOf gs) G'.M).own b = .free ∧ b < w'.heap.size ∧ (F b ∨ w0.heap.size ≤ b) ∧ ∀ i cs, (s.given (idsOf gs)).bx[i]? = some (true, cs) → (GN G (idsOf gs) G'.M).μ i ≠ some b := by
  obtain ⟨g1, g2⟩ := hc.own b hb
  refine ⟨?_, g1, ?_, fun i cs h1 h2 => ?_⟩
  · rcases g2 with ⟨i, h1, h2⟩ | g2
    · simp only [GN, h2, if_pos h1]
    · cases ho : G.own b with
      | free => simp only [GN, ho]
      | _ => have := (h.own b (by rw [ho]; simp)).1; omega
  · rcases g2 with ⟨i, h1, h2⟩ | g2
    · exact (h.own b (by rw [h2]; simp)).2
    · exact .inr (Nat.le_trans h.size g2)
  · obtain ⟨q1, q2, _⟩ := h.bx i true cs b h1 h2
    rcases g2 with ⟨j, h3, h4⟩ | g2
    · rw [h4] at q1; cases q1
    · omega

theorem take_tip (h : SRel F w0 M0 G s w) (hn : nodup (idsOf gs) = true) {G' : Gh} {s' : St} {w' : World} (hc : SRel (FG G gs) w G.M G' s' w') {sz : Nat} {xs : List PV} {outs : List Ref} {v : Value} (ho : OutRel G' s' (.bld sz xs, outs) v) :
    ∃ G3, SRel F w0 M0 G3 { s.given (idsOf gs) with tp := (s.given (idsOf gs)).tp ++ [(0, sz)] } w' ∧ Ext G s G3 { s.given (idsOf gs) with tp := (s.given (idsOf gs)).tp ++ [(0, sz)] } ∧
      ARel G3 { s.given (idsOf gs) with tp := (s.given (idsOf gs)).tp ++ [(0, sz)] } (.bld (s.given (idsOf gs)).tp.length 0 xs) v := by
  obtain ⟨hS, he⟩ := h.absorb2 hn hc
  rcases ho with ⟨rfl, rfl, hsz⟩ | ⟨i, e, h1, h2⟩
  · obtain ⟨G3, q1, q2, q3⟩ := hS.newTip sz hsz
    exact ⟨G3, q1, he.trans q2, q3 _ .nils⟩
  · obtain ⟨⟨t1, t2⟩, t3⟩ := hc.tp i _ h1
    simp only at t1
    obtain ⟨g1, g2, g3⟩ := h2
    have ht := (g3 _ h1).2 rfl
    have := hS.attachTip (hd := G'.τ i) (xs := xs) (v := v) t2 (by
      rcases t3 with t3 | ⟨b, o, vs, T, k1, k2, k3, k4⟩
      · exact .inl t3
      · obtain ⟨f1, f2, f3, f4⟩ := callee_free h hc (b := b) (by rw [k2]; simp)
        refine .inr ⟨b, o, vs, T, k1, f1, f2, f3, k3, k4, fun a u e1 e2 => ?_, f4⟩
        rcases hc.ownM a u e1 with e3 | ⟨j, ad, hj, e3, e4, e5⟩
        · rw [e2, k2] at e3; cases e3
        · rw [e2, k2] at e3
          cases e3
          rw [k1] at e4
          obtain rfl := Option.some.inj e4
          exact e5) g2 ht
    rw [t1] at this
    obtain ⟨G3, q1, q2, q3⟩ := this
    exact ⟨G3, q1, he.trans q2, q3⟩

/-- A vector of one's own as a slice that may be appended to. -/
theorem vecB (h : SRel F w0 M0 G s w) {sz : Nat} {xs : List PV} {outs : List Ref} {v : Value} (ho : OutRel G s (.vec sz xs, outs) v) :
    ∃ G' s', SRel F w0 M0 G' s' w ∧ OutRel G' s' (.bld sz xs, outs) v ∧ s'.bx = s.bx ∧ s'.nn = s.nn ∧ s'.vc.take s.nv = s.vc.take s.nv := by
  obtain ⟨i, ver, h1, h2, h3⟩ := ho
  obtain ⟨⟨r0, r0'⟩, r1, r2⟩ := h.vc i ver sz xs h1
  obtain ⟨G1, q1, q2, q3, q4, q5, q6⟩ := h.pubVecM h1 h2
  have hv := (h2.2.2 _ _ h1).2 rfl
  simp only at hv
  have hbx : ∀ b, G.own b = .vec i → ∀ k cs, s.bx[k]? = some (true, cs) → G.μ k ≠ some b := fun b hb k cs e1 e2 => by
    have := (h.bx k true cs b e1 e2).1
    rw [hb] at this; cases this
  have hM : ∀ b, G.own b = .vec i → ∀ a u, G.M a = some u → a.block ≠ b := fun b hb a u e hab => by
    rcases h.ownM a u e with e1 | ⟨j, ad, _, e1, _⟩
    · rw [hab, hb] at e1; cases e1
    · rw [hab, hb] at e1; cases e1
  have key := q1.attachTip (hd := ⟨(G.ν i).A.map (·.add (xs.length * sz)), (G.ν i).cap - xs.length, sz⟩) (xs := xs) (v := v) (by rw [← r0]; exact r0') (by
    rcases r2 with ⟨k1, k2, _⟩ | ⟨b, o, vs, T, k1, k2, k3, k4, k5, k6⟩
    · exact .inl ⟨by simp [k1], by simp [k2]⟩
    · obtain ⟨f1, f2⟩ := h.own b (by rw [k2]; simp)
      refine .inr ⟨b, o + xs.length * sz, vs, T, by simp [k1, Addr.add_lit], q5 _ k1, f1, f2, k3, ?_, fun a u e1 e2 => ?_, fun k cs e1 => ?_⟩
      · simp only
        rw [r0] at k4
        rw [Nat.add_assoc, ← Nat.add_mul, Nat.add_sub_cancel' k5]
        exact k4
      · rcases q6 a u e1 with e3 | ⟨ad, e3, e4, e5⟩
        · exact absurd e2 (hM b k2 a u e3)
        · rw [k1] at e3
          obtain rfl := Option.some.inj e3
          exact e5
      · rw [q4]; exact hbx b k2 k cs e1) q3 (by
    have hcap : xs.length ≤ (G.ν i).cap := by
      rcases r2 with ⟨_, _, e⟩ | ⟨_, _, _, _, _, _, _, _, e, _⟩
      · rw [e]; simp
      · exact e
    refine ⟨⟨(G.ν i).A, ?_, fun _ => rfl⟩, fun x hx => ?_⟩
    · rw [hv]; simp only; rw [Nat.add_sub_cancel' hcap]
    · rw [(r1 x hx).1, r0])
  obtain ⟨G2, m1, m2, m3⟩ := key
  exact ⟨G2, _, m1, .inr ⟨s.tp.length, 0, by simp, m3⟩, rfl, rfl, List.take_set_of_le h3⟩

theorem take_vec (h : SRel F w0 M0 G s w) (hn : nodup (idsOf gs) = true) {G' : Gh} {s' : St} {w' : World} (hc : SRel (FG G gs) w G.M G' s' w') {sz : Nat} {xs : List PV} {outs : List Ref} {v : Value} (ho : OutRel G' s' (.vec sz xs, outs) v) :
    ∃ G3, SRel F w0 M0 G3 { s.given (idsOf gs) with vc := (s.given (idsOf gs)).vc ++ [some (0, sz, xs)] } w' ∧ Ext G s G3 { s.given (idsOf gs) with vc := (s.given (idsOf gs)).vc ++ [some (0, sz, xs)] } ∧
      ARel G3 { s.given (idsOf gs) with vc := (s.given (idsOf gs)).vc ++ [some (0, sz, xs)] } (.vec (s.given (idsOf gs)).vc.length 0) v := by
  obtain ⟨hS, he⟩ := h.absorb2 hn hc
  obtain ⟨i, ver, h1, h2, _⟩ := ho
  obtain ⟨⟨r0, r0'⟩, r1, r2⟩ := hc.vc i ver sz xs h1
  obtain ⟨g1, _, g3⟩ := h2
  have hv := (g3 _ _ h1).2 rfl
  simp only at hv
  have := hS.attachVec (hd := G'.ν i) (xs := xs) r0' r1 (by
    rcases r2 with r2 | ⟨b, o, vs, T, k1, k2, k3, k4, k5, k6⟩
    · exact .inl r2
    · obtain ⟨f1, f2, f3, f4⟩ := callee_free h hc (b := b) (by rw [k2]; simp)
      refine .inr ⟨b, o, vs, T, k1, f1, f2, f3, k3, k4, k5, k6, fun a u e1 e2 => ?_, f4⟩
      rcases hc.ownM a u e1 with e3 | ⟨j, ad, hj, e3, _⟩
      · rw [e2, k2] at e3; cases e3
      · rw [e2, k2] at e3; cases e3)
  rw [r0] at this
  obtain ⟨G3, q1, q2, q3⟩ := this
  exact ⟨G3, q1, he.trans q2, by rw [hv]; exact q3⟩

/-- A part of a list. -/
theorem PRep.win {M : Mem} {xs : List PV} {A : Option Addr} {n cap : Nat} (h : PRep M (.lst xs) (.slice A n cap)) {hd : VH} (hA : hd.A = A) (hc : hd.cap = cap) (hs : ∀ x, x ∈ xs → x.cells.length = hd.sz) (hsz : 0 < hd.sz) {lo hi : Nat} (h1 : lo ≤ hi) (h2 : hi ≤ xs.length) :
    PRep M (.lst ((xs.take hi).drop lo)) (.slice (winA hd lo) (hi - lo) (hd.cap - lo)) := by
  subst hA; subst hc
  cases h with
  | lst xs A cap sz vs hsz0 hcap hs0 ho hA hm hr =>
    have hl : ((xs.take hi).drop lo).length = hi - lo := by simp; omega
    have hg : ∀ (j : Nat) x, ((xs.take hi).drop lo)[j]? = some x → xs[lo + j]? = some x ∧ lo + j < hi := fun j x e => by
      rw [List.getElem?_drop] at e
      have hlt := (List.getElem?_eq_some_iff.1 e).1
      simp only [List.length_take] at hlt
      rw [List.getElem?_take_of_lt (by omega)] at e
      exact ⟨e, by omega⟩
    have hmem : ∀ x, x ∈ (xs.take hi).drop lo → x ∈ xs := fun x hx => List.mem_of_mem_take (List.mem_of_mem_drop hx)
    have := PRep.lst (M := M) ((xs.take hi).drop lo) (winA hd lo) (hd.cap - lo) hd.sz (fun j k => vs (lo + j) k) hsz (by rw [hl]; omega) (fun x hx => hs x (hmem x hx)) (fun x hx => ho x (hmem x hx)) (fun hp e => by
        unfold winA at e
        rw [if_neg (by omega)] at e
        cases hA' : hd.A with
        | none => exact hA (by omega) hA'
        | some ad => rw [hA'] at e; cases e)
      (fun ad e j x k y e1 e2 => by
        obtain ⟨g1, g2⟩ := hg j x e1
        have hxs : xs.length ≤ hd.cap := hcap
        unfold winA at e
        rw [if_neg (by omega)] at e
        cases hA' : hd.A with
        | none => rw [hA'] at e; cases e
        | some ad0 =>
          rw [hA'] at e
          obtain rfl := Option.some.inj e
          have := hm ad0 hA' (lo + j) x k y g1 e2
          have hszq : sz = hd.sz := by
            rw [← hs0 x (List.mem_of_getElem? g1)]
            exact hs x (List.mem_of_getElem? g1)
          rw [Addr.add_add, ← hszq, show lo * sz + (j * sz + k) = (lo + j) * sz + k by rw [Nat.add_mul]; omega]
          exact this)
      (fun j x k y e1 e2 => hr (lo + j) x k y (hg j x e1).1 e2)
    rw [hl] at this
    exact this

/-! ### Handing over -/
theorem pass_rel (hS : SRel F w0 M0 G s w) {mode : Nat} {b : AV} {u : Value} {a : Arg} {is : List Nat} {s1 : St} (hr : ARel G s b u) (h : pass mode b s = some (a, is, s1)) :
    ∃ G1, SRel F w0 M0 G1 s1 w ∧ Ext G s G1 s1 ∧ s1.tp = s.tp ∧ ∀ G2 s2, Ext G1 s1 G2 s2 → s2.tp = s.tp → ∀ l vs gs, PassRel G2 s2 l vs gs → ∃ gs', PassRel G2 s2 (a :: l) (u :: vs) gs' ∧ idsOf gs' = is ++ idsOf gs := by
  unfold pass at h
  split at h
  · rename_i i ver
    split at h
    · rename_i cur sz xs hi
      replace h := bif_some h; obtain ⟨h1, h⟩ := h
      have hcv := beq_eq h1
      simp only [Option.some.injEq, Prod.mk.injEq] at h
      obtain ⟨rfl, rfl, rfl⟩ := h
      subst hcv
      obtain ⟨G', q1, q2, q3⟩ := hS.pubVec hi hr
      exact ⟨G', q1, q2, rfl, fun G2 s2 he _ l vs gs hp => ⟨gs, .pv (q3.mono he.M) hp, rfl⟩⟩
    · cases h
  · rename_i i ver lo hi
    split at h
    · rename_i cur sz xs hi'
      replace h := bif_some h; obtain ⟨h1, h⟩ := h
      have hcv := beq_eq h1
      simp only [Option.some.injEq, Prod.mk.injEq] at h
      obtain ⟨rfl, rfl, rfl⟩ := h
      subst hcv
      obtain ⟨g1, g2, g3⟩ := hr
      obtain ⟨k1, k2, k3⟩ := (g3 _ _ hi').2 rfl
      simp only at k2
      obtain ⟨⟨r0, r0'⟩, r1, r2⟩ := hS.vc i cur sz xs hi'
      obtain ⟨G', q1, q2, q3⟩ := hS.pubVec hi' (v := .slice (G.ν i).A xs.length (G.ν i).cap) ⟨g1, ⟨_, _, _, rfl⟩, fun c ys hc => by
        rw [hi'] at hc
        simp only [Option.some.injEq, Prod.mk.injEq] at hc
        obtain ⟨rfl, rfl⟩ := hc
        exact ⟨Nat.le_refl _, fun _ => rfl⟩⟩
      have q4 := q3.win rfl rfl (fun x hx => (r1 x hx).1) r0' k1 k2
      rw [← k3] at q4
      exact ⟨G', q1, q2, rfl, fun G2 s2 he _ l vs gs hp => ⟨gs, .pv (q4.mono he.M) hp, rfl⟩⟩
    · cases h
  · split at h
    · rename_i p hp
      simp only [Option.some.injEq, Prod.mk.injEq] at h
      obtain ⟨rfl, rfl, rfl⟩ := h
      exact ⟨G, hS, Ext.refl _ _, rfl, fun G2 s2 he _ l vs gs hp' => ⟨gs, .pv ((toPV_rel hr hp).mono he.M) hp', rfl⟩⟩
    · cases h
  · rename_i k
    replace h := bif_some h; obtain ⟨h1, h⟩ := h
    simp only [Option.some.injEq, Prod.mk.injEq] at h
    obtain ⟨rfl, rfl, rfl⟩ := h
    cases hr
    exact ⟨G, hS, Ext.refl _ _, rfl, fun G2 s2 he _ l vs gs hp' => ⟨_, .bldN (blt_lt h1) hp', by simp [idsOf]⟩⟩
  · rename_i k i ver xs
    split at h
    · rename_i cur sz hi
      replace h := bif_some h; obtain ⟨h1, h⟩ := h
      simp only [Option.some.injEq, Prod.mk.injEq] at h
      obtain ⟨rfl, rfl, rfl⟩ := h
      simp only [Bool.and_eq_true] at h1
      have hcv := beq_eq h1.1
      subst hcv
      exact ⟨G, hS, Ext.refl _ _, rfl, fun G2 s2 he ht l vs gs hp' => ⟨_, .bld (by rw [ht]; exact hi) (hr.ext he) hp', by simp [idsOf]⟩⟩
    · cases h
  · cases h

theorem passAll_rel {E : Env} {g : FuncId} : ∀ {l : List AV} {us : List Value} {n : Nat} {s s' : St} {G : Gh} {args : List Arg} {ids : List Nat}, SRel F w0 M0 G s w → LRel G s l us → passAll E g n l s = some (args, ids, s') →
    ∃ G' gs, SRel F w0 M0 G' s' w ∧ Ext G s G' s' ∧ s'.tp = s.tp ∧ PassRel G' s' args us gs ∧ idsOf gs = ids
  | [], us, n, s, s', G, args, ids, hS, hl, h => by
    simp only [passAll, Option.some.injEq, Prod.mk.injEq] at h
    obtain ⟨rfl, rfl, rfl⟩ := h
    have : us = [] := List.eq_nil_of_length_eq_zero hl.1
    subst this
    exact ⟨G, [], hS, Ext.refl _ _, rfl, .nil, rfl⟩
  | b :: l, us, n, s, s', G, args, ids, hS, hl, h => by
    cases us with
    | nil => have := hl.1; simp at this
    | cons u us =>
      simp only [passAll] at h
      split at h
      · rename_i a is s1 hp
        split at h
        · rename_i as js s2 hps
          simp only [Option.some.injEq, Prod.mk.injEq] at h
          obtain ⟨rfl, rfl, rfl⟩ := h
          obtain ⟨G1, a1, a2, a3, a4⟩ := pass_rel hS (hl.2 0 b u rfl rfl) hp
          obtain ⟨G2, gs, b1, b2, b3, b4, b5⟩ := passAll_rel a1 ⟨by have := hl.1; simpa using this, fun i b' u' h1 h2 => (hl.2 (i + 1) b' u' (by simpa using h1) (by simpa using h2)).ext a2⟩ hps
          obtain ⟨gs', c1, c2⟩ := a4 G2 s2 b2 (b3.trans a3) as us gs b4
          exact ⟨G2, gs', b1, a2.trans b2, b3.trans a3, c1, by rw [c2, b5]⟩
        · cases h
      · cases h
end

section
variable {P : Program} {ty : TypeId} {av : Av} {s : St}

/-- A call, whatever is handed over. -/
theorem call_gen (hF : FOk P) {E : Env} (hc : CallOk P E.call) {c : Call} {g : FuncId} {bs : List AV} {args : List Arg} {ids : List Nat} {s1 : St} {out : Out} (hcal : c.callee = .value (.func g)) (h1 : c.args.toList.mapM av = some bs) (h2 : passAll E g 0 bs s = some (args, ids, s1)) (hn : nodup ids = true)
    (h : E.call g args = some out) {F : Fr} {w0 : World} {M0 : Mem} {G : Gh} {a : Act} {w : World} {o : Oper} (hS : SRel F w0 M0 G s w) (hA : Avs av G s a) (ho : o.op = .call c) {N : Value → World → Prop}
    (hN : ∀ G1 gs, SRel F w0 M0 G1 s1 w → Ext G s G1 s1 → idsOf gs = ids → ∀ v G' s' w', SRel (FG G1 gs) w G1.M G' s' w' → OutRel G' s' out v → N v w') : OpTo P o a w N := by
  obtain ⟨g1, g2⟩ := avs_rel hA h1
  obtain ⟨G1, gs, k1, k2, k3, k4, k5⟩ := passAll_rel (us := (c.args.map a.eval).toList) hS ⟨by simp [g1], fun i b u e1 e2 => by
    simp only [Array.toList_map, List.getElem?_map] at e2
    cases hy : c.args.toList[i]? with
    | none => rw [hy] at e2; cases e2
    | some y =>
      rw [hy] at e2
      obtain rfl := Option.some.inj e2
      exact g2 i b y e1 hy⟩ h2
  obtain ⟨hb, hs⟩ := hc g args out h (k4.plain k1)
  have hrun : (execOp a.eval o).run P w = .ok (.enter g (c.args.map a.eval)) w := by
    simp [execOp, ho, resolve, hcal, Act.eval, Deferred.ofValue, invoke, run_callFunc hF hb]
  obtain ⟨e1, e2⟩ := k4.enterA
  have hnd : nodup (idsOf gs) = true := by rw [k5]; exact hn
  have hfr := e2.frel
  rw [Array.toArray_toList] at hfr
  refine OpTo.enter hrun ((hs (FG G1 gs) G1.M (GC G1 gs) w _ (by rw [e1]; exact k1.start2 k4 hnd) (by rw [e1]; exact hfr)).mono ?_)
  rintro e w' ⟨v, G', s', rfl, q1, q2, _⟩
  exact ⟨v, rfl, hN G1 gs k1 k2 k5 v G' s' w' q1 q2⟩

theorem s_call0 (hF : FOk P) {E : Env} (hc : CallOk P E.call) {c : Call} {g : FuncId} {bs : List AV} {args : List Arg} {ids : List Nat} {s1 : St} {out : Out} {r : PV} (hcal : c.callee = .value (.func g)) (h1 : c.args.toList.mapM av = some bs) (h2 : passAll E g 0 bs s = some (args, ids, s1)) (hn : nodup ids = true)
    (h : E.call g args = some out) (hr : retPV out = some r) : Sound2 P (.call c) ty av s (.pv r) (s1.given ids) := by
  intro F w0 M0 G a w o hS hA ho _
  refine call_gen hF hc hcal h1 h2 hn h hS hA ho fun G1 gs k1 k2 k5 v G' s' w' q1 q2 => ?_
  obtain ⟨m1, m2⟩ := k1.absorb2 (by rw [k5]; exact hn) q1
  rw [k5] at m1 m2
  refine ⟨_, m1, k2.trans m2, ?_⟩
  obtain ⟨arg, outs⟩ := out
  cases arg with
  | pv p =>
    cases outs with
    | nil => obtain rfl := Option.some.inj hr; exact q2
    | cons _ _ => cases hr
  | bld sz xs =>
    cases outs with
    | nil =>
      obtain rfl := Option.some.inj hr
      rcases q2 with ⟨rfl, rfl, _⟩ | ⟨i, e, _, q2⟩
      · exact PRep.weak (p := .nils) .nils
      · exact q2.2.1
    | cons _ _ => cases hr
  | vec sz xs => cases hr
  | box cs => cases hr
  | map es => cases hr
  | own _ _ => cases hr
  | tup _ _ _ => cases hr

theorem s_call1 (hF : FOk P) {E : Env} (hc : CallOk P E.call) {c : Call} {g : FuncId} {bs : List AV} {args : List Arg} {ids : List Nat} {s1 : St} {out : Out} {k : Nat} {xs : List PV} (hcal : c.callee = .value (.func g)) (h1 : c.args.toList.mapM av = some bs) (h2 : passAll E g 0 bs s = some (args, ids, s1)) (hn : nodup ids = true)
    (h : E.call g args = some out) (hr : retB k out = some xs) : Sound2 P (.call c) ty av s (.bld (s1.given ids).tp.length 0 xs) { s1.given ids with tp := (s1.given ids).tp ++ [(0, k)] } := by
  intro F w0 M0 G a w o hS hA ho _
  refine call_gen hF hc hcal h1 h2 hn h hS hA ho fun G1 gs k1 k2 k5 v G' s' w' q1 q2 => ?_
  obtain ⟨arg, outs⟩ := out
  cases arg with
  | bld sz ys =>
    cases outs with
    | nil =>
      simp only [retB] at hr
      replace hr := bif_some hr
      obtain ⟨hr1, hr2⟩ := hr
      obtain rfl := beq_eq hr1
      obtain rfl := Option.some.inj hr2
      obtain ⟨G3, m1, m2, m3⟩ := take_tip k1 (by rw [k5]; exact hn) q1 q2
      rw [k5] at m1 m2 m3
      exact ⟨G3, m1, k2.trans m2, m3⟩
    | cons _ _ => cases hr
  | pv p => cases hr
  | vec sz ys =>
    cases outs with
    | nil =>
      simp only [retB] at hr
      replace hr := bif_some hr
      obtain ⟨hr1, hr2⟩ := hr
      obtain rfl := beq_eq hr1
      obtain rfl := Option.some.inj hr2
      obtain ⟨G0, s0, p1, p2, _⟩ := vecB q1 q2
      obtain ⟨G3, m1, m2, m3⟩ := take_tip k1 (by rw [k5]; exact hn) p1 p2
      rw [k5] at m1 m2 m3
      exact ⟨G3, m1, k2.trans m2, m3⟩
    | cons _ _ => cases hr
  | box cs => cases hr
  | map es => cases hr
  | own _ _ => cases hr
  | tup _ _ _ => cases hr

theorem s_call2 (hF : FOk P) {E : Env} (hc : CallOk P E.call) {c : Call} {g : FuncId} {bs : List AV} {args : List Arg} {ids : List Nat} {s1 : St} {out : Out} {k : Nat} {xs : List PV} (hcal : c.callee = .value (.func g)) (h1 : c.args.toList.mapM av = some bs) (h2 : passAll E g 0 bs s = some (args, ids, s1)) (hn : nodup ids = true)
    (h : E.call g args = some out) (hr : retV k out = some xs) : Sound2 P (.call c) ty av s (.vec (s1.given ids).vc.length 0) { s1.given ids with vc := (s1.given ids).vc ++ [some (0, k, xs)] } := by
  intro F w0 M0 G a w o hS hA ho _
  refine call_gen hF hc hcal h1 h2 hn h hS hA ho fun G1 gs k1 k2 k5 v G' s' w' q1 q2 => ?_
  obtain ⟨arg, outs⟩ := out
  cases arg with
  | vec sz ys =>
    cases outs with
    | nil =>
      simp only [retV] at hr
      replace hr := bif_some hr
      obtain ⟨hr1, hr2⟩ := hr
      obtain rfl := beq_eq hr1
      obtain rfl := Option.some.inj hr2
      obtain ⟨G3, m1, m2, m3⟩ := take_vec k1 (by rw [k5]; exact hn) q1 q2
      rw [k5] at m1 m2 m3
      exact ⟨G3, m1, k2.trans m2, m3⟩
    | cons _ _ => cases hr
  | pv p => cases hr
  | bld sz xs => cases hr
  | box cs => cases hr
  | map es => cases hr
  | own _ _ => cases hr
  | tup _ _ _ => cases hr
end
end Go.AL

/- Calls to which vectors are lent: what comes back refers to no memory but new one. -/
set_option linter.unusedVariables false
set_option linter.unusedSimpArgs false
namespace Go.AL
open Go.RowKit

section
variable {F : Fr} {w0 : World} {M0 : Mem} {G : Gh} {s : St} {w : World}

theorem pubAll_rel : ∀ {l : List AV} {us : List Value} {s s' : St} {G : Gh} {w : World} {ps : List PV}, SRel F w0 M0 G s w → LRel G s l us → pubAll l s = some (ps, s') → ∃ G', SRel F w0 M0 G' s' w ∧ Ext G s G' s' ∧ us.length = ps.length ∧ ∀ (i : Nat) p u, ps[i]? = some p → us[i]? = some u → PRep G'.M p u
  | [], us, s, s', G, w, ps, hS, hl, h => by
    simp only [pubAll, Option.some.injEq, Prod.mk.injEq] at h
    obtain ⟨rfl, rfl⟩ := h
    exact ⟨G, hS, Ext.refl _ _, hl.1, by simp⟩
  | b :: l, us, s, s', G, w, ps, hS, hl, h => by
    cases us with
    | nil => have := hl.1; simp at this
    | cons u us =>
      simp only [pubAll] at h
      split at h
      · rename_i p is s1 hp
        split at h
        · rename_i ps' s2 hps
          simp only [Option.some.injEq, Prod.mk.injEq] at h
          obtain ⟨rfl, rfl⟩ := h
          obtain ⟨G1, a1, a2, a3, a4⟩ := pass_rel hS (hl.2 0 b u rfl rfl) hp
          obtain ⟨gs', q1, _⟩ := a4 G1 s1 (Ext.refl _ _) a3 [] [] [] .nil
          have hp0 : PRep G1.M p u := by cases q1; assumption
          obtain ⟨G2, b1, b2, b3, b4⟩ := pubAll_rel a1 ⟨by have := hl.1; simpa using this, fun i b' u' h1 h2 => (hl.2 (i + 1) b' u' (by simpa using h1) (by simpa using h2)).ext a2⟩ hps
          refine ⟨G2, b1, a2.trans b2, by simp [b3], fun i q v h1 h2 => ?_⟩
          cases i with
          | zero => simp at h1 h2; subst h1; subst h2; exact hp0.mono b2.M
          | succ i => exact b4 i q v (by simpa using h1) (by simpa using h2)
        · cases h
      · cases h

/-- Memory of blocks that are new, added to what is told. -/
def newMem (n : Nat) (M N : Mem) : Mem := fun a => if n ≤ a.block then N a else M a

theorem SRel.mem_lt (h : SRel F w0 M0 G s w) {a : Addr} {v : Value} (e : G.M a = some v) : a.block < w.heap.size := World.block_lt_of_cell? _ _ (h.agree a v e)

theorem SRel.newMem_le (h : SRel F w0 M0 G s w) (N : Mem) : G.M.le (newMem w.heap.size G.M N) := fun a v e => by
  unfold newMem
  rw [if_neg (by have := h.mem_lt e; omega)]
  exact e

/-- Behind a call that was handed plain values alone, of some memory: the memory is as it was, and what is new. -/
theorem SRel.absorbN (h : SRel F w0 M0 G s w) {M1 : Mem} {G' : Gh} {s' : St} {w' : World} (hc : SRel Fr.none w M1 G' s' w') : SRel F w0 M0 { G with M := newMem w.heap.size G.M G'.M } s w' := by
  have hle := h.newMem_le G'.M
  have he := Ext.mem s hle
  have hold : ∀ a v, w.cell? a = some v → w'.cell? a = some v := fun a v e => by
    have hb := World.block_lt_of_cell? _ _ e
    exact (World.cell?_of_block (a := a) (hc.old _ hb (fun e => e))).trans e
  refine ⟨hc.os.trans h.os, hc.tape.trans h.tape, hc.output.trans h.output, Nat.le_trans h.size hc.size, ?_, ?_, Mem.le_trans h.base hle, h.lay, ?_, ?_, ?_, ?_, ?_, ?_, h.rt, h.rv⟩
  · intro k hk hF
    rw [hc.old k (Nat.lt_of_lt_of_le hk h.size) (fun e => e)]
    exact h.old k hk hF
  · intro a v e
    simp only [newMem] at e
    split at e
    · exact hc.agree a v e
    · exact hold a v (h.agree a v e)
  · intro a v e
    simp only [newMem] at e
    split at e
    · rename_i hb; exact .inr (.inl (Nat.le_trans h.size hb))
    · exact h.newM a v e
  · intro b hb
    obtain ⟨g1, g2⟩ := h.own b hb
    exact ⟨Nat.lt_of_lt_of_le g1 hc.size, g2⟩
  · intro a v e
    simp only [newMem] at e
    split at e
    · rename_i hb
      left
      cases ho : G.own a.block with
      | free => rfl
      | _ => have := (h.own a.block (by rw [ho]; simp)).1; omega
    · exact h.ownM a v e
  · intro i z cs b h1 h2
    obtain ⟨q1, q2, q3, vs, q4, q5⟩ := h.bx i z cs b h1 h2
    exact ⟨q1, Nat.lt_of_lt_of_le q2 hc.size, q3, vs, by rw [hc.old b q2 (fun e => e)]; exact q4, q5.ext he⟩
  · intro i ver sz xs h1
    obtain ⟨q0, q1, q2⟩ := h.vc i ver sz xs h1
    refine ⟨q0, q1, ?_⟩
    rcases q2 with q2 | ⟨b, o, vs, T, g1, g2, g3, g4, g5, g6⟩
    · exact .inl q2
    · refine .inr ⟨b, o, vs, T, g1, g2, ?_, g4, g5, fun j x k y e1 e2 => ?_⟩
      · rw [hc.old b (h.own b (by rw [g2]; simp)).1 (fun e => e)]; exact g3
      · obtain ⟨v, e3, e4⟩ := g6 j x k y e1 e2
        exact ⟨v, e3, e4.mono hle⟩
  · intro i e h1
    obtain ⟨q0, q2⟩ := h.tp i e h1
    refine ⟨q0, ?_⟩
    rcases q2 with q2 | ⟨b, o, vs, T, g1, g2, g3, g4⟩
    · exact .inl q2
    · exact .inr ⟨b, o, vs, T, g1, g2, by rw [hc.old b (h.own b (by rw [g2]; simp)).1 (fun e => e)]; exact g3, g4⟩

/-! #### Values that lie in no memory -/
theorem flat_cell {s : Sh} {p : PV} (h : s.flatC = true) (hf : s.fits p = true) {M : Mem} {v : Value} (hp : PRep M p v) (M' : Mem) : PRep M' p v := by
  cases s <;> simp [Sh.flatC] at h <;> cases p <;> simp [Sh.fits] at hf <;> cases hp <;> constructor

theorem flat_L {M M' : Mem} : ∀ {l : List Sh} {cs : List PV} {o : Bool}, l.all Sh.flatC = true → Sh.fitsL l cs o = true → ∀ (i : Nat) c v, cs[i]? = some c → PRep M c v → PRep M' c v
  | [], cs, o, _, h, i, c, v, hc, _ => by cases cs <;> simp [Sh.fitsL] at h; simp at hc
  | s :: l, [], o, _, h, i, c, v, hc, _ => by simp at hc
  | s :: l, p :: cs, o, ha, h, i, c, v, hc, hp => by
    simp only [List.all_cons, Bool.and_eq_true] at ha
    simp only [Sh.fitsL, Bool.and_eq_true] at h
    cases i with
    | zero => simp at hc; subst hc; exact flat_cell ha.1 h.1.1 hp M'
    | succ i => exact flat_L ha.2 h.2 i c v (by simpa using hc) hp

theorem flat_val {s : Sh} {p : PV} (h : s.flat = true) (hf : s.fits p = true) {M : Mem} {v : Value} (hp : PRep M p v) (M' : Mem) : PRep M' p v := by
  cases s with
  | agg l =>
    cases p <;> simp [Sh.fits] at hf
    cases hp with
    | agg cs vs hl ho hr => exact .agg _ vs hl ho fun i c v h1 h2 => flat_L h hf i c v h1 (hr i c v h1 h2)
  | tup l =>
    cases p <;> simp [Sh.fits] at hf
    cases hp with
    | tup cs vs hl hr => exact .tup _ vs hl fun i c v h1 h2 => flat_L h hf i c v h1 (hr i c v h1 h2)
  | _ => simp only [Sh.flat] at h; exact flat_cell h hf hp M'

theorem flat_cells {s : Sh} {p : PV} (h : s.flat = true) (hf : s.fits p = true) (hnt : ∀ l, s ≠ .tup l) {M : Mem} (M' : Mem) (k : Nat) (y : PV) (hy : p.cells[k]? = some y) {v : Value} (hp : PRep M y v) : PRep M' y v := by
  cases s with
  | agg l =>
    cases p <;> simp [Sh.fits] at hf
    exact flat_L h hf k y v hy hp
  | tup l => exact absurd rfl (hnt l)
  | _ =>
    simp only [Sh.flat] at h
    cases p <;> simp [Sh.fits, Sh.flatC] at hf h <;> (cases k <;> simp [PV.cells] at hy; subst hy; cases hp; constructor)

/-- A list of such, in memory that is new. -/
theorem flat_list {s : Sh} (h : s.flat = true) (hnt : ∀ l, s ≠ .tup l) {xs : List PV} (hf : xs.all s.fits = true) {M : Mem} {A : Option Addr} {n c : Nat} (hp : PRep M (.lst xs) (.slice A n c)) {M' : Mem} (hM : ∀ ad, A = some ad → ∀ k v, M (ad.add k) = some v → M' (ad.add k) = some v) : PRep M' (.lst xs) (.slice A n c) := by
  cases hp with
  | lst xs A cap sz vs hsz hcap hs ho hA hm hr =>
    refine .lst xs A c sz vs hsz hcap hs ho hA (fun ad e j x k y h1 h2 => hM ad e _ _ (hm ad e j x k y h1 h2)) fun j x k y h1 h2 => ?_
    exact flat_cells h (List.all_eq_true.1 hf x (List.mem_of_getElem? h1)) hnt M' k y h2 (hr j x k y h1 h2)
end

section
variable {P : Program} {ty : TypeId} {av : Av} {s : St}

/-- A call to which vectors are lent. -/
theorem call_lend (hF : FOk P) {E : Env} (hc : CallOk P E.call) {c : Call} {g : FuncId} {bs : List AV} {ps : List PV} {s1 : St} {out : Out} (hcal : c.callee = .value (.func g)) (h1 : c.args.toList.mapM av = some bs) (h2 : pubAll bs s = some (ps, s1))
    (h : E.call g (ps.map .pv) = some out) {F : Fr} {w0 : World} {M0 : Mem} {G : Gh} {a : Act} {w : World} {o : Oper} (hS : SRel F w0 M0 G s w) (hA : Avs av G s a) (ho : o.op = .call c) {N : Value → World → Prop}
    (hN : ∀ M1 v G' s' w', SRel Fr.none w M1 G' s' w' → OutRel G' s' out v → N v w') : OpTo P o a w N := by
  obtain ⟨g1, g2⟩ := avs_rel hA h1
  obtain ⟨G1, k1, k2, k3, k4⟩ := pubAll_rel (us := (c.args.map a.eval).toList) hS ⟨by simp [g1], fun i b u e1 e2 => by
    simp only [Array.toList_map, List.getElem?_map] at e2
    cases hy : c.args.toList[i]? with
    | none => rw [hy] at e2; cases e2
    | some y =>
      rw [hy] at e2
      obtain rfl := Option.some.inj e2
      exact g2 i b y e1 hy⟩ h2
  obtain ⟨hb, hs⟩ := hc g _ out h (plain_pv ps)
  rw [enter_pv] at hs
  have hrun : (execOp a.eval o).run P w = .ok (.enter g (c.args.map a.eval)) w := by
    simp [execOp, ho, resolve, hcal, Act.eval, Deferred.ofValue, invoke, run_callFunc hF hb]
  refine OpTo.enter hrun ((hs Fr.none G1.M (G0 G1.M) w _ k1.start ⟨by simpa using k3, fun i b v e1 e2 => ?_⟩).mono ?_)
  · rw [List.getElem?_map] at e1
    cases hp : ps[i]? with
    | none => rw [hp] at e1; cases e1
    | some q => rw [hp] at e1; obtain rfl := Option.some.inj e1; exact k4 i q v hp (by simpa using e2)
  · rintro e w' ⟨v, G', s', rfl, q1, q2, _⟩
    exact ⟨v, rfl, hN _ v G' s' w' q1 q2⟩

theorem s_lend0 (hF : FOk P) {E : Env} (hc : CallOk P E.call) {c : Call} {g : FuncId} {bs : List AV} {ps : List PV} {s1 : St} {out : Out} {r : PV} (hcal : c.callee = .value (.func g)) (h1 : c.args.toList.mapM av = some bs) (h2 : pubAll bs s = some (ps, s1))
    (h : E.call g (ps.map .pv) = some out) (hr : retPV out = some r) {sh : Sh} (hsh : sh.flat = true) (hfit : sh.fits r = true) : Sound2 P (.call c) ty av s (.pv r) s := by
  intro F w0 M0 G a w o hS hA ho _
  refine call_lend hF hc hcal h1 h2 h hS hA ho fun M1 v G' s' w' q1 q2 => ?_
  refine ⟨_, hS.absorbN q1, Ext.mem s (hS.newMem_le _), ?_⟩
  have hp : PRep G'.M r v := by
    obtain ⟨arg, outs⟩ := out
    cases arg with
    | pv p =>
      cases outs with
      | nil => obtain rfl := Option.some.inj hr; exact q2
      | cons _ _ => cases hr
    | bld sz xs =>
      cases outs with
      | nil =>
        obtain rfl := Option.some.inj hr
        rcases q2 with ⟨rfl, rfl, _⟩ | ⟨i, e, _, q2⟩
        · exact PRep.weak (p := .nils) .nils
        · exact q2.2.1
      | cons _ _ => cases hr
    | vec sz xs => cases hr
    | box cs => cases hr
    | map es => cases hr
    | own _ _ => cases hr
    | tup _ _ _ => cases hr
  exact flat_val hsh hfit hp _

theorem s_lend1 (hF : FOk P) {E : Env} (hc : CallOk P E.call) {c : Call} {g : FuncId} {bs : List AV} {ps : List PV} {s1 : St} {out : Out} {k : Nat} {xs : List PV} (hcal : c.callee = .value (.func g)) (h1 : c.args.toList.mapM av = some bs) (h2 : pubAll bs s = some (ps, s1))
    (h : E.call g (ps.map .pv) = some out) (hr : retB k out = some xs) {sh : Sh} (hsh : sh.flat = true) (hnt : ∀ l, sh ≠ .tup l) (hfit : xs.all sh.fits = true) : Sound2 P (.call c) ty av s (.bld s.tp.length 0 xs) { s with tp := s.tp ++ [(0, k)] } := by
  intro F w0 M0 G a w o hS hA ho _
  refine call_lend hF hc hcal h1 h2 h hS hA ho fun M1 v G' s' w' q1 q2 => ?_
  obtain ⟨G', s', q1, q2⟩ : ∃ G'' s'', SRel Fr.none w M1 G'' s'' w' ∧ OutRel G'' s'' (.bld k xs, []) v := by
    obtain ⟨arg, outs⟩ := out
    cases arg with
    | bld sz ys =>
      cases outs with
      | nil =>
        simp only [retB] at hr
        replace hr := bif_some hr
        obtain ⟨hr1, hr2⟩ := hr
        obtain rfl := beq_eq hr1
        obtain rfl := Option.some.inj hr2
        exact ⟨_, _, q1, q2⟩
      | cons _ _ => cases hr
    | vec sz ys =>
      cases outs with
      | nil =>
        simp only [retB] at hr
        replace hr := bif_some hr
        obtain ⟨hr1, hr2⟩ := hr
        obtain rfl := beq_eq hr1
        obtain rfl := Option.some.inj hr2
        obtain ⟨G0, s0, p1, p2, _⟩ := vecB q1 q2
        exact ⟨_, _, p1, p2⟩
      | cons _ _ => cases hr
    | pv p => cases hr
    | box cs => cases hr
    | map es => cases hr
    | own _ _ => cases hr
    | tup _ _ _ => cases hr
  clear h hr
  have hS' := hS.absorbN q1
  have he := Ext.mem s (hS.newMem_le G'.M)
  rcases q2 with ⟨rfl, rfl, hsz⟩ | ⟨i, e, h1', h2'⟩
  · obtain ⟨G3, m1, m2, m3⟩ := hS'.newTip k hsz
    exact ⟨G3, m1, he.trans m2, m3 _ .nils⟩
  · obtain ⟨⟨t1, t2⟩, t3⟩ := q1.tp i _ h1'
    simp only at t1
    obtain ⟨g1, g2, g3⟩ := h2'
    have ht := (g3 _ h1').2 rfl
    have hnew : ∀ b, G'.own b ≠ .free → w.heap.size ≤ b := fun b hb => by
      rcases (q1.own b hb).2 with e | e
      · exact e.elim
      · exact e
    obtain ⟨⟨A, hv, hA⟩, hlen⟩ := ht
    have hb' : ∀ (ad : Addr) n, (ad.add n).block = ad.block := fun ad n => by unfold Addr.add; split <;> rfl
    have hl : PRep (newMem w.heap.size G.M G'.M) (.lst xs) v := by
      rw [hv] at g2 ⊢
      by_cases hy : xs = []
      · subst hy
        cases g2 with
        | lst zs A cap sz vs hsz hcap hs ho hA hm hr => exact .lst [] A _ sz vs hsz hcap (by simp) (by simp) hA (by simp) (by simp)
      · have hpos : 0 < xs.length + (G'.τ i).room := by have := List.length_pos_iff.2 hy; omega
        have hA' := hA hpos
        refine flat_list hsh hnt hfit g2 fun ad e' m u hu => ?_
        subst e'
        rcases t3 with ⟨t3, t4⟩ | ⟨b, o', vs, T, k1, k2, k3, k4⟩
        · rw [t3] at hA'; cases hA'
        · rw [k1] at hA'
          simp only [Option.map_some, Option.some.injEq] at hA'
          have hbk : ad.block = b := by rw [← hb' ad (xs.length * (G'.τ i).sz), hA']
          have hge := hnew b (by rw [k2]; simp)
          unfold newMem
          rw [if_pos (by rw [hb']; omega)]
          exact hu
    have := hS'.attachTip (hd := G'.τ i) (xs := xs) (v := v) t2 (by
      rcases t3 with t3 | ⟨b, o', vs, T, k1, k2, k3, k4⟩
      · exact .inl t3
      · have hge := hnew b (by rw [k2]; simp)
        refine .inr ⟨b, o', vs, T, k1, ?_, (q1.own b (by rw [k2]; simp)).1, .inr (Nat.le_trans hS.size hge), k3, k4, fun a u e1 e2 => ?_, fun j cs e1 e2 => ?_⟩
        · show G.own b = .free
          cases hob : G.own b with
          | free => rfl
          | _ => have := (hS.own b (by rw [hob]; simp)).1; omega
        · simp only [newMem] at e1
          rw [if_pos (by rw [e2]; exact hge)] at e1
          rcases q1.ownM a u e1 with e3 | ⟨j, ad, hj, e3, e4, e5⟩
          · rw [e2, k2] at e3; cases e3
          · rw [e2, k2] at e3
            cases e3
            rw [k1] at e4
            obtain rfl := Option.some.inj e4
            exact e5
        · have := (hS.bx j true cs b e1 e2).2.1; omega) hl ⟨⟨A, hv, hA⟩, hlen⟩
    rw [t1] at this
    obtain ⟨G3, m1, m2, m3⟩ := this
    exact ⟨G3, m1, he.trans m2, m3⟩
end
end Go.AL

/- A vector that is appended to. -/
set_option linter.unusedVariables false
set_option linter.unusedSimpArgs false
namespace Go.AL
open Go.RowKit

/-- A vector's elements, cell by cell. -/
theorem vec_cells {M : Mem} {xs : List PV} {sz of : Nat} {vs : Array Value} (hs : ∀ x, x ∈ xs → x.cells.length = sz ∧ ∀ y, y ∈ x.cells → y.one = true) (hfit : of + xs.length * sz ≤ vs.size)
    (hc : ∀ j x k y, xs[j]? = some x → x.cells[k]? = some y → ∃ v, vs[of + (j * sz + k)]? = some v ∧ PRep M y v) : CRel M (flat xs) ((vs.toList.drop of).take (xs.length * sz)) := by
  have hl := length_flat (sz := sz) (xs := xs) fun x hx => (hs x hx).1
  refine ⟨by rw [hl]; simp; omega, fun i p v h1 h2 => ?_⟩
  have hi : i < (flat xs).length := (List.getElem?_eq_some_iff.1 h1).1
  rw [hl] at hi
  have hsz : 0 < sz := by rcases Nat.eq_zero_or_pos sz with h | h; · rw [h] at hi; omega
                          · exact h
  have hj : i / sz < xs.length := Nat.div_lt_of_lt_mul (by rw [Nat.mul_comm]; exact hi)
  have hx := List.getElem?_eq_getElem hj
  have hxm := hs _ (List.getElem_mem hj)
  have hk : i % sz < (xs[i / sz]).cells.length := by rw [hxm.1]; exact Nat.mod_lt _ hsz
  have hy := List.getElem?_eq_getElem hk
  have hfg := flat_get (sz := sz) (fun x hx => (hs x hx).1) hx hy
  rw [show i / sz * sz + i % sz = i by rw [Nat.mul_comm]; exact Nat.div_add_mod _ _] at hfg
  rw [h1] at hfg
  obtain rfl := Option.some.inj hfg
  obtain ⟨u, g1, g2⟩ := hc _ _ _ _ hx hy
  rw [show i / sz * sz + i % sz = i by rw [Nat.mul_comm]; exact Nat.div_add_mod _ _] at g1
  rw [List.getElem?_take_of_lt hi, List.getElem?_drop] at h2
  have : vs[of + i]? = some v := by simpa using h2
  rw [g1] at this
  obtain rfl := Option.some.inj this
  exact ⟨g2, hxm.2 _ (List.getElem_mem hk)⟩

section
variable {P : Program} {ty : TypeId} {av : Av} {s : St}

theorem s_append_vec (hT : TOk P) {c : Call} {t e : TypeId} {z : PV} {y x : Operand} {b : AV} {j ver sz : Nat} {xs ys : List PV} (hc : c.callee = .builtin .append) (ha : c.args = #[y, x]) (ht : c.argTypes = #[t, t]) (h1 : elemT P t = some e) (h2 : zeroPV P e = some z)
    (hy : av y = some (.vec j ver)) (hx : av x = some b) (hl : b.list = some ys) (hj : s.vc[j]? = some (some (ver, sz, xs))) (hsz : sz = sizeT P e) (hb : bytesT P e ≤ 65536) (hb0 : 0 < bytesT P e) (hh : headOk sz ys = true) (hsm : (xs.length + ys.length) * bytesT P e ≤ 141000000000000) :
    Sound2 P (.call c) ty av s (.vec j (ver + 1)) { s with vc := s.vc.set j (some (ver + 1, sz, xs ++ ys)) } := by
  intro F w0 M0 G a w o hS hA ho hty
  obtain ⟨hjl, _, g3⟩ := hA y _ hy
  have k1 := (g3 _ _ hj).2 rfl
  simp only at k1
  have hrep := list_rel (hA x b hx) hl
  obtain ⟨ti, zv, hti, hz, _, hof, hzs⟩ := run_zeroPV hT h2 w
  have hse := sizeT_of hti
  have hbe : bytesT P e = ti.bytes := by simp [bytesT, hti]
  obtain ⟨A', c', ex⟩ := rep_lst hrep
  rw [ex] at hrep
  have hys := headOk_all hrep hh
  have hrun0 : (execOp a.eval o).run P w = ((Builtin.append_ #[t, t] ty #[a.eval y, .slice A' ys.length c']).run P w).andThen fun u w' => .ok (.value u) w' := by
    simp [execOp, ho, resolve, hc, ha, invoke, builtin, ht, ex, hty]
  obtain ⟨⟨r0, r0'⟩, r1, r2⟩ := hS.vc j ver sz xs hj
  rw [r0] at r0'
  have r1' : ∀ x, x ∈ xs → x.cells.length = sz ∧ ∀ y, y ∈ x.cells → y.one = true := fun x hx => by rw [← r0]; exact r1 x hx
  have hat := VcAt.set hj (ver + 1, sz, xs ++ ys) (by simp)
  by_cases hne : ys = []
  · subst hne
    simp only [List.length_nil] at hrun0
    simp only [List.append_nil] at hat ⊢
    rcases r2 with ⟨q1, q2, rfl⟩ | ⟨b', of, vs, T, q1, q2, q3, q4, q5, q6⟩
    · rw [k1, q1, q2, run_append_none w (elemT_eq h1) (info_of hti) (by simp)] at hrun0
      obtain ⟨m1, m2, m3⟩ := hS.reVecNil (ver := ver + 1) hj (by omega) q1 q2
      exact OpTo.value hrun0 ⟨G, m1, m2, m3⟩
    · rw [k1, q1, run_append_none w (elemT_eq h1) (info_of hti) q5] at hrun0
      obtain ⟨G', m1, m2, m3⟩ := hS.reVec hat (o' := of) (cap' := (G.ν j).cap) (vs' := vs) q2 q3 r0' (by rw [← r0]; exact q4) q5 r1' (fun j' x k y e1 e2 => by rw [← r0]; exact q6 j' x k y e1 e2)
      rw [setRow_self w b' vs T (0, 0) q3] at m1
      exact OpTo.value hrun0 ⟨G', m1, m2, m3⟩
  · obtain ⟨ad', us, rfl, hpos, hcu, hul, hM⟩ := lst_cells hrep hys hne
    have hyl : 0 < ys.length := List.length_pos_iff.2 hne
    have hnews : ∀ (j : Nat) u, us[j]? = some u → w.cell? (ad'.add j) = some u := fun j u hj => hS.agree _ _ (hM j u hj)
    have hbytes : (xs.length + ys.length) * ti.bytes ≤ 141000000000000 := by rw [← hbe]; exact hsm
    have hcount : xs.length + ys.length ≤ 141000000000000 := Nat.le_trans (Nat.le_mul_of_pos_right _ (by omega)) hbytes
    have hwide : (xs.length + ys.length + (xs.length + ys.length) / 4 + 192) * ti.bytes ≤ 281474976710656 := by
      have h4 : (xs.length + ys.length) / 4 * ti.bytes ≤ 35250000000000 := by
        have : (xs.length + ys.length) / 4 * ti.bytes * 4 ≤ (xs.length + ys.length) * ti.bytes := by
          rw [Nat.mul_assoc, Nat.mul_comm ti.bytes 4, ← Nat.mul_assoc]
          exact Nat.mul_le_mul_right _ (Nat.div_mul_le_self _ _)
        omega
      have h5 : 192 * ti.bytes ≤ 192 * 65536 := Nat.mul_le_mul_left _ (by omega)
      rw [Nat.add_mul, Nat.add_mul]
      omega
    have fin : ∀ (old : List Value) (cp : Nat), CRel G.M (flat xs) old → xs.length + ys.length ≤ grownCap w (xs.length + ys.length) cp e → (Builtin.append_ #[t, t] ty #[a.eval y, .slice (some ad') ys.length c']).run P w = .ok (.slice (some ⟨w.heap.size, 0, none⟩) (xs.length + ys.length) (grownCap w (xs.length + ys.length) cp e))
        (w.drew.alloc (.cells (old.toArray ++ us.toArray ++ Builtin.zeroCells zv.cells (grownCap w (xs.length + ys.length) cp e - (xs.length + ys.length))) e)) →
        OpTo P o a w fun u w' => ∃ G', SRel F w0 M0 G' { s with vc := s.vc.set j (some (ver + 1, sz, xs ++ ys)) } w' ∧ Ext G s G' { s with vc := s.vc.set j (some (ver + 1, sz, xs ++ ys)) } ∧ ARel G' { s with vc := s.vc.set j (some (ver + 1, sz, xs ++ ys)) } (.vec j (ver + 1)) u := by
      intro old cp ho1 hge hrun
      rw [hrun] at hrun0
      have hall : ∀ x, x ∈ xs ++ ys → x.cells.length = sz := fun x hx => by rcases List.mem_append.1 hx with hx | hx <;> first | exact (r1' x hx).1 | exact hys x hx
      have hcr := ho1.append hcu
      rw [← flat_append] at hcr
      have hfl := length_flat hall
      have hlen : old.length + us.length = (xs.length + ys.length) * sz := by have := hcr.1; rw [hfl] at this; simpa using this
      obtain ⟨G', m3, m4, m5⟩ := hS.drew.rowVec hat (xs := xs ++ ys) (cap := grownCap w (xs.length + ys.length) cp e) (vs := old.toArray ++ us.toArray ++ Builtin.zeroCells zv.cells (grownCap w (xs.length + ys.length) cp e - (xs.length + ys.length))) r0' hall e (by
          simp only [Array.size_append, List.size_toArray, size_zeroCells, hlen, hzs, ← hse, ← hsz]
          rw [← Nat.add_mul, show xs.length + ys.length + (grownCap w (xs.length + ys.length) cp e - (xs.length + ys.length)) = grownCap w (xs.length + ys.length) cp e by omega]
          exact Nat.le_refl _) (by simpa using hge) (fun k p u h3 h4 => by
          have hk : k < (flat (xs ++ ys)).length := (List.getElem?_eq_some_iff.1 h3).1
          rw [Array.getElem?_append_left (by simp only [Array.size_append, List.size_toArray]; rw [hlen, ← List.length_append, ← hfl]; exact hk)] at h4
          exact hcr.2 k p u h3 (by simpa using h4))
      rw [List.length_append] at m5
      exact OpTo.value hrun0 ⟨G', m3, m4, m5⟩
    rcases r2 with ⟨q1, q2, rfl⟩ | ⟨b', of, vs, T, q1, q2, q3, q4, q5, q6⟩
    · simp only [List.length_nil, Nat.zero_add] at hcount fin hbytes
      rw [q1, q2] at k1
      have := run_append_nil (P := P) w t ty e ti zv (elemT_eq h1) (info_of hti) hz ad' ys.length c' us (by rw [hul, hsz, hse]) hnews hyl (by omega) (by omega)
      simp only [List.length_nil] at k1
      rw [← k1] at this
      refine fin [] 0 ⟨rfl, by simp [flat]⟩ (grownCap_ge w ys.length 0 e) ?_
      simpa using this
    · rw [q1] at k1
      rw [r0] at q4 q6
      have hxfit : of + xs.length * sz ≤ vs.size := by have := Nat.mul_le_mul_right sz q5; omega
      by_cases hroom : xs.length + ys.length ≤ (G.ν j).cap
      · have hfit : of + xs.length * sz + us.length ≤ vs.size := by
          rw [hul, Nat.add_assoc, ← Nat.add_mul]
          have := Nat.mul_le_mul_right sz hroom; omega
        rw [k1, run_append_in w (elemT_eq h1) (info_of hti) (A := ⟨b', of, none⟩) rfl q3 (by rw [hul, hsz, hse]) hnews (crel_one hcu) hroom (by simp only; rw [← hse, ← hsz]; exact hfit)] at hrun0
        simp only at hrun0
        rw [← hse, ← hsz] at hrun0
        have hall : ∀ x, x ∈ xs ++ ys → x.cells.length = sz ∧ ∀ y, y ∈ x.cells → y.one = true := fun x hx => by
          rcases List.mem_append.1 hx with hx | hx
          · exact r1' x hx
          · refine ⟨hys x hx, fun y hy => ?_⟩
            obtain ⟨i, hi, rfl⟩ := List.mem_iff_getElem.1 hx
            obtain ⟨k, hk, rfl⟩ := List.mem_iff_getElem.1 hy
            have hfg := flat_get hys (List.getElem?_eq_getElem hi) (List.getElem?_eq_getElem hk)
            have hlt := (List.getElem?_eq_some_iff.1 hfg).1
            exact (hcu.2 _ _ _ hfg (List.getElem?_eq_getElem (by rw [hcu.1]; exact hlt))).2
        obtain ⟨G', m1, m2, m3⟩ := hS.reVec hat (o' := of) (cap' := (G.ν j).cap) (vs' := splice vs (of + xs.length * sz) us) q2 q3 r0' (by rw [size_splice hfit]; exact q4) (by simpa using hroom) hall (fun j' x k y e1 e2 => by
          have hk : k < sz := by rw [← (hall x (List.mem_of_getElem? e1)).1]; exact (List.getElem?_eq_some_iff.1 e2).1
          by_cases hj' : j' < xs.length
          · rw [List.getElem?_append_left hj'] at e1
            obtain ⟨v, e3, e4⟩ := q6 j' x k y e1 e2
            refine ⟨v, ?_, e4⟩
            rw [splice_old hfit (.inl ?_)]
            · exact e3
            · have : (j' + 1) * sz ≤ xs.length * sz := Nat.mul_le_mul_right _ hj'
              rw [Nat.add_mul] at this
              omega
          · rw [List.getElem?_append_right (by omega)] at e1
            have hfg := flat_get hys e1 e2
            have hlt := (List.getElem?_eq_some_iff.1 hfg).1
            have hul' : (j' - xs.length) * sz + k < us.length := by rw [hcu.1]; exact hlt
            refine ⟨us[(j' - xs.length) * sz + k], ?_, (hcu.2 _ _ _ hfg (List.getElem?_eq_getElem hul')).1⟩
            have : of + (j' * sz + k) = of + xs.length * sz + ((j' - xs.length) * sz + k) := by
              have : j' * sz = xs.length * sz + (j' - xs.length) * sz := by rw [← Nat.add_mul]; congr 1; omega
              omega
            rw [this, splice_new hfit hul']
            exact List.getElem?_eq_getElem hul')
        rw [List.length_append] at m3
        exact OpTo.value hrun0 ⟨G', m1, m2, m3⟩
      · have ho := vec_cells r1' hxfit q6
        have := run_append_grow (P := P) w t ty e ti zv (elemT_eq h1) (info_of hti) hz ⟨b', of, none⟩ xs.length (G.ν j).cap ((vs.toList.drop of).take (xs.length * sz)) (by simp; rw [← hse, ← hsz]; omega) (fun i u hi => by
          have hil : i < xs.length * sz := by
            have := (List.getElem?_eq_some_iff.1 hi).1
            simp at this; omega
          rw [List.getElem?_take_of_lt hil, List.getElem?_drop] at hi
          have hi' : vs[of + i]? = some u := by simpa using hi
          rw [Addr.add_lit]
          simp [World.cell?, q3, hi']) ad' ys.length c' us (by rw [hul, hsz, hse]) hnews (by omega) (by omega) (growslice_fits_wide (by omega) hwide)
        rw [← k1] at this
        exact fin _ _ ho (grownCap_ge w _ _ e) this
end
end Go.AL

/- Structs whose cells hold what goes on being written: built, and loaded. -/
set_option linter.unusedVariables false
set_option linter.unusedSimpArgs false
namespace Go.AL
open Go.RowKit

/-- Cells of what an abstract state holds, one by one. -/
def CAR (G : Gh) (s : St) (cs : List AV) (us : List Value) : Prop := us.length = cs.length ∧ ∀ (k : Nat) c u, cs[k]? = some c → us[k]? = some u → ARel1 G s c u ∧ u.oneCell' = true

theorem CAR.set {G : Gh} {s : St} {cs : List AV} {us : List Value} (h : CAR G s cs us) (k : Nat) {c : AV} {u : Value} (hc : ARel1 G s c u ∧ u.oneCell' = true) : CAR G s (cs.set k c) (us.set k u) := by
  refine ⟨by simpa using h.1, fun i q v h1 h2 => ?_⟩
  by_cases hk : k = i
  · subst hk
    by_cases hl : k < cs.length
    · rw [List.getElem?_set_self hl] at h1
      rw [List.getElem?_set_self (by rw [h.1]; exact hl)] at h2
      obtain rfl := Option.some.inj h1
      obtain rfl := Option.some.inj h2
      exact hc
    · rw [List.getElem?_eq_none (by simpa using hl)] at h1
      cases h1
  · rw [List.getElem?_set_ne hk] at h1 h2
    exact h.2 i q v h1 h2

theorem CAR.setAt {G : Gh} {s : St} : ∀ {qs : List AV} {vs : List Value} {cs : List AV} {us : List Value} (off : Nat), CAR G s cs us → CAR G s qs vs → CAR G s (setAt cs off qs) (setAt us off vs)
  | [], vs, cs, us, off, h, k => by
    have : vs = [] := List.eq_nil_of_length_eq_zero k.1
    subst this; exact h
  | q :: qs, vs, cs, us, off, h, k => by
    cases vs with
    | nil => have := k.1; simp at this
    | cons v vs => exact CAR.setAt (off + 1) (h.set off (k.2 0 q v rfl rfl)) ⟨by have := k.1; simpa using this, fun i p v h1 h2 => k.2 (i + 1) p v (by simpa using h1) (by simpa using h2)⟩

def PtA (G : Gh) (s : St) : List (Nat × List AV) → List (Nat × Value) → Prop
  | [], [] => True
  | (i, cs) :: l, (j, v) :: k => i = j ∧ CAR G s cs v.cells.toList ∧ PtA G s l k
  | _, _ => False

theorem fillA_rel {G : Gh} {s : St} {place place' : Nat → Option (Nat × Nat)} (hp : ∀ i, place i = place' i) : ∀ {pts : List (Nat × List AV)} {vts : List (Nat × Value)} {cs : List AV} {cells : Array Value} {out : List AV},
    PtA G s pts vts → CAR G s cs cells.toList → fillA place cs pts = some out → ∃ res, Instr.fill place' cells vts = some res ∧ CAR G s out res.toList
  | [], vts, cs, cells, out, hr, hc, h => by
    cases vts with
    | nil => obtain rfl := Option.some.inj h; exact ⟨cells, rfl, hc⟩
    | cons v l => exact hr.elim
  | (i, p) :: pts, vts, cs, cells, out, hr, hc, h => by
    cases vts with
    | nil => exact hr.elim
    | cons jv vts =>
      obtain ⟨j, v⟩ := jv
      obtain ⟨rfl, h1, h3⟩ := hr
      simp only [fillA] at h
      simp only [Instr.fill, ← hp]
      cases hpl : place i with
      | none => rw [hpl] at h; cases h
      | some os =>
        obtain ⟨off, size⟩ := os
        rw [hpl] at h
        simp only at h
        have hl : v.cells.size = p.length := by have := h1.1; simpa using this
        have hl2 : cells.size = cs.length := by have := hc.1; simpa using this
        replace h := bif_some h
        obtain ⟨hb, h⟩ := h
        simp only [Bool.and_eq_true] at hb
        have e1 := beq_eq hb.1
        have e2 := Nat.le_of_ble_eq_true hb.2
        have hif : (decide (v.cells.size ≠ size) || decide (off + v.cells.size > cells.size)) = false := by
          rw [hl, hl2]; simp; omega
        simp only [hif, Bool.false_eq_true, if_false]
        refine fillA_rel hp h3 ?_ h
        have e : (Array.foldl (fun (cs : Array Value) (x : Value × Nat) => match x with | (c, j) => cs.setIfInBounds (off + j) c) cells v.cells.zipIdx).toList = setAt cells.toList off v.cells.toList := by
          rw [← Array.foldl_toList, Array.toList_zipIdx]
          exact foldl_setAt v.cells.toList 0 off cells
        rw [e]
        exact CAR.setAt off hc h1

section
variable {P : Program} {av : Av} {ty : TypeId} {s : St}

theorem car_of {G : Gh} {b : AV} {u : Value} {cs : List AV} (h : ARel G s b u) (hc : b.cellsAV = some cs) (ha : cs.all AV.cell = true) : CAR G s cs u.cells.toList := by
  obtain ⟨g1, g2⟩ := cellsAV_rel h hc
  have g3 := cellsAV_one h hc ha
  exact ⟨g1, fun k c x h1 h2 => ⟨(g2 k c x h1 h2).to1 (List.all_eq_true.1 ha c (List.mem_of_getElem? h1)), g3 x (List.mem_of_getElem? h2)⟩⟩

theorem ptA_rel {G : Gh} {a : Act} (hA : Avs av G s a) : ∀ {l : List (Nat × Operand)} {ps : List (Nat × List AV)}, partsAV av l = some ps → PtA G s ps (l.map fun x => (x.1, a.eval x.2))
  | [], ps, h => by obtain rfl := Option.some.inj h; trivial
  | (i, y) :: l, ps, h => by
    simp only [partsAV] at h
    split at h
    · rename_i b ps' hb hps
      split at h
      · rename_i cs hcs
        replace h := bif_some h
        obtain ⟨h1, h⟩ := h
        obtain rfl := Option.some.inj h
        exact ⟨rfl, car_of (hA y b hb) hcs h1, ptA_rel hA hps⟩
      · cases h
    · cases h

theorem s_buildAV (hT : TOk P) {ρ : Type} {t : TypeId} {parts : Array (Nat × Operand)} {K : AV → Option ρ} {r : ρ} (h : buildAV P av t parts.toList K = some r) : ∃ v, K v = some r ∧ ∀ s, Sound2 P (.build t parts) ty av s v s := by
  unfold buildAV at h
  split at h
  · rename_i pl z ps h1 h2 h3
    split at h
    · rename_i cs h4
      refine ⟨_, h, fun s F w0 M0 G a w o hS hA ho _ => ?_⟩
      obtain ⟨i, zv, hi, hz, hrun, hof, hsz⟩ := run_zero hT h2 w
      have h1' := h1
      unfold fieldPlaces at h1
      split at h1
      · rename_i fs hfs
        have hpr := ptA_rel hA h3
        have hm : (parts.map fun x => (x.1, a.eval x.2)).toList = parts.toList.map fun x => (x.1, a.eval x.2) := by simp
        have hcr : CRel G.M z zv.cells.toList := CRel.of_cells hof
        have hca : CAR G s (z.map .pv) zv.cells.toList := ⟨by simpa using hcr.1, fun k c u e1 e2 => by
          rw [List.getElem?_map] at e1
          cases hk : z[k]? with
          | none => rw [hk] at e1; cases e1
          | some q =>
            rw [hk] at e1
            obtain rfl := Option.some.inj e1
            exact ⟨(hcr.2 k q u hk e2).1, PRep.one (hcr.2 k q u hk e2).1 (hcr.2 k q u hk e2).2⟩⟩
        obtain ⟨res, g1, g2⟩ := fillA_rel (place' := (pl.toArray[·]?)) (fun i => by simp) hpr hca h4
        refine OpTo.value (u := .agg res) ?_ ⟨G, hS, Ext.refl _ _, ⟨res.toList, by simp, g2.1, g2.2⟩⟩
        simp only [execOp, ho, Instr.build]
        simp [hrun, run_underlying hfs, run_places w h1, hm]
        simp at g1
        simp [g1]
      · cases h1
    · cases h
  · cases h

theorem loadAgg_sound (hT : TOk P) {ρ : Type} {t : TypeId} {y : Operand} {b : AV} (hy : av y = some b) {K : AV → Option ρ} {r : ρ} (h : loadAgg P t b s K = some r) : ∃ v, K v = some r ∧ Sound0 P (.load t y) ty av s v := by
  unfold loadAgg at h
  split at h
  · rename_i i off z n hz hn
    split at h
    · rename_i zf cs hi
      replace h := bif_some h
      obtain ⟨h1, h⟩ := h
      simp only [Bool.and_eq_true] at h1
      have hle := Nat.le_of_ble_eq_true h1.1.1
      refine ⟨_, h, fun F w0 M0 G a w o hS hA ho _ => ?_⟩
      obtain ⟨_, b, hb, e⟩ := hA y _ hy
      obtain ⟨p1, p2, p3, ob, p4, p0⟩ := hS.bx i zf cs b hi hb
      obtain ⟨vs, T, rfl, p5, p6⟩ := p0.cells h1.2
      have hcell : ∀ j v, ((vs.toList.drop off).take n)[j]? = some v → w.cell? ((⟨b, off, none⟩ : Addr).add j) = some v ∧ j < n ∧ vs[off + j]? = some v := by
        intro j v hj
        have hjn : j < n := by have := (List.getElem?_eq_some_iff.1 hj).1; simp at this; omega
        rw [List.getElem?_take_of_lt hjn, List.getElem?_drop] at hj
        refine ⟨?_, hjn, by simpa using hj⟩
        rw [Addr.add_lit]
        simp only [World.cell?, p4]
        simpa using hj
      refine ⟨_, run_load_agg hT hz hn ho e (by simp; omega) fun j v hj => (hcell j v hj).1, ⟨_, rfl, by simp; omega, fun k c u e1 e2 => ?_⟩⟩
      obtain ⟨g1, g2, g3⟩ := hcell k u e2
      rw [List.getElem?_take_of_lt g2, List.getElem?_drop] at e1
      have := p6 (off + k) c u e1 g3
      have hcc : c.cell = true := List.all_eq_true.1 h1.1.2 c (by
        have : ((cs.drop off).take n)[k]? = some c := by rw [List.getElem?_take_of_lt g2, List.getElem?_drop]; exact e1
        exact List.mem_of_getElem? this)
      exact ⟨this.1.to1 hcc, this.2⟩
    · cases h
  · cases h

theorem appendVec_sound (hT : TOk P) {c : Call} {t t' : TypeId} {y z : Operand} {b : AV} {j ver : Nat} (hc : c.callee = .builtin .append) (ha : c.args.toList = [y, z]) (hty : c.argTypes.toList = [t, t']) (htt : Nat.beq t t' = true) (hy : av y = some (.vec j ver)) (hz : av z = some b)
    {ρ : Type} {K : AV → St → Option ρ} {r : ρ} (h : appendVec P t j ver b s K = some r) : ∃ v s', K v s' = some r ∧ Sound2 P (.call c) ty av s v s' := by
  have hab := list2 ha
  have htb := list2 hty
  obtain rfl := beq_eq htt
  unfold appendVec at h
  split at h
  · cases h
  rename_i e he
  split at h
  · rename_i ys cur sz xs z0 hl hi hz0
    replace h := bif_some h; obtain ⟨h1, h⟩ := h
    replace h := bif_some h; obtain ⟨h2, h⟩ := h
    replace h := bif_some h; obtain ⟨h3, h⟩ := h
    simp only [Bool.and_eq_true] at h1
    have e1 := beq_eq h1.1.1.1
    have e2 := beq_eq h1.1.1.2
    subst e1
    exact ⟨_, _, h, s_append_vec (ty := ty) (s := s) hT hc hab htb he hz0 hy hz hl hi e2 (Nat.le_of_ble_eq_true h1.1.2) (blt_lt h1.2) h2 (by simpa [small] using h3)⟩
  · cases h
end
end Go.AL

/- Calls that are handed boxes, maps and vectors by reference. -/
set_option linter.unusedVariables false
set_option linter.unusedSimpArgs false
namespace Go.AL
open Go.RowKit

inductive RefRel (G : Gh) (s : St) : List Arg → List Value → List Nat → List Nat → Prop where
  | nil : RefRel G s [] [] [] []
  | pv {p : PV} {v : Value} {l vs bs js} : PRep G.M p v → RefRel G s l vs bs js → RefRel G s (.pv p :: l) (v :: vs) bs js
  | box {i : Nat} {cs : List AV} {ps : List PV} {v : Value} {l vs bs js} : s.bx[i]? = some (false, cs) → toPVs cs = some ps → ARel G s (.box i 0) v → RefRel G s l vs bs js → RefRel G s (.box ps :: l) (v :: vs) (i :: bs) js
  | map {i : Nat} {es : List (PV × PV)} {v : Value} {l vs bs js} : s.bx[i]? = some (false, [.ment es]) → ARel G s (.mp i) v → RefRel G s l vs bs js → RefRel G s (.map es :: l) (v :: vs) (i :: bs) js
  | vec {j cur sz : Nat} {xs : List PV} {v : Value} {l vs bs js} : s.vc[j]? = some (some (cur, sz, xs)) → ARel G s (.vec j cur) v → RefRel G s l vs bs js → RefRel G s (.vec sz xs :: l) (v :: vs) bs (j :: js)

def bxR : List Arg → List (Bool × List AV)
  | [] => []
  | .box ps :: l => (false, ps.map .pv) :: bxR l
  | .map es :: l => (false, [.ment es]) :: bxR l
  | _ :: l => bxR l
def vcR : List Arg → List (Option (Nat × Nat × List PV))
  | [] => []
  | .vec sz xs :: l => some (0, sz, xs) :: vcR l
  | _ :: l => vcR l
theorem bxR_len (l : List Arg) : (bxR l).length = nBox l := by
  induction l with
  | nil => rfl
  | cons a l ih => cases a <;> simp [bxR, nBox, ih]
theorem vcR_len (l : List Arg) : (vcR l).length = nVec l := by
  induction l with
  | nil => rfl
  | cons a l ih => cases a <;> simp [vcR, nVec, ih]

def GR (G : Gh) (bs js : List Nat) : Gh :=
  ⟨G.M, fun b => match G.own b with
    | .box i => (match pos bs i with | some k => if G.μ i = some b then .box k else .free | none => .free)
    | .vec j => (match pos js j with | some k => if (G.ν j).A.map (·.block) = some b then .vec k else .free | none => .free)
    | _ => .free,
   fun k => (bs[k]?).bind G.μ, fun k => match js[k]? with | some j => G.ν j | none => ⟨none, 0, 1⟩, fun _ => ⟨none, 0, 1⟩⟩
def lenV (s : St) (j : Nat) : Nat := match s.vc[j]? with | some (some (_, _, xs)) => xs.length | _ => 0
def FR (G : Gh) (s : St) (bs js : List Nat) : Fr :=
  ⟨fun b => (∃ i, i ∈ bs ∧ G.μ i = some b) ∨ ∃ j, j ∈ js ∧ (G.ν j).A.map (·.block) = some b, fun k => (bs[k]?).bind G.μ, fun k => match js[k]? with | some j => G.ν j | none => ⟨none, 0, 1⟩,
   fun k => match js[k]? with | some j => lenV s j | none => 0, (bs.length, js.length)⟩

section
variable {F : Fr} {w0 : World} {M0 : Mem} {G : Gh} {s : St} {w : World} {args : List Arg} {vals : List Value} {bs js : List Nat}

theorem RefRel.box_at (h : RefRel G s args vals bs js) : ∀ (k i : Nat), bs[k]? = some i → ∃ cs, s.bx[i]? = some (false, cs) ∧ (∃ b, G.μ i = some b) ∧ ((∃ ps, toPVs cs = some ps ∧ (bxR args)[k]? = some (false, ps.map .pv)) ∨ ∃ es, cs = [.ment es] ∧ (bxR args)[k]? = some (false, [.ment es])) := by
  induction h with
  | nil => intro k i h; simp at h
  | pv _ _ ih => exact ih
  | box h1 h2 h3 _ ih =>
    intro k i hk
    cases k with
    | zero =>
      simp at hk; subst hk
      obtain ⟨_, b, hb, _⟩ := h3
      exact ⟨_, h1, ⟨b, hb⟩, .inl ⟨_, h2, rfl⟩⟩
    | succ k =>
      obtain ⟨cs, q1, q2, q3⟩ := ih k i (by simpa using hk)
      exact ⟨cs, q1, q2, q3⟩
  | map h1 h3 _ ih =>
    intro k i hk
    cases k with
    | zero =>
      simp at hk; subst hk
      obtain ⟨_, b, hb, _⟩ := h3
      exact ⟨_, h1, ⟨b, hb⟩, .inr ⟨_, rfl, rfl⟩⟩
    | succ k =>
      obtain ⟨cs, q1, q2, q3⟩ := ih k i (by simpa using hk)
      exact ⟨cs, q1, q2, q3⟩
  | vec _ _ _ ih => exact ih

theorem RefRel.vec_at (h : RefRel G s args vals bs js) : ∀ (k j : Nat), js[k]? = some j → ∃ cur sz xs, s.vc[j]? = some (some (cur, sz, xs)) ∧ (vcR args)[k]? = some (some (0, sz, xs)) := by
  induction h with
  | nil => intro k i h; simp at h
  | pv _ _ ih => exact ih
  | box _ _ _ _ ih => exact ih
  | map _ _ _ ih => exact ih
  | vec h1 h2 _ ih =>
    intro k j hk
    cases k with
    | zero => simp at hk; subst hk; exact ⟨_, _, _, h1, rfl⟩
    | succ k => obtain ⟨c, z, xs, q1, q2⟩ := ih k j (by simpa using hk); exact ⟨c, z, xs, q1, q2⟩

theorem RefRel.lens (h : RefRel G s args vals bs js) : bs.length = nBox args ∧ js.length = nVec args := by
  induction h with
  | nil => exact ⟨rfl, rfl⟩
  | pv _ _ ih => simpa [nBox, nVec] using ih
  | box _ _ _ _ ih => simpa [nBox, nVec] using ih
  | map _ _ _ ih => simpa [nBox, nVec] using ih
  | vec _ _ _ ih => simpa [nBox, nVec] using ih

theorem RefRel.plain (hS : SRel F w0 M0 G s w) (h : RefRel G s args vals bs js) : args.all plainArg = true := by
  induction h with
  | nil => rfl
  | pv _ _ ih => simpa [plainArg] using ih
  | box _ _ _ _ ih => simpa [plainArg] using ih
  | map _ _ _ ih => simpa [plainArg] using ih
  | vec h1 _ _ ih =>
    obtain ⟨⟨q0, q1⟩, q2, _⟩ := hS.vc _ _ _ _ h1
    simp only [List.all_cons, Bool.and_eq_true, plainArg]
    refine ⟨⟨Nat.ble_eq_true_of_le (by rw [← q0]; exact q1), List.all_eq_true.2 fun x hx => ?_⟩, ih⟩
    rw [(q2 x hx).1, q0]
    exact Nat.beq_refl _

def SRf (args : List Arg) : St := ⟨bxR args, vcR args, [], nBox args, nVec args⟩

/-- What the caller's blocks are. -/
theorem RefRel.blk (hS : SRel F w0 M0 G s w) (h : RefRel G s args vals bs js) {b : Nat} (hb : FR G s bs js b) : (∃ (k i : Nat), bs[k]? = some i ∧ G.μ i = some b ∧ G.own b = .box i) ∨ ∃ (k j : Nat), js[k]? = some j ∧ (G.ν j).A.map (·.block) = some b ∧ G.own b = .vec j := by
  rcases hb with ⟨i, h1, h2⟩ | ⟨j, h1, h2⟩
  · obtain ⟨k, hk, rfl⟩ := List.mem_iff_getElem.1 h1
    have hk' := List.getElem?_eq_getElem hk
    obtain ⟨cs, q1, _, _⟩ := h.box_at k _ hk'
    have := (hS.bx _ _ _ _ q1 h2).1
    exact .inl ⟨k, _, hk', h2, this⟩
  · obtain ⟨k, hk, rfl⟩ := List.mem_iff_getElem.1 h1
    have hk' := List.getElem?_eq_getElem hk
    obtain ⟨cur, sz, xs, q1, _⟩ := h.vec_at k _ hk'
    obtain ⟨_, _, q2⟩ := hS.vc _ _ _ _ q1
    rcases q2 with ⟨e, _⟩ | ⟨b', o, vs, T, g1, g2, _⟩
    · rw [e] at h2; cases h2
    · rw [g1] at h2
      simp only [Option.map_some, Option.some.injEq] at h2
      subst h2
      exact .inr ⟨k, _, hk', by rw [g1]; rfl, g2⟩

theorem SRel.start3 (h : SRel F w0 M0 G s w) (hr : RefRel G s args vals bs js) (hnb : nodup bs = true) (hnj : nodup js = true) : SRel (FR G s bs js) w G.M (GR G bs js) (SRf args) w := by
  obtain ⟨ln1, ln2⟩ := hr.lens
  refine ⟨rfl, rfl, rfl, Nat.le_refl _, fun _ _ _ => rfl, h.agree, Mem.le_refl _, h.layW (fun b hb => by rcases hr.blk h hb with ⟨_, i, _, _, e⟩ | ⟨_, j, _, _, e⟩ <;> rw [e] <;> simp), fun _ _ e => .inl e, fun b hb => ?_, fun a v e => ?_, fun k z cs b h1 h2 => ?_, fun k ver sz xs h1 => ?_, fun i e h1 => by simp [SRf] at h1, ⟨?_, fun k hk => ?_⟩, fun k hk => ?_⟩
  · simp only [GR] at hb
    split at hb
    · rename_i i hi
      split at hb
      · rename_i k hk
        split at hb
        · rename_i hm
          exact ⟨(h.own b (by rw [hi]; simp)).1, .inl (.inl ⟨i, List.mem_of_getElem? (pos_get hk), hm⟩)⟩
        · exact absurd rfl hb
      · exact absurd rfl hb
    · rename_i j hj
      split at hb
      · rename_i k hk
        split at hb
        · rename_i hm
          exact ⟨(h.own b (by rw [hj]; simp)).1, .inl (.inr ⟨j, List.mem_of_getElem? (pos_get hk), hm⟩)⟩
        · exact absurd rfl hb
      · exact absurd rfl hb
    · exact absurd rfl hb
  · left
    rcases h.ownM a v e with e1 | ⟨i, ad, hi, e1, _⟩ <;> simp only [GR, e1]
  · -- boxes
    have hkl : k < (bxR args).length := (List.getElem?_eq_some_iff.1 h1).1
    have hkb : k < bs.length := by rw [ln1, ← bxR_len]; exact hkl
    have hi := List.getElem?_eq_getElem hkb
    obtain ⟨cs0, q1, _, q3⟩ := hr.box_at k _ hi
    have h2' : G.μ bs[k] = some b := by simpa [GR, hi] using h2
    obtain ⟨p1, p2, p3, ob, p4, p5⟩ := h.bx _ _ _ _ q1 h2'
    have hown : (GR G bs js).own b = .box k := by
      simp only [cond_false] at p1
      simp only [GR, p1, nodup_pos hnb hi, h2', if_true]
    have h1' : (bxR args)[k]? = some (z, cs) := h1
    rcases q3 with ⟨ps, g1, g2⟩ | ⟨es, rfl, g2⟩
    · rw [h1'] at g2
      simp only [Option.some.injEq, Prod.mk.injEq] at g2
      obtain ⟨rfl, rfl⟩ := g2
      refine ⟨hown, p2, .inl (.inl ⟨_, List.mem_of_getElem? hi, h2'⟩), ob, p4, ?_⟩
      obtain ⟨vs, T, rfl, p6, p7⟩ := p5.cells (toPVs_cells g1)
      obtain ⟨l1, l2⟩ := toPVs_get g1
      refine .inl ⟨vs, T, rfl, by simp [l1, p6], fun m c v e1 e2 => ?_⟩
      rw [List.getElem?_map] at e1
      cases hp : ps[m]? with
      | none => rw [hp] at e1; cases e1
      | some p =>
        rw [hp] at e1
        obtain rfl := Option.some.inj e1
        have hml : m < cs0.length := by rw [← l1]; exact (List.getElem?_eq_some_iff.1 hp).1
        obtain ⟨p', r1, r2⟩ := l2 m _ (List.getElem?_eq_getElem hml)
        rw [hp] at r1
        obtain rfl := Option.some.inj r1
        obtain ⟨r3, r4⟩ := p7 m _ v (List.getElem?_eq_getElem hml) e2
        exact ⟨show PRep G.M p v from toPV_rel r3 r2, r4⟩
    · rw [h1'] at g2
      simp only [Option.some.injEq, Prod.mk.injEq] at g2
      obtain ⟨rfl, rfl⟩ := g2
      obtain ⟨en, ck, rfl, r1⟩ := p5.map
      exact ⟨hown, p2, .inl (.inl ⟨_, List.mem_of_getElem? hi, h2'⟩), _, p4, .inr ⟨es, en, ck, rfl, rfl, r1⟩⟩
  · -- vectors
    have hkl : k < (vcR args).length := (List.getElem?_eq_some_iff.1 h1).1
    have hkb : k < js.length := by rw [ln2, ← vcR_len]; exact hkl
    have hj := List.getElem?_eq_getElem hkb
    obtain ⟨cur, sz0, xs0, q1, q2⟩ := hr.vec_at k _ hj
    have h1' : (vcR args)[k]? = some (some (ver, sz, xs)) := h1
    rw [h1'] at q2
    simp only [Option.some.injEq, Prod.mk.injEq] at q2
    obtain ⟨rfl, rfl, rfl⟩ := q2
    obtain ⟨g0, g1, g2⟩ := h.vc _ _ _ _ q1
    have hν : (GR G bs js).ν k = G.ν js[k] := by simp [GR, hj]
    rw [hν]
    refine ⟨g0, g1, ?_⟩
    rcases g2 with g2 | ⟨b, o, vs, T, k1, k2, k3⟩
    · exact .inl g2
    · refine .inr ⟨b, o, vs, T, k1, ?_, k3⟩
      simp only [GR, k2, nodup_pos hnj hj, k1, Option.map_some, if_true]
  · simp only [SRf, St.nn, FR, ln1, ln2]
  · have hk' : k < nBox args := hk
    have hkb : k < bs.length := by rw [ln1]; exact hk'
    have hi := List.getElem?_eq_getElem hkb
    obtain ⟨cs0, q1, ⟨b, q2⟩, _⟩ := hr.box_at k _ hi
    exact ⟨by rw [show (SRf args).bx = bxR args from rfl, bxR_len]; exact hk', b, by simp [GR, hi, q2], by simp [FR, hi, q2]⟩
  · have hk' : k < nVec args := hk
    have hkb : k < js.length := by rw [ln2]; exact hk'
    have hj := List.getElem?_eq_getElem hkb
    obtain ⟨cur, sz0, xs0, q1, q2⟩ := hr.vec_at k _ hj
    refine ⟨by rw [show (SRf args).vc = vcR args from rfl, vcR_len]; exact hk', fun xs e => ?_⟩
    have e' : (vcR args)[k]? = some (some (0, xs)) := e
    rw [q2] at e'
    simp only [Option.some.injEq, Prod.mk.injEq, true_and] at e'
    subst e'
    exact ⟨rfl, by simp [FR, hj, lenV, q1]⟩

theorem RefRel.enter (h : RefRel G s args vals bs js) : ∀ (bx0 : List (Bool × List AV)) (vc0 : List (Option (Nat × Nat × List PV))) (bs0 js0 : List Nat) (S : St), bx0.length = bs0.length → vc0.length = js0.length → S.bx = bx0 ++ bxR args → S.vc = vc0 ++ vcR args →
    (enterT args ⟨bx0, vc0, [], 0, 0⟩).2 = ⟨bx0 ++ bxR args, vc0 ++ vcR args, [], 0, 0⟩ ∧ LRel (GR G (bs0 ++ bs) (js0 ++ js)) S (enterT args ⟨bx0, vc0, [], 0, 0⟩).1 vals := by
  induction h with
  | nil => intro bx0 vc0 bs0 js0 S h1 h2 h3 h4; exact ⟨by simp [enterT, bxR, vcR], rfl, by simp [enterT]⟩
  | pv hp _ ih =>
    intro bx0 vc0 bs0 js0 S h1 h2 h3 h4
    obtain ⟨k1, k2⟩ := ih bx0 vc0 bs0 js0 S h1 h2 h3 h4
    exact ⟨k1, LRel.cons hp k2⟩
  | box q1 q2 q3 _ ih =>
    rename_i i cs ps v l vs bs js hq
    intro bx0 vc0 bs0 js0 S h1 h2 h3 h4
    obtain ⟨k1, k2⟩ := ih (bx0 ++ [(false, ps.map .pv)]) vc0 (bs0 ++ [i]) js0 S (by simp [h1]) h2 (by simp [h3, bxR]) h4
    rw [List.append_assoc] at k2
    simp only [List.singleton_append] at k2
    refine ⟨by simp only [enterT]; rw [k1]; simp [bxR, vcR], LRel.cons ?_ k2⟩
    obtain ⟨_, b, hb, e⟩ := q3
    refine ⟨by rw [h3]; simp [bxR], b, ?_, e⟩
    simp [GR, h1, hb]
  | map q1 q3 _ ih =>
    rename_i i es v l vs bs js hq
    intro bx0 vc0 bs0 js0 S h1 h2 h3 h4
    obtain ⟨k1, k2⟩ := ih (bx0 ++ [(false, [.ment es])]) vc0 (bs0 ++ [i]) js0 S (by simp [h1]) h2 (by simp [h3, bxR]) h4
    rw [List.append_assoc] at k2
    simp only [List.singleton_append] at k2
    refine ⟨by simp only [enterT]; rw [k1]; simp [bxR, vcR], LRel.cons ?_ k2⟩
    obtain ⟨_, b, hb, e⟩ := q3
    refine ⟨by rw [h3]; simp [bxR], b, ?_, e⟩
    simp [GR, h1, hb]
  | vec q1 q2 _ ih =>
    rename_i j cur sz xs v l vs bs js hq
    intro bx0 vc0 bs0 js0 S h1 h2 h3 h4
    obtain ⟨k1, k2⟩ := ih bx0 (vc0 ++ [some (0, sz, xs)]) bs0 (js0 ++ [j]) S h1 (by simp [h2]) h3 (by simp [h4, vcR])
    rw [List.append_assoc js0 [j] js] at k2
    simp only [List.singleton_append] at k2
    refine ⟨by simp only [enterT]; rw [k1]; simp [bxR, vcR], LRel.cons ?_ k2⟩
    obtain ⟨_, g2, g3⟩ := q2
    have hat : S.vc[vc0.length]? = some (some (0, sz, xs)) := by rw [h4]; simp [vcR]
    refine ⟨(List.getElem?_eq_some_iff.1 hat).1, g2, fun c ys e => ?_⟩
    rw [hat] at e
    simp only [Option.some.injEq, Prod.mk.injEq] at e
    obtain ⟨rfl, rfl⟩ := e
    refine ⟨Nat.le_refl _, fun _ => ?_⟩
    have hν : (GR G (bs0 ++ bs) (js0 ++ j :: js)).ν vc0.length = G.ν j := by simp [GR, h2]
    rw [hν]
    exact (g3 _ _ q1).2 rfl

theorem RefRel.enterA (h : RefRel G s args vals bs js) : (Go.AL.enter args).2 = SRf args ∧ LRel (GR G bs js) (SRf args) (Go.AL.enter args).1 vals := by
  obtain ⟨e1, e2⟩ := h.enter [] [] [] [] (SRf args) rfl rfl rfl rfl
  simp only [List.nil_append] at e1 e2
  refine ⟨?_, e2⟩
  simp only [Go.AL.enter, e1]
  rfl

theorem backR_spec : ∀ {bs js : List Nat} {rs : List Ref} {s s1 : St}, backR bs js rs s = some s1 → nodup bs = true → nodup js = true → (∀ i, i ∈ bs → i < s.bx.length) →
    (s1.bx.length = s.bx.length ∧ s1.vc.length = s.vc.length ∧ s1.tp = s.tp ∧ s1.nn = s.nn) ∧ (∀ i, i ∉ bs → s1.bx[i]? = s.bx[i]?) ∧ (∀ j, j ∉ js → s1.vc[j]? = s.vc[j]?) ∧
    (∀ (k i : Nat), bs[k]? = some i → (∃ ps, rs[k]? = some (.box ps) ∧ s1.bx[i]? = some (false, ps.map .pv)) ∨ ∃ es, rs[k]? = some (.map es) ∧ s1.bx[i]? = some (false, [.ment es])) ∧
    (∀ (k j : Nat), js[k]? = some j → ∃ xs cur sz ys, rs[bs.length + k]? = some (.vec xs) ∧ s.vc[j]? = some (some (cur, sz, ys)) ∧ s1.vc[j]? = some (some (cur, sz, xs)))
  | [], [], [], s, s1, h, _, _, _ => by
    obtain rfl := Option.some.inj h
    exact ⟨⟨rfl, rfl, rfl, rfl⟩, fun _ _ => rfl, fun _ _ => rfl, fun k i h => by simp at h, fun k j h => by simp at h⟩
  | b :: bs, js, .box cs :: rs, s, s1, h, hb, hj, hl => by
    simp only [backR] at h
    obtain ⟨n1, n2⟩ := nodup_cons hb
    obtain ⟨⟨g1, g2, g3, g4⟩, g5, g6, g7, g8⟩ := backR_spec h n2 hj (fun i hi => by simpa using hl i (by simp [hi]))
    refine ⟨⟨by simpa using g1, g2, g3, g4⟩, fun i hi => ?_, g6, fun k i hk => ?_, fun k j hk => ?_⟩
    · have h1 : i ≠ b := fun e => hi (by simp [e])
      have h2 : i ∉ bs := fun e => hi (by simp [e])
      rw [g5 i h2]
      exact List.getElem?_set_ne (Ne.symm h1)
    · cases k with
      | zero =>
        simp at hk; subst hk
        exact .inl ⟨cs, rfl, by rw [g5 b n1]; exact List.getElem?_set_self (hl b (by simp))⟩
      | succ k => exact g7 k i (by simpa using hk)
    · obtain ⟨xs, cur, sz, ys, e1, e2, e3⟩ := g8 k j hk
      exact ⟨xs, cur, sz, ys, by rw [List.length_cons, show bs.length + 1 + k = bs.length + k + 1 by omega]; exact e1, e2, e3⟩
  | b :: bs, js, .map es :: rs, s, s1, h, hb, hj, hl => by
    simp only [backR] at h
    obtain ⟨n1, n2⟩ := nodup_cons hb
    obtain ⟨⟨g1, g2, g3, g4⟩, g5, g6, g7, g8⟩ := backR_spec h n2 hj (fun i hi => by simpa using hl i (by simp [hi]))
    refine ⟨⟨by simpa using g1, g2, g3, g4⟩, fun i hi => ?_, g6, fun k i hk => ?_, fun k j hk => ?_⟩
    · have h1 : i ≠ b := fun e => hi (by simp [e])
      have h2 : i ∉ bs := fun e => hi (by simp [e])
      rw [g5 i h2]
      exact List.getElem?_set_ne (Ne.symm h1)
    · cases k with
      | zero =>
        simp at hk; subst hk
        exact .inr ⟨es, rfl, by rw [g5 b n1]; exact List.getElem?_set_self (hl b (by simp))⟩
      | succ k => exact g7 k i (by simpa using hk)
    · obtain ⟨xs, cur, sz, ys, e1, e2, e3⟩ := g8 k j hk
      exact ⟨xs, cur, sz, ys, by rw [List.length_cons, show bs.length + 1 + k = bs.length + k + 1 by omega]; exact e1, e2, e3⟩
  | [], j :: js, .vec xs :: rs, s, s1, h, hb, hj, hl => by
    simp only [backR] at h
    split at h
    · rename_i cur sz ys hv
      obtain ⟨n1, n2⟩ := nodup_cons hj
      have hjl : j < s.vc.length := (List.getElem?_eq_some_iff.1 hv).1
      obtain ⟨⟨g1, g2, g3, g4⟩, g5, g6, g7, g8⟩ := backR_spec h rfl n2 (fun i hi => by cases hi)
      refine ⟨⟨g1, by simpa using g2, g3, g4⟩, g5, fun i hi => ?_, fun k i hk => by simp at hk, fun k j' hk => ?_⟩
      · have h1 : i ≠ j := fun e => hi (by simp [e])
        have h2 : i ∉ js := fun e => hi (by simp [e])
        rw [g6 i h2]
        exact List.getElem?_set_ne (Ne.symm h1)
      · cases k with
        | zero =>
          simp at hk; subst hk
          exact ⟨xs, cur, sz, ys, rfl, hv, by rw [g6 j n1]; exact List.getElem?_set_self hjl⟩
        | succ k =>
          obtain ⟨xs', cur', sz', ys', e1, e2, e3⟩ := g8 k j' (by simpa using hk)
          have hne : j ≠ j' := by
            rintro rfl
            exact n1 (List.mem_of_getElem? (by simpa using hk))
          have e2' : (s.vc.set j (some (cur, sz, xs)))[j']? = some (some (cur', sz', ys')) := e2
          rw [List.getElem?_set_ne hne] at e2'
          exact ⟨xs', cur', sz', ys', by simpa using e1, e2', e3⟩
    · cases h
  | _ :: _, _, .vec _ :: _, s, s1, h, _, _, _ => by simp [backR] at h
  | _ :: _, _, [], s, s1, h, _, _, _ => by simp [backR] at h
  | [], _ :: _, [], s, s1, h, _, _, _ => by simp [backR] at h
  | [], _ :: _, .box _ :: _, s, s1, h, _, _, _ => by simp [backR] at h
  | [], _ :: _, .map _ :: _, s, s1, h, _, _, _ => by simp [backR] at h
  | [], [], _ :: _, s, s1, h, _, _, _ => by simp [backR] at h

theorem refsB_spec : ∀ {l : List (Bool × List AV)} {rs : List Ref}, refsB l = some rs → rs.length = l.length ∧ ∀ (k : Nat) z cs, l[k]? = some (z, cs) → z = false ∧ ((∃ es, cs = [.ment es] ∧ rs[k]? = some (.map es)) ∨ ∃ ps, toPVs cs = some ps ∧ rs[k]? = some (.box ps))
  | [], rs, h => by obtain rfl := Option.some.inj h; exact ⟨rfl, fun k z cs h => by simp at h⟩
  | (true, _) :: _, rs, h => by simp [refsB] at h
  | (false, cs0) :: l, rs, h => by
    simp only [refsB] at h
    split at h
    · cases h
    · rename_i rs' h'
      obtain ⟨g1, g2⟩ := refsB_spec h'
      split at h
      · rename_i es
        obtain rfl := Option.some.inj h
        refine ⟨by simp [g1], fun k z cs hk => ?_⟩
        cases k with
        | zero => simp at hk; obtain ⟨rfl, rfl⟩ := hk; exact ⟨rfl, .inl ⟨es, rfl, rfl⟩⟩
        | succ k => exact g2 k z cs (by simpa using hk)
      · split at h
        · rename_i ps hps
          obtain rfl := Option.some.inj h
          refine ⟨by simp [g1], fun k z cs hk => ?_⟩
          cases k with
          | zero => simp at hk; obtain ⟨rfl, rfl⟩ := hk; exact ⟨rfl, .inr ⟨ps, hps, rfl⟩⟩
          | succ k => exact g2 k z cs (by simpa using hk)
        · cases h
theorem refsV_spec : ∀ {l : List (Option (Nat × Nat × List PV))} {rs : List Ref}, refsV l = some rs → rs.length = l.length ∧ ∀ (k : Nat), k < l.length → ∃ sz xs, l[k]? = some (some (0, sz, xs)) ∧ rs[k]? = some (.vec xs)
  | [], rs, h => by obtain rfl := Option.some.inj h; exact ⟨rfl, fun k h => by simp at h⟩
  | none :: _, rs, h => by simp [refsV] at h
  | some (n + 1, _, _) :: _, rs, h => by simp [refsV] at h
  | some (0, sz, xs) :: l, rs, h => by
    simp only [refsV] at h
    split at h
    · rename_i rs' h'
      obtain rfl := Option.some.inj h
      obtain ⟨g1, g2⟩ := refsV_spec h'
      refine ⟨by simp [g1], fun k hk => ?_⟩
      cases k with
      | zero => exact ⟨sz, xs, rfl, rfl⟩
      | succ k => exact g2 k (by simpa using hk)
    · cases h
theorem refs_spec {s : St} {rs : List Ref} (h : refs s = some rs) (h1 : s.nr ≤ s.bx.length) (h2 : s.nv ≤ s.vc.length) :
    (∀ k, k < s.nr → ∃ cs, s.bx[k]? = some (false, cs) ∧ ((∃ es, cs = [.ment es] ∧ rs[k]? = some (.map es)) ∨ ∃ ps, toPVs cs = some ps ∧ rs[k]? = some (.box ps))) ∧
    ∀ k, k < s.nv → ∃ sz xs, s.vc[k]? = some (some (0, sz, xs)) ∧ rs[s.nr + k]? = some (.vec xs) := by
  unfold refs at h
  split at h
  · rename_i a b ha hb
    obtain rfl := Option.some.inj h
    obtain ⟨l1, g1⟩ := refsB_spec ha
    obtain ⟨l2, g2⟩ := refsV_spec hb
    have la : a.length = s.nr := by rw [l1]; simp; omega
    refine ⟨fun k hk => ?_, fun k hk => ?_⟩
    · have hkl : k < s.bx.length := by omega
      have e : s.bx[k]? = some (s.bx[k].1, s.bx[k].2) := List.getElem?_eq_getElem hkl
      generalize s.bx[k].1 = z at e
      generalize s.bx[k].2 = cs at e
      obtain ⟨rfl, q⟩ := g1 k z cs (by rw [List.getElem?_take_of_lt hk]; exact e)
      refine ⟨cs, e, ?_⟩
      rw [List.getElem?_append_left (by omega)]
      exact q
    · obtain ⟨sz, xs, e1, e2⟩ := g2 k (by simp; omega)
      rw [List.getElem?_take_of_lt hk] at e1
      refine ⟨sz, xs, e1, ?_⟩
      rw [List.getElem?_append_right (by omega), la, show s.nr + k - s.nr = k by omega]
      exact e2
  · cases h

theorem SRel.absorb3 (h : SRel F w0 M0 G s w) (hr : RefRel G s args vals bs js) (hnb : nodup bs = true) (hnj : nodup js = true) {G' : Gh} {s' : St} {w' : World} (hc : SRel (FR G s bs js) w G.M G' s' w') {rs : List Ref} (hrs : refs s' = some rs) {s1 : St} (hk : backR bs js rs s = some s1) :
    SRel F w0 M0 { G with M := G'.M } s1 w' ∧ Ext G s { G with M := G'.M } s1 ∧ ∀ b, FR G s bs js b → G'.own b ≠ .free ∧ (∀ i, G'.own b ≠ .tip i) ∧ ∀ i, G'.own b = .vec i → i < s'.nv := by
  have hnn : s'.nr = bs.length ∧ s'.nv = js.length := by
    have := hc.rt.1
    simp only [St.nn, FR, Prod.mk.injEq] at this
    exact this
  have hnr : s'.nr ≤ s'.bx.length := by
    rcases Nat.lt_or_ge s'.bx.length s'.nr with hl | hl
    · have := (hc.rt.2 s'.bx.length hl).1; omega
    · exact hl
  have hnv : s'.nv ≤ s'.vc.length := by
    rcases Nat.lt_or_ge s'.vc.length s'.nv with hl | hl
    · have := (hc.rv s'.vc.length hl).1; omega
    · exact hl
  obtain ⟨R1, R2⟩ := refs_spec hrs hnr hnv
  have hbl : ∀ i, i ∈ bs → i < s.bx.length := fun i hi => by
    obtain ⟨k, hk, rfl⟩ := List.mem_iff_getElem.1 hi
    obtain ⟨cs, q1, _⟩ := hr.box_at k _ (List.getElem?_eq_getElem hk)
    exact (List.getElem?_eq_some_iff.1 q1).1
  obtain ⟨⟨b1, b2, b3, b4⟩, b5, b6, b7, b8⟩ := backR_spec hk hnb hnj hbl
  -- the callee's view of box k
  have BX : ∀ (k i : Nat), bs[k]? = some i → ∃ b cs ob, G.μ i = some b ∧ s'.bx[k]? = some (false, cs) ∧ G'.own b = .box k ∧ b < w'.heap.size ∧ w'.heap[b]? = some ob ∧ BRel G' s' cs ob ∧
      ((∃ es, cs = [.ment es] ∧ rs[k]? = some (.map es)) ∨ ∃ ps, toPVs cs = some ps ∧ rs[k]? = some (.box ps)) := by
    intro k i hki
    have hkl : k < bs.length := (List.getElem?_eq_some_iff.1 hki).1
    obtain ⟨cs, c1, c2⟩ := R1 k (by omega)
    obtain ⟨_, b, m1, m2⟩ := hc.rt.2 k (by omega)
    simp only [FR, hki, Option.bind_some] at m2
    obtain ⟨p1, p2, p3, ob, p4, p5⟩ := hc.bx k false cs b c1 m1
    exact ⟨b, cs, ob, m2, c1, p1, p2, p4, p5, c2⟩
  have VC : ∀ (k j : Nat), js[k]? = some j → ∃ cur sz ys xs, s.vc[j]? = some (some (cur, sz, ys)) ∧ s'.vc[k]? = some (some (0, sz, xs)) ∧ G'.ν k = G.ν j ∧ xs.length = ys.length ∧ rs[bs.length + k]? = some (.vec xs) := by
    intro k j hkj
    have hkl : k < js.length := (List.getElem?_eq_some_iff.1 hkj).1
    obtain ⟨sz', xs, c1, c2⟩ := R2 k (by omega)
    obtain ⟨cur, sz, ys, q1, _⟩ := hr.vec_at k j hkj
    obtain ⟨g1, g2⟩ := (hc.rv k (by omega)).2 _ c1
    simp only [FR, hkj, lenV, q1] at g1 g2
    obtain ⟨⟨e1, _⟩, _⟩ := hc.vc k 0 sz' xs c1
    obtain ⟨⟨e2, _⟩, _⟩ := h.vc j cur sz ys q1
    rw [g1, e2] at e1
    subst e1
    exact ⟨cur, sz, ys, xs, q1, c1, g1, g2, by rw [← hnn.1]; exact c2⟩
  have BL : ∀ b, FR G s bs js b → (∃ (k i : Nat), bs[k]? = some i ∧ G.own b = .box i ∧ G'.own b = .box k) ∨ ∃ (k j : Nat), js[k]? = some j ∧ G.own b = .vec j ∧ G'.own b = .vec k := by
    intro b hb
    rcases hr.blk h hb with ⟨k, i, e1, e2, e3⟩ | ⟨k, j, e1, e2, e3⟩
    · obtain ⟨b', cs, ob, m1, _, m2, _⟩ := BX k i e1
      rw [e2] at m1
      obtain rfl := Option.some.inj m1
      exact .inl ⟨k, i, e1, e3, m2⟩
    · obtain ⟨cur, sz, ys, xs, q1, q2, q3, _⟩ := VC k j e1
      obtain ⟨_, _, q4⟩ := hc.vc k 0 sz xs q2
      rw [q3] at q4
      rcases q4 with ⟨e, _⟩ | ⟨b', o, vs, T, g1, g2, _⟩
      · rw [e] at e2; cases e2
      · rw [g1] at e2
        simp only [Option.map_some, Option.some.injEq] at e2
        subst e2
        exact .inr ⟨k, j, e1, e3, g2⟩
  have hkeep : ∀ b, b < w.heap.size → ¬ FR G s bs js b → w'.heap[b]? = w.heap[b]? := fun b hb hn => hc.old b hb hn
  have notF : ∀ b, (∀ i, i ∈ bs → G.own b ≠ .box i) → (∀ j, j ∈ js → G.own b ≠ .vec j) → ¬ FR G s bs js b := fun b n1 n2 hb => by
    rcases BL b hb with ⟨k, i, e1, e2, _⟩ | ⟨k, j, e1, e2, _⟩
    · exact n1 i (List.mem_of_getElem? e1) e2
    · exact n2 j (List.mem_of_getElem? e1) e2
  have hnn1 : s1.nr = s.nr ∧ s1.nv = s.nv := by simpa [St.nn] using b4
  have hvc1 : ∀ (j : Nat) e, s1.vc[j]? = some (some e) → ∃ e0 : Nat × Nat × List PV, s.vc[j]? = some (some e0) ∧ e0.1 = e.1 ∧ e0.2.1 = e.2.1 ∧ e0.2.2.length = e.2.2.length := by
    intro j e he
    by_cases hj : j ∈ js
    · obtain ⟨k, hkl, rfl⟩ := List.mem_iff_getElem.1 hj
      have hkj := List.getElem?_eq_getElem hkl
      obtain ⟨xs, cur, sz, ys, e1, e2, e3⟩ := b8 k _ hkj
      obtain ⟨cur', sz', ys', xs', q1, q2, q3, q4, q5⟩ := VC k _ hkj
      rw [e3] at he
      obtain rfl := Option.some.inj (Option.some.inj he)
      rw [e1] at q5
      simp only [Option.some.injEq, Ref.vec.injEq] at q5
      subst q5
      rw [e2] at q1
      simp only [Option.some.injEq, Prod.mk.injEq] at q1
      obtain ⟨rfl, rfl, rfl⟩ := q1
      exact ⟨_, e2, rfl, rfl, q4.symm⟩
    · rw [b6 j hj] at he
      exact ⟨e, he, rfl, rfl, rfl⟩
  have he : Ext G s { G with M := G'.M } s1 := by
    refine ⟨hc.base, by omega, by omega, by rw [b3]; exact Nat.le_refl _, fun _ _ _ h => h, fun j hj cur' xs' e => ?_, fun i hi cur' e => ⟨cur', by rw [← b3]; exact e, Nat.le_refl _, fun _ => rfl⟩⟩
    obtain ⟨⟨c0, sz0, ys0⟩, q1, q2, q3, q4⟩ := hvc1 j _ e
    simp only at q2 q3 q4
    subst q2
    exact ⟨_, _, q1, Nat.le_refl _, fun _ => ⟨q4, rfl⟩⟩
  refine ⟨⟨hc.os.trans h.os, hc.tape.trans h.tape, hc.output.trans h.output, Nat.le_trans h.size hc.size, ?_, hc.agree, Mem.le_trans h.base hc.base, h.lay, ?_, ?_, ?_, ?_, ?_, ?_, ⟨b4.trans h.rt.1, fun i hi => ?_⟩, fun j hj => ?_⟩, he, fun b hb => ?_⟩
  · intro k hk hF
    have hn : ¬ FR G s bs js k := fun hb => by
      have ho : G.own k ≠ .free := by rcases BL k hb with ⟨_, _, _, e, _⟩ | ⟨_, _, _, e, _⟩ <;> rw [e] <;> simp
      rcases (h.own k ho).2 with e | e
      · exact hF e
      · omega
    rw [hkeep k (Nat.lt_of_lt_of_le hk h.size) hn]
    exact h.old k hk hF
  · intro a v e
    rcases hc.newM a v e with e | e | e
    · exact h.newM a v e
    · exact .inr (.inl (Nat.le_trans h.size e))
    · have ho : G.own a.block ≠ .free := by rcases BL _ e with ⟨_, _, _, e, _⟩ | ⟨_, _, _, e, _⟩ <;> rw [e] <;> simp
      rcases (h.own _ ho).2 with e | e
      · exact .inr (.inr e)
      · exact .inr (.inl e)
  · intro b hb
    obtain ⟨g1, g2⟩ := h.own b hb
    exact ⟨Nat.lt_of_lt_of_le g1 hc.size, g2⟩
  · intro a v e
    rcases hc.newM a v e with e1 | e1 | e1
    · rcases h.ownM a v e1 with e2 | ⟨i, ad, hi, e2, e3⟩
      · exact .inl e2
      · exact .inr ⟨i, ad, by rw [b3]; exact hi, e2, e3⟩
    · left
      cases ho : G.own a.block with
      | free => rfl
      | _ => have := (h.own a.block (by rw [ho]; simp)).1; omega
    · rcases hc.ownM a v e with e2 | ⟨i, ad, hi, e2, e3⟩
      · rcases BL _ e1 with ⟨_, _, _, _, e4⟩ | ⟨_, _, _, _, e4⟩ <;> rw [e4] at e2 <;> cases e2
      · rcases BL _ e1 with ⟨_, _, _, _, e4⟩ | ⟨_, _, _, _, e4⟩ <;> rw [e4] at e2 <;> cases e2
  · intro i z cs b h1 h2
    by_cases hi : i ∈ bs
    · obtain ⟨k, hkl, rfl⟩ := List.mem_iff_getElem.1 hi
      have hki := List.getElem?_eq_getElem hkl
      obtain ⟨b', cs', ob, m1, m2, m3, m4, m5, m6, m7⟩ := BX k _ hki
      have h2' : G.μ bs[k] = some b := h2
      rw [m1] at h2'
      obtain rfl := Option.some.inj h2'
      obtain ⟨cs0, q1, _, _⟩ := hr.box_at k _ hki
      obtain ⟨p1, p2, p3, _⟩ := h.bx _ _ _ _ q1 m1
      rcases b7 k _ hki with ⟨ps, r1, r2⟩ | ⟨es, r1, r2⟩
      · rw [r2] at h1
        simp only [Option.some.injEq, Prod.mk.injEq] at h1
        obtain ⟨rfl, rfl⟩ := h1
        refine ⟨p1, m4, p3, ob, m5, ?_⟩
        rcases m7 with ⟨es, _, e2⟩ | ⟨ps', e1, e2⟩
        · rw [r1] at e2; cases e2
        · rw [r1] at e2
          simp only [Option.some.injEq, Ref.box.injEq] at e2
          subst e2
          obtain ⟨vs, T, rfl, p6, p7⟩ := m6.cells (toPVs_cells e1)
          obtain ⟨l1, l2⟩ := toPVs_get e1
          refine .inl ⟨vs, T, rfl, by simp [l1, p6], fun m c v e3 e4 => ?_⟩
          rw [List.getElem?_map] at e3
          cases hp : ps[m]? with
          | none => rw [hp] at e3; cases e3
          | some p =>
            rw [hp] at e3
            obtain rfl := Option.some.inj e3
            have hml : m < cs'.length := by rw [← l1]; exact (List.getElem?_eq_some_iff.1 hp).1
            obtain ⟨p', r3, r4⟩ := l2 m _ (List.getElem?_eq_getElem hml)
            rw [hp] at r3
            obtain rfl := Option.some.inj r3
            obtain ⟨r5, r6⟩ := p7 m _ v (List.getElem?_eq_getElem hml) e4
            exact ⟨show PRep G'.M p v from toPV_rel r5 r4, r6⟩
      · rw [r2] at h1
        simp only [Option.some.injEq, Prod.mk.injEq] at h1
        obtain ⟨rfl, rfl⟩ := h1
        refine ⟨p1, m4, p3, ob, m5, ?_⟩
        rcases m7 with ⟨es', e1, e2⟩ | ⟨ps', e1, e2⟩
        · rw [r1] at e2
          simp only [Option.some.injEq, Ref.map.injEq] at e2
          subst e2
          subst e1
          obtain ⟨en, ck, rfl, r3⟩ := m6.map
          exact .inr ⟨es, en, ck, rfl, rfl, r3⟩
        · rw [r1] at e2; cases e2
    · rw [b5 i hi] at h1
      obtain ⟨q1, q2, q3, ob, q4, q5⟩ := h.bx i z cs b h1 h2
      have hn : ¬ FR G s bs js b := notF b (fun i' hi' e => by
        rw [q1] at e
        cases z
        · simp only [cond_false, Own.box.injEq] at e; exact hi (e ▸ hi')
        · cases e) (fun j' _ e => by rw [q1] at e; cases z <;> cases e)
      exact ⟨q1, Nat.lt_of_lt_of_le q2 hc.size, q3, ob, by rw [hkeep b q2 hn]; exact q4, q5.ext he⟩
  · intro j ver sz xs h1
    by_cases hj : j ∈ js
    · obtain ⟨k, hkl, rfl⟩ := List.mem_iff_getElem.1 hj
      have hkj := List.getElem?_eq_getElem hkl
      obtain ⟨xs', cur, sz', ys, e1, e2, e3⟩ := b8 k _ hkj
      obtain ⟨cur', sz2, ys', xs2, q1, q2, q3, q4, q5⟩ := VC k _ hkj
      rw [h1] at e3
      simp only [Option.some.injEq, Prod.mk.injEq] at e3
      obtain ⟨rfl, rfl, rfl⟩ := e3
      rw [e1] at q5
      simp only [Option.some.injEq, Ref.vec.injEq] at q5
      subst q5
      rw [e2] at q1
      simp only [Option.some.injEq, Prod.mk.injEq] at q1
      obtain ⟨rfl, rfl, rfl⟩ := q1
      obtain ⟨f0, _, f2⟩ := h.vc _ _ _ _ e2
      obtain ⟨g0, g1, g2⟩ := hc.vc k 0 sz xs q2
      rw [q3] at g0 g1 g2
      refine ⟨g0, g1, ?_⟩
      rcases g2 with g2 | ⟨b, o, vs, T, k1, k2, k3, k4, k5, k6⟩
      · exact .inl g2
      · rcases f2 with ⟨e, _⟩ | ⟨b', o', vs', T', t1, t2, _⟩
        · rw [e] at k1; cases k1
        · rw [k1] at t1
          simp only [Option.some.injEq, Addr.mk.injEq] at t1
          obtain ⟨rfl, rfl, _⟩ := t1
          exact .inr ⟨b, o, vs, T, k1, t2, k3, k4, k5, k6⟩
    · rw [b6 j hj] at h1
      obtain ⟨q0, q1, q2⟩ := h.vc j ver sz xs h1
      refine ⟨q0, q1, ?_⟩
      rcases q2 with q2 | ⟨b, o, vs, T, g1, g2, g3, g4, g5, g6⟩
      · exact .inl q2
      · have hn : ¬ FR G s bs js b := notF b (fun i' _ e => by rw [g2] at e; cases e) (fun j' hj' e => by
          rw [g2] at e
          simp only [Own.vec.injEq] at e
          exact hj (e ▸ hj'))
        refine .inr ⟨b, o, vs, T, g1, g2, ?_, g4, g5, fun j x k y e1 e2 => ?_⟩
        · rw [hkeep b (h.own b (by rw [g2]; simp)).1 hn]; exact g3
        · obtain ⟨v, e3, e4⟩ := g6 j x k y e1 e2
          exact ⟨v, e3, e4.mono hc.base⟩
  · intro i e h1
    rw [b3] at h1
    obtain ⟨q0, q2⟩ := h.tp i e h1
    refine ⟨q0, ?_⟩
    rcases q2 with q2 | ⟨b, o, vs, T, g1, g2, g3, g4⟩
    · exact .inl q2
    · have hn : ¬ FR G s bs js b := notF b (fun i' _ e => by rw [g2] at e; cases e) (fun j' _ e => by rw [g2] at e; cases e)
      exact .inr ⟨b, o, vs, T, g1, g2, by rw [hkeep b (h.own b (by rw [g2]; simp)).1 hn]; exact g3, g4⟩
  · rw [hnn1.1] at hi
    obtain ⟨g1, g2⟩ := h.rt.2 i hi
    exact ⟨by omega, g2⟩
  · rw [hnn1.2] at hj
    obtain ⟨g1, g2⟩ := h.rv j hj
    refine ⟨by omega, fun xs e => ?_⟩
    obtain ⟨⟨c0, sz0, ys0⟩, q1, q2, q3, q4⟩ := hvc1 j _ e
    simp only at q2 q3 q4
    subst q2
    obtain ⟨k1, k2⟩ := g2 _ q1
    exact ⟨k1, by simp only at k2 ⊢; omega⟩
  · rcases BL b hb with ⟨k, i, e1, e2, e3⟩ | ⟨k, j, e1, e2, e3⟩
    · rw [e3]; exact ⟨by simp, by simp, by simp⟩
    · rw [e3]
      refine ⟨by simp, by simp, fun i e => ?_⟩
      simp only [Own.vec.injEq] at e
      subst e
      rw [hnn.2]
      exact (List.getElem?_eq_some_iff.1 e1).1

/-- A block of the callee's that is none of the caller's is new. -/
theorem new_free (h : SRel F w0 M0 G s w) {G' : Gh} {s' s1 : St} {w' : World} (hc : SRel (FR G s bs js) w G.M G' s' w') (hS1 : SRel F w0 M0 { G with M := G'.M } s1 w') (hμ : ∀ i cs b, s1.bx[i]? = some (true, cs) → G.μ i = some b → b < w.heap.size) {b : Nat} (hb : G'.own b ≠ .free) (hn : ¬ FR G s bs js b) :
    G.own b = .free ∧ b < w'.heap.size ∧ (F b ∨ w0.heap.size ≤ b) ∧ ∀ i cs, s1.bx[i]? = some (true, cs) → ({ G with M := G'.M } : Gh).μ i ≠ some b := by
  obtain ⟨g1, g2⟩ := hc.own b hb
  rcases g2 with g2 | g2
  · exact absurd g2 hn
  · refine ⟨?_, g1, .inr (Nat.le_trans h.size g2), fun i cs h1 h2 => ?_⟩
    · cases ho : G.own b with
      | free => rfl
      | _ => have := (h.own b (by rw [ho]; simp)).1; omega
    · have := hμ i cs b h1 h2; omega
end

section
variable {P : Program} {E : Env} {av : Av} {ty : TypeId} {s : St}

theorem passR_rel {G : Gh} {s : St} {g : FuncId} : ∀ {l : List AV} {us : List Value} {n : Nat} {tys : List TypeId} {args : List Arg} {bs : List (Nat × Option Sh)} {js : List Nat}, LRel G s l us → passR P E g n l tys s = some (args, bs, js) → RefRel G s args us (bs.map (·.1)) js
  | [], us, n, tys, args, bs, js, hl, h => by
    simp only [passR, Option.some.injEq, Prod.mk.injEq] at h
    obtain ⟨rfl, rfl, rfl⟩ := h
    have : us = [] := List.eq_nil_of_length_eq_zero hl.1
    subst this
    exact .nil
  | v :: l, us, n, tys, args, bs, js, hl, h => by
    cases us with
    | nil => have := hl.1; simp at this
    | cons u us =>
      have hr := hl.2 0 v u rfl rfl
      have hl' : LRel G s l us := ⟨by have := hl.1; simpa using this, fun i b' u' h1 h2 => hl.2 (i + 1) b' u' (by simpa using h1) (by simpa using h2)⟩
      simp only [passR] at h
      split at h
      · cases h
      · rename_i as bs' js' hp
        have ih := passR_rel hl' hp
        split at h
        · rename_i b
          split at h
          · rename_i cs hi
            replace h := bif_some h; obtain ⟨_, h⟩ := h
            split at h
            · rename_i ps hps
              simp only [Option.some.injEq, Prod.mk.injEq] at h
              obtain ⟨rfl, rfl, rfl⟩ := h
              exact .box hi hps hr ih
            · cases h
          · cases h
        · rename_i b
          split at h
          · rename_i es hi
            simp only [Option.some.injEq, Prod.mk.injEq] at h
            obtain ⟨rfl, rfl, rfl⟩ := h
            exact .map hi hr ih
          · cases h
        · rename_i j ver
          split at h
          · rename_i cur sz xs hi
            replace h := bif_some h; obtain ⟨h1, h⟩ := h
            simp only [Bool.and_eq_true] at h1
            have e := beq_eq h1.1
            subst e
            simp only [Option.some.injEq, Prod.mk.injEq] at h
            obtain ⟨rfl, rfl, rfl⟩ := h
            exact .vec hi hr ih
          · cases h
        · split at h
          · rename_i p hp'
            simp only [Option.some.injEq, Prod.mk.injEq] at h
            obtain ⟨rfl, rfl, rfl⟩ := h
            exact .pv (toPV_rel hr hp') ih
          · cases h

theorem shCells_eq {sh : Sh} {cs : List PV} (h : fitB sh (.box cs) = true) : shCells sh (.agg cs) = cs := by
  cases sh with
  | agg l => exact Sh.viewA_eq l cs true h
  | _ =>
    cases cs with
    | nil => cases h
    | cons c l =>
      cases l with
      | nil => exact congrArg (fun x => [x]) (Sh.view_eq _ c h)
      | cons => cases h

theorem back_eq : ∀ (ks : List (Nat × Option Sh)) (js : List Nat) (rs pre : List Ref) (a : Arg) (s s1 : St), refFits ks js rs = true → backV js (pre.length + ks.length) (a, pre ++ rs) (backB ks pre.length (a, pre ++ rs) s) = some s1 → backR (ks.map (·.1)) js rs s = some s1
  | [], [], [], pre, a, s, s1, h, hb => hb
  | [], [], _ :: _, pre, a, s, s1, h, hb => by simp [refFits] at h
  | [], j :: js, [], pre, a, s, s1, h, hb => by simp [refFits] at h
  | [], j :: js, .box _ :: rs, pre, a, s, s1, h, hb => by simp [refFits] at h
  | [], j :: js, .map _ :: rs, pre, a, s, s1, h, hb => by simp [refFits] at h
  | [], j :: js, .vec xs :: rs, pre, a, s, s1, h, hb => by
    simp only [refFits] at h
    simp only [List.length_nil, Nat.add_zero, backB, backV] at hb
    simp only [List.map_nil, backR]
    split at hb
    · rename_i cur sz ys hv
      try simp only [hv]
      have hx : Out.v (a, pre ++ .vec xs :: rs) pre.length = xs := by simp [Out.v, Ref.toV]
      rw [hx] at hb
      have := back_eq [] js rs (pre ++ [.vec xs]) a { s with vc := s.vc.set j (some (cur, sz, xs)) } s1 h (by simpa [backB] using hb)
      simpa using this
    · cases hb
  | (i, some sh) :: ks, js, [], pre, a, s, s1, h, hb => by simp [refFits] at h
  | (i, some sh) :: ks, js, r :: rs, pre, a, s, s1, h, hb => by
    simp only [refFits, Bool.and_eq_true] at h
    cases r with
    | box cs =>
      simp only [List.map_cons, backR]
      simp only [backB] at hb
      have hx : shCells sh (Out.b (a, pre ++ .box cs :: rs) pre.length) = cs := by
        have : Out.b (a, pre ++ .box cs :: rs) pre.length = .agg cs := by simp [Out.b, Ref.toB]
        rw [this]
        exact shCells_eq h.1
      rw [hx] at hb
      have := back_eq ks js rs (pre ++ [.box cs]) a { s with bx := s.bx.set i (false, cs.map .pv) } s1 h.2 (by
        simp only [List.length_append, List.length_cons, List.length_nil, List.append_assoc, List.singleton_append]
        simp only [List.length_cons] at hb
        rw [show pre.length + (0 + 1) + ks.length = pre.length + (ks.length + 1) by omega]
        exact hb)
      exact this
    | map es => simp [fitB] at h
    | vec xs => simp [fitB] at h
  | (i, none) :: ks, js, [], pre, a, s, s1, h, hb => by simp [refFits] at h
  | (i, none) :: ks, js, .box _ :: rs, pre, a, s, s1, h, hb => by simp [refFits] at h
  | (i, none) :: ks, js, .vec _ :: rs, pre, a, s, s1, h, hb => by simp [refFits] at h
  | (i, none) :: ks, js, .map es :: rs, pre, a, s, s1, h, hb => by
    simp only [refFits] at h
    simp only [List.map_cons, backR]
    simp only [backB] at hb
    have hx : Out.m (a, pre ++ .map es :: rs) pre.length = es := by simp [Out.m, Ref.toM]
    rw [hx] at hb
    exact back_eq ks js rs (pre ++ [.map es]) a { s with bx := s.bx.set i (false, [.ment es]) } s1 h (by
      simp only [List.length_append, List.length_cons, List.length_nil, List.append_assoc, List.singleton_append]
      simp only [List.length_cons] at hb
      rw [show pre.length + (0 + 1) + ks.length = pre.length + (ks.length + 1) by omega]
      exact hb)

theorem callR_sound (hF : FOk P) (hc : CallOk P E.call) {f : FuncId} {c : Call} {g : FuncId} {l : List AV} {tys : List TypeId} {dst : Option Tmp} {ρ : Type} {K : AV → St → Option ρ} {r : ρ} (hcal : c.callee = .value (.func g)) (hl : c.args.toList.mapM av = some l) (h : callR P E f g l tys ty dst s K = some r) :
    ∃ v s', K v s' = some r ∧ Sound2 P (.call c) ty av s v s' := by
  unfold callR at h
  split at h
  rotate_left
  · cases h
  rename_i as bs js hp
  replace h := bif_some h; obtain ⟨hn, h⟩ := h
  simp only [Bool.and_eq_true] at hn
  replace h := bind_some h; obtain ⟨out, ho, h⟩ := h
  replace h := bif_some h; obtain ⟨hfits, h⟩ := h
  replace h := bind_some h; obtain ⟨s1, hs1, h⟩ := h
  replace hs1 := back_eq bs js out.2 [] out.1 s s1 hfits (by simpa using hs1)
  generalize hbs : bs.map (·.1) = bs at hs1 hn
  replace hp : ∀ {G : Gh} {us : List Value}, LRel G s l us → RefRel G s as us bs js := fun hL => by rw [← hbs]; exact passR_rel hL hp
  -- the call itself
  have gen : ∀ {F : Fr} {w0 : World} {M0 : Mem} {G : Gh} {a : Act} {w : World} {o : Oper} {N : Value → World → Prop}, SRel F w0 M0 G s w → Avs av G s a → o.op = .call c →
      (∀ v G' s' w', SRel (FR G s bs js) w G.M G' s' w' → OutRel G' s' out v → SRel F w0 M0 { G with M := G'.M } s1 w' → Ext G s { G with M := G'.M } s1 → (∀ b, FR G s bs js b → G'.own b ≠ .free ∧ (∀ i, G'.own b ≠ .tip i) ∧ ∀ i, G'.own b = .vec i → i < s'.nv) →
        (∀ i cs b, s1.bx[i]? = some (true, cs) → G.μ i = some b → b < w.heap.size) → N v w') → OpTo P o a w N := by
    intro F w0 M0 G a w o N hS hA hop hN
    obtain ⟨g1, g2⟩ := avs_rel hA hl
    have hLR : LRel G s l (c.args.map a.eval).toList := ⟨by simp [g1], fun i b u e1 e2 => by
      simp only [Array.toList_map, List.getElem?_map] at e2
      cases hy : c.args.toList[i]? with
      | none => rw [hy] at e2; cases e2
      | some y =>
        rw [hy] at e2
        obtain rfl := Option.some.inj e2
        exact g2 i b y e1 hy⟩
    have hR := hp hLR
    obtain ⟨hb, hs⟩ := hc g as out ho (hR.plain hS)
    have hrun : (execOp a.eval o).run P w = .ok (.enter g (c.args.map a.eval)) w := by
      simp [execOp, hop, resolve, hcal, Act.eval, Deferred.ofValue, invoke, run_callFunc hF hb]
    obtain ⟨e1, e2⟩ := hR.enterA
    have hfr := e2.frel
    rw [Array.toArray_toList] at hfr
    refine OpTo.enter hrun ((hs (FR G s bs js) G.M (GR G bs js) w _ (by rw [e1]; exact hS.start3 hR hn.1 hn.2) (by rw [e1]; exact hfr)).mono ?_)
    rintro e w' ⟨v, G', s', rfl, q1, q2, q3⟩
    obtain ⟨k1, k2, k3⟩ := hS.absorb3 hR hn.1 hn.2 q1 q3 hs1
    have hbl : ∀ i, i ∈ bs → i < s.bx.length := fun i hi => by
      obtain ⟨k, hk, rfl⟩ := List.mem_iff_getElem.1 hi
      obtain ⟨cs, r1, _⟩ := hR.box_at k _ (List.getElem?_eq_getElem hk)
      exact (List.getElem?_eq_some_iff.1 r1).1
    obtain ⟨_, b5, _, b7, _⟩ := backR_spec hs1 hn.1 hn.2 hbl
    refine ⟨v, rfl, hN v G' s' w' q1 q2 k1 k2 k3 fun i cs b h1 h2 => ?_⟩
    by_cases hi : i ∈ bs
    · obtain ⟨k, hk, rfl⟩ := List.mem_iff_getElem.1 hi
      rcases b7 k _ (List.getElem?_eq_getElem hk) with ⟨ps, _, r2⟩ | ⟨es, _, r2⟩ <;> rw [r2] at h1 <;> cases h1
    · rw [b5 i hi] at h1
      exact (hS.bx i true cs b h1 h2).2.1
  obtain ⟨arg, rs⟩ := out
  unfold finR at h
  simp only at h
  split at h
  · -- a vector
    rename_i e _ _
    replace h := bind_some h; obtain ⟨xs, hx, h⟩ := h
    cases arg <;> first | (cases hx; done) | skip
    rename_i sz ys
    simp only [retV] at hx
    replace hx := bif_some hx; obtain ⟨hx1, hx⟩ := hx
    obtain rfl := Option.some.inj hx
    have hsz := beq_eq hx1
    refine ⟨_, _, h, fun F w0 M0 G a w o hS hA hop _ => gen hS hA hop fun v G' s' w' q1 q2 k1 k2 k3 k4 => ?_⟩
    obtain ⟨i, ver, h1, h2, hnv⟩ := q2
    obtain ⟨⟨r0, r0'⟩, r1, r2⟩ := q1.vc i ver sz ys h1
    obtain ⟨_, _, g3⟩ := h2
    have hv := (g3 _ _ h1).2 rfl
    simp only at hv
    have := k1.attachVec (hd := G'.ν i) (xs := ys) r0' r1 (by
      rcases r2 with r2 | ⟨b, o', vs, T, t1, t2, t3, t4, t5, t6⟩
      · exact .inl r2
      · have hnF : ¬ FR G s bs js b := fun hb => by have := (k3 b hb).2.2 i t2; omega
        obtain ⟨f1, f2, f3, f4⟩ := new_free hS q1 k1 k4 (b := b) (by rw [t2]; simp) hnF
        refine .inr ⟨b, o', vs, T, t1, f1, f2, f3, t3, t4, t5, t6, fun a u e1 e2 => ?_, f4⟩
        rcases q1.ownM a u e1 with e3 | ⟨j, ad, hj, e3, _⟩
        · rw [e2, t2] at e3; cases e3
        · rw [e2, t2] at e3; cases e3)
    rw [r0, hsz] at this
    obtain ⟨G3, m1, m2, m3⟩ := this
    exact ⟨G3, m1, k2.trans m2, by rw [hv]; exact m3⟩
  · -- a builder
    rename_i e _ _
    replace h := bind_some h; obtain ⟨xs, hx, h⟩ := h
    cases arg <;> first | (cases hx; done) | skip
    rename_i sz ys
    simp only [retB0] at hx
    replace hx := bif_some hx; obtain ⟨hx1, hx⟩ := hx
    obtain rfl := Option.some.inj hx
    have hsz := beq_eq hx1
    refine ⟨_, _, h, fun F w0 M0 G a w o hS hA hop _ => gen hS hA hop fun v G' s' w' q1 q2 k1 k2 k3 k4 => ?_⟩
    rcases q2 with ⟨rfl, rfl, hsz0⟩ | ⟨i, e', h1, h2⟩
    · obtain ⟨G3, m1, m2, m3⟩ := k1.newTip sz hsz0
      rw [← hsz]
      exact ⟨G3, m1, k2.trans m2, m3 _ .nils⟩
    · obtain ⟨⟨t1, t2⟩, t3⟩ := q1.tp i _ h1
      simp only at t1
      obtain ⟨g1, g2, g3⟩ := h2
      have ht := (g3 _ h1).2 rfl
      have := k1.attachTip (hd := G'.τ i) (xs := ys) (v := v) t2 (by
        rcases t3 with t3 | ⟨b, o', vs, T, c1, c2, c3, c4⟩
        · exact .inl t3
        · have hnF : ¬ FR G s bs js b := fun hb => (k3 b hb).2.1 i c2
          obtain ⟨f1, f2, f3, f4⟩ := new_free hS q1 k1 k4 (b := b) (by rw [c2]; simp) hnF
          refine .inr ⟨b, o', vs, T, c1, f1, f2, f3, c3, c4, fun a u e1 e2 => ?_, f4⟩
          rcases q1.ownM a u e1 with e3 | ⟨j, ad, hj, e3, e4, e5⟩
          · rw [e2, c2] at e3; cases e3
          · rw [e2, c2] at e3
            cases e3
            rw [c1] at e4
            obtain rfl := Option.some.inj e4
            exact e5) g2 ht
      rw [t1, hsz] at this
      obtain ⟨G3, m1, m2, m3⟩ := this
      exact ⟨G3, m1, k2.trans m2, m3⟩
  · -- a window
    replace h := bind_some h; obtain ⟨q, hq, h⟩ := h
    split at h
    · rename_i j
      split at h
      · rename_i cur sz ys hv
        replace h := bif_some h; obtain ⟨h1, h⟩ := h
        simp only [Bool.and_eq_true] at h1
        have e1 := Nat.le_of_ble_eq_true h1.1
        have e2 := Nat.le_of_ble_eq_true h1.2
        refine ⟨_, _, h, fun F w0 M0 G a w o hS hA hop _ => gen hS hA hop fun v G' s' w' q1 q2 k1 k2 k3 k4 => ?_⟩
        unfold retW at hq
        split at hq
        · rename_i lo hi heq
          simp only at heq
          subst heq
          obtain rfl := Option.some.inj hq
          obtain ⟨lo', hi', e3, sz', xs', hnv, hv0, _, hform, hcur⟩ := q2
          simp only [List.cons.injEq, PV.int.injEq, true_and, and_true] at e3
          obtain ⟨rfl, rfl⟩ := e3
          obtain ⟨_, hcur2⟩ := hcur _ _ hv0
          obtain ⟨g2, g3, g4⟩ := hcur2 rfl
          obtain ⟨_, hrv⟩ := q1.rv 0 hnv
          have hν := (hrv _ hv0).1
          simp only [FR, List.getElem?_cons_zero] at hν
          refine ⟨_, k1, k2, (List.getElem?_eq_some_iff.1 hv).1, hform, fun cur' xs e4 => ?_⟩
          rw [hv] at e4
          simp only [Option.some.injEq, Prod.mk.injEq] at e4
          obtain ⟨rfl, rfl⟩ := e4
          refine ⟨Nat.le_refl _, fun _ => ⟨e1, e2, ?_⟩⟩
          rw [g4, hν]
          simp
        · cases hq
      · cases h
    · cases h
  · -- a plain value
    replace h := bind_some h; obtain ⟨p, hq, h⟩ := h
    replace h := bif_some h; obtain ⟨hfit, h⟩ := h
    rw [Sh.view_eq _ _ hfit] at h
    refine ⟨_, _, h, fun F w0 M0 G a w o hS hA hop _ => gen hS hA hop fun v G' s' w' q1 q2 k1 k2 k3 k4 => ?_⟩
    refine ⟨_, k1, k2, ?_⟩
    cases arg with
    | pv p' => obtain rfl := Option.some.inj hq; exact q2
    | bld sz ys =>
      obtain rfl := Option.some.inj hq
      rcases q2 with ⟨rfl, rfl, _⟩ | ⟨i, e', _, q2⟩
      · exact PRep.weak (p := .nils) .nils
      · exact q2.2.1
    | vec sz ys => cases hq
    | box cs => cases hq
    | map es => cases hq
    | own _ _ => cases hq
    | tup _ _ _ => cases hq
end
end Go.AL

/- Calls that are handed a vector to keep; several results, of which the first is a vector of one's own. -/
set_option linter.unusedVariables false
set_option linter.unusedSimpArgs false
namespace Go.AL
open Go.RowKit

def SM (sz : Nat) (xs : List PV) : St := ⟨[], [some (0, sz, xs)], [], 0, 0⟩
def FM (hd : VH) : Fr := ⟨fun b => hd.A.map (·.block) = some b, fun _ => none, fun _ => ⟨none, 0, 1⟩, fun _ => 0, (0, 0)⟩
def GM (G : Gh) (hd : VH) : Gh := ⟨G.M, fun b => if hd.A.map (·.block) = some b then .vec 0 else .free, fun _ => none, fun _ => hd, fun _ => ⟨none, 0, 1⟩⟩
/-- The caller's view behind the call. -/
def GA (G : Gh) (hd : VH) (M : Mem) : Gh := { G with M := M, own := fun b => if hd.A.map (·.block) = some b then .free else G.own b }

/-- A vector that is about to be given away. -/
structure Gift (G : Gh) (s : St) (w : World) (hd : VH) (sz : Nat) (xs : List PV) (s1 : St) : Prop where
  hz : hd.sz = sz ∧ 0 < hd.sz
  el : ∀ x, x ∈ xs → x.cells.length = hd.sz ∧ ∀ y, y ∈ x.cells → y.one = true
  bl : (hd.A = none ∧ hd.cap = 0 ∧ xs = []) ∨ ∃ b o vs T, hd.A = some ⟨b, o, none⟩ ∧ (∃ j : Nat, G.own b = .vec j ∧ s1.vc[j]? = some none) ∧ w.heap[b]? = some (.cells vs T (0, 0)) ∧
      o + hd.cap * hd.sz ≤ vs.size ∧ xs.length ≤ hd.cap ∧ ∀ j x k y, xs[j]? = some x → x.cells[k]? = some y → ∃ v, vs[o + (j * hd.sz + k)]? = some v ∧ PRep G.M y v
  st : s1.bx = s.bx ∧ s1.tp = s.tp ∧ s1.nn = s.nn ∧ s1.vc.length = s.vc.length ∧ ∀ (j : Nat) (e : Nat × Nat × List PV), s1.vc[j]? = some (some e) → s.vc[j]? = some (some e)

section
variable {F : Fr} {w0 : World} {M0 : Mem} {G : Gh} {s s1 : St} {w : World} {hd : VH} {sz : Nat} {xs : List PV}

theorem Gift.own (h : Gift G s w hd sz xs s1) {b : Nat} (hb : hd.A.map (·.block) = some b) : ∃ j, G.own b = .vec j ∧ s1.vc[j]? = some none := by
  rcases h.bl with ⟨e, _⟩ | ⟨b', o, vs, T, e, h2, _⟩
  · rw [e] at hb; cases hb
  · rw [e] at hb
    simp only [Option.map_some, Option.some.injEq] at hb
    subst hb
    exact h2

theorem Gift.start (h : Gift G s w hd sz xs s1) (hS : SRel F w0 M0 G s w) : SRel (FM hd) w G.M (GM G hd) (SM sz xs) w := by
  refine ⟨rfl, rfl, rfl, Nat.le_refl _, fun _ _ _ => rfl, hS.agree, Mem.le_refl _, hS.layW (fun b hb => by obtain ⟨j, e, _⟩ := h.own hb; rw [e]; simp), fun _ _ e => .inl e, fun b hb => ?_, fun a v e => ?_, fun i z cs b h1 _ => by simp [SM] at h1, fun i ver sz' ys h1 => ?_, fun i e h1 => by simp [SM] at h1,
    ⟨rfl, fun i h1 => absurd h1 (Nat.not_lt_zero _)⟩, fun i h1 => absurd h1 (Nat.not_lt_zero _)⟩
  · simp only [GM] at hb
    split at hb
    · rename_i hm
      obtain ⟨j, h1, _⟩ := h.own hm
      exact ⟨(hS.own b (by rw [h1]; simp)).1, .inl hm⟩
    · exact absurd rfl hb
  · left
    simp only [GM]
    rw [if_neg]
    intro hm
    obtain ⟨j, h1, _⟩ := h.own hm
    rcases hS.ownM a v e with e1 | ⟨i, ad, _, e1, _⟩ <;> rw [h1] at e1 <;> cases e1
  · cases i with
    | succ i => simp [SM] at h1
    | zero =>
      simp only [SM, List.getElem?_cons_zero, Option.some.injEq, Prod.mk.injEq] at h1
      obtain ⟨rfl, rfl, rfl⟩ := h1
      refine ⟨h.hz, h.el, ?_⟩
      rcases h.bl with e | ⟨b, o, vs, T, e, _, h3⟩
      · exact .inl e
      · exact .inr ⟨b, o, vs, T, e, by simp [GM, e], h3⟩

theorem Gift.arg (h : Gift G s w hd sz xs s1) : plainArg (.own sz xs) = true := by
  simp only [plainArg, Bool.and_eq_true]
  refine ⟨Nat.ble_eq_true_of_le (by have := h.hz; omega), List.all_eq_true.2 fun x hx => ?_⟩
  rw [(h.el x hx).1, h.hz.1]
  exact Nat.beq_refl _

theorem Gift.absorb (h : Gift G s w hd sz xs s1) (hS : SRel F w0 M0 G s w) {G' : Gh} {s' : St} {w' : World} (hc : SRel (FM hd) w G.M G' s' w') :
    SRel F w0 M0 (GA G hd G'.M) s1 w' ∧ Ext G s (GA G hd G'.M) s1 ∧
    ∀ b, G'.own b ≠ .free → (GA G hd G'.M).own b = .free ∧ b < w'.heap.size ∧ (F b ∨ w0.heap.size ≤ b) ∧ ∀ i cs, s1.bx[i]? = some (true, cs) → (GA G hd G'.M).μ i ≠ some b := by
  obtain ⟨sb, st, sn, sl, sv⟩ := h.st
  have hn : s1.nr = s.nr ∧ s1.nv = s.nv := by simpa [St.nn] using sn
  have hno : ∀ b, (∀ j, G.own b = .vec j → s1.vc[j]? ≠ some none) → ¬ FM hd b := fun b hb hm => by
    obtain ⟨j, h1, h2⟩ := h.own hm
    exact hb j h1 h2
  have hkeep : ∀ b, b < w.heap.size → ¬ FM hd b → w'.heap[b]? = w.heap[b]? := fun b hb hn => hc.old b hb hn
  have hGA : ∀ b, ¬ FM hd b → (GA G hd G'.M).own b = G.own b := fun b hb => if_neg (show ¬ hd.A.map (·.block) = some b from hb)
  have he : Ext G s (GA G hd G'.M) s1 :=
    ⟨hc.base, by rw [sb]; exact Nat.le_refl _, by omega, by rw [st]; exact Nat.le_refl _, fun _ _ _ h => h, fun j _ cur' xs' e => ⟨cur', xs', sv j _ e, Nat.le_refl _, fun _ => ⟨rfl, rfl⟩⟩, fun i _ cur e => ⟨cur, by rw [← st]; exact e, Nat.le_refl _, fun _ => rfl⟩⟩
  refine ⟨⟨hc.os.trans hS.os, hc.tape.trans hS.tape, hc.output.trans hS.output, Nat.le_trans hS.size hc.size, ?_, hc.agree, Mem.le_trans hS.base hc.base, hS.lay, ?_, ?_, ?_, ?_, ?_, ?_, ⟨sn.trans hS.rt.1, fun i hi => ?_⟩, fun i hi => ?_⟩, he, fun b hb => ?_⟩
  · intro k hk hF
    have hnF : ¬ FM hd k := fun hm => by
      obtain ⟨j, h1, _⟩ := h.own hm
      rcases (hS.own k (by rw [h1]; simp)).2 with e | e
      · exact hF e
      · omega
    rw [hkeep k (Nat.lt_of_lt_of_le hk hS.size) hnF]
    exact hS.old k hk hF
  · intro a v e
    rcases hc.newM a v e with e | e | e
    · exact hS.newM a v e
    · exact .inr (.inl (Nat.le_trans hS.size e))
    · obtain ⟨j, h1, _⟩ := h.own e
      rcases (hS.own a.block (by rw [h1]; simp)).2 with e | e
      · exact .inr (.inr e)
      · exact .inr (.inl e)
  · intro b hb
    have : G.own b ≠ .free := by
      intro e
      apply hb
      simp only [GA]
      split
      · rfl
      · exact e
    obtain ⟨g1, g2⟩ := hS.own b this
    exact ⟨Nat.lt_of_lt_of_le g1 hc.size, g2⟩
  · intro a v e
    by_cases hm : FM hd a.block
    · left; exact if_pos (show hd.A.map (·.block) = some a.block from hm)
    · rw [hGA _ hm]
      rcases hc.newM a v e with e | e | e
      · rcases hS.ownM a v e with e1 | ⟨i, ad, hi, e1, e2⟩
        · exact .inl e1
        · exact .inr ⟨i, ad, by rw [st]; exact hi, e1, e2⟩
      · left
        cases ho : G.own a.block with
        | free => rfl
        | _ => have := (hS.own a.block (by rw [ho]; simp)).1; omega
      · exact absurd e hm
  · intro i z cs b h1 h2
    rw [sb] at h1
    obtain ⟨q1, q2, q3, ob, q4, q5⟩ := hS.bx i z cs b h1 h2
    have hnF : ¬ FM hd b := hno b fun j e => by rw [q1] at e; cases z <;> cases e
    exact ⟨(hGA b hnF).trans q1, Nat.lt_of_lt_of_le q2 hc.size, q3, ob, by rw [hkeep b q2 hnF]; exact q4, q5.ext he⟩
  · intro i ver sz' ys h1
    obtain ⟨q0, q1, q2⟩ := hS.vc i ver sz' ys (sv i _ h1)
    refine ⟨q0, q1, ?_⟩
    rcases q2 with q2 | ⟨b, o, vs, T, g1, g2, g3, g4, g5, g6⟩
    · exact .inl q2
    · have hnF : ¬ FM hd b := hno b fun j e => by
        rw [g2] at e
        simp only [Own.vec.injEq] at e
        subst e
        rw [h1]; simp
      refine .inr ⟨b, o, vs, T, g1, (hGA b hnF).trans g2, ?_, g4, g5, fun j x k y e1 e2 => ?_⟩
      · rw [hkeep b (hS.own b (by rw [g2]; simp)).1 hnF]; exact g3
      · obtain ⟨v, e3, e4⟩ := g6 j x k y e1 e2
        exact ⟨v, e3, e4.mono hc.base⟩
  · intro i e h1
    rw [st] at h1
    obtain ⟨q0, q2⟩ := hS.tp i e h1
    refine ⟨q0, ?_⟩
    rcases q2 with q2 | ⟨b, o, vs, T, g1, g2, g3, g4⟩
    · exact .inl q2
    · have hnF : ¬ FM hd b := hno b fun j e => by rw [g2] at e; cases e
      exact .inr ⟨b, o, vs, T, g1, (hGA b hnF).trans g2, by rw [hkeep b (hS.own b (by rw [g2]; simp)).1 hnF]; exact g3, g4⟩
  · rw [hn.1] at hi
    obtain ⟨g1, g2⟩ := hS.rt.2 i hi
    exact ⟨by rw [sb]; exact g1, g2⟩
  · rw [hn.2] at hi
    obtain ⟨g1, g2⟩ := hS.rv i hi
    exact ⟨by omega, fun ys e => g2 ys (sv i _ e)⟩
  · obtain ⟨g1, g2⟩ := hc.own b hb
    refine ⟨?_, g1, ?_, fun i cs h1 h2 => ?_⟩
    · by_cases hm : FM hd b
      · exact if_pos (show hd.A.map (·.block) = some b from hm)
      · rw [hGA b hm]
        rcases g2 with g2 | g2
        · exact absurd g2 hm
        · cases ho : G.own b with
          | free => rfl
          | _ => have := (hS.own b (by rw [ho]; simp)).1; omega
    · rcases g2 with g2 | g2
      · obtain ⟨j, h1, _⟩ := h.own g2
        exact (hS.own b (by rw [h1]; simp)).2
      · exact .inr (Nat.le_trans hS.size g2)
    · rw [sb] at h1
      obtain ⟨q1, q2, _⟩ := hS.bx i true cs b h1 h2
      rcases g2 with g2 | g2
      · obtain ⟨j, h3, _⟩ := h.own g2
        rw [h3] at q1; cases q1
      · omega

/-- Several results of the callee's. -/
theorem takeT_rel (hS : SRel F w0 M0 G s w) {F' : Fr} {w0' : World} {M0' : Mem} {G' : Gh} {s' : St} (hc : SRel F' w0' M0' G' s' w) (hM : G.M = G'.M)
    (H : ∀ b, G'.own b ≠ .free → G.own b = .free ∧ b < w.heap.size ∧ (F b ∨ w0.heap.size ≤ b) ∧ ∀ i cs, s.bx[i]? = some (true, cs) → G.μ i ≠ some b) {ps : List PV} {rs : List Ref} {v : Value} (ho : OutRel G' s' (.tup sz xs ps, rs) v) :
    ∃ G3, SRel F w0 M0 G3 { s with vc := s.vc ++ [some (0, sz, xs)] } w ∧ Ext G s G3 { s with vc := s.vc ++ [some (0, sz, xs)] } ∧ ARel G3 { s with vc := s.vc ++ [some (0, sz, xs)] } (.tupV s.vc.length 0 ps) v := by
  obtain ⟨i, ver, u, us, h1, h2, rfl, h3, hl, hp⟩ := ho
  obtain ⟨⟨r0, r0'⟩, r1, r2⟩ := hc.vc i ver sz xs h1
  have hv := (h3.2.2 _ _ h1).2 rfl
  simp only at hv
  have := hS.attachVec (hd := G'.ν i) (xs := xs) r0' r1 (by
    rcases r2 with r2 | ⟨b, o, vs, T, k1, k2, k3, k4, k5, k6⟩
    · exact .inl r2
    · obtain ⟨f1, f2, f3, f4⟩ := H b (by rw [k2]; simp)
      refine .inr ⟨b, o, vs, T, k1, f1, f2, f3, k3, k4, k5, by rw [hM]; exact k6, fun a z e1 e2 => ?_, f4⟩
      rw [hM] at e1
      rcases hc.ownM a z e1 with e3 | ⟨j, ad, hj, e3, _⟩
      · rw [e2, k2] at e3; cases e3
      · rw [e2, k2] at e3; cases e3)
  rw [r0] at this
  obtain ⟨G3, q1, q2, q3⟩ := this
  exact ⟨G3, q1, q2, u, us, rfl, by rw [hv]; exact q3, hl, fun k p z e1 e2 => by have := hp k p z e1 e2; rw [← hM] at this; exact this.mono q2.M⟩
end

section
variable {P : Program} {E : Env} {av : Av} {ty : TypeId} {s : St}

theorem takeT_eq {ty : TypeId} {out : Out} {s : St} {ρ : Type} {K : AV → St → Option ρ} {r : ρ} (h : takeT P ty out s K = some r) : ∃ sz xs ps, out = (.tup sz xs ps, []) ∧ K (.tupV s.vc.length 0 ps) { s with vc := s.vc ++ [some (0, sz, xs)] } = some r := by
  unfold takeT at h
  replace h := bind_some h; obtain ⟨q, hq, h⟩ := h
  replace h := bif_some h; obtain ⟨h1, h⟩ := h
  simp only [Bool.and_eq_true] at h1
  have e1 := beq_eq h1.1
  rw [Sh.viewT_eq _ _ _ h1.2, ← e1] at h
  unfold retT at hq
  split at hq
  · obtain rfl := Option.some.inj hq
    exact ⟨_, _, _, rfl, h⟩
  · cases hq

theorem s_call6 (hF : FOk P) (hc : CallOk P E.call) {c : Call} {g : FuncId} {bs : List AV} {args : List Arg} {ids : List Nat} {s1 : St} {sz : Nat} {xs ps : List PV} (hcal : c.callee = .value (.func g)) (h1 : c.args.toList.mapM av = some bs) (h2 : passAll E g 0 bs s = some (args, ids, s1)) (hn : nodup ids = true)
    (h : E.call g args = some (.tup sz xs ps, [])) : Sound2 P (.call c) ty av s (.tupV (s1.given ids).vc.length 0 ps) { s1.given ids with vc := (s1.given ids).vc ++ [some (0, sz, xs)] } := by
  intro F w0 M0 G a w o hS hA ho _
  refine call_gen hF hc hcal h1 h2 hn h hS hA ho fun G1 gs k1 k2 k5 v G' s' w' q1 q2 => ?_
  have hn' : nodup (idsOf gs) = true := by rw [k5]; exact hn
  obtain ⟨m1, m2⟩ := k1.absorb2 hn' q1
  obtain ⟨G3, g1, g2, g3⟩ := takeT_rel m1 q1 rfl (fun b hb => callee_free k1 q1 hb) q2
  rw [k5] at g1 g2 g3 m2
  exact ⟨G3, g1, (k2.trans m2).trans g2, g3⟩

theorem giveV_gift {F : Fr} {w0 : World} {M0 : Mem} {G : Gh} {s s1 : St} {w : World} {t : TypeId} {v : AV} {u : Value} {sz : Nat} {xs : List PV} (hS : SRel F w0 M0 G s w) (hr : ARel G s v u) (h : giveV P t v s = some (sz, xs, s1)) : ∃ hd, Gift G s w hd sz xs s1 ∧ u = .slice hd.A xs.length hd.cap := by
  unfold giveV at h
  split at h
  · rename_i i ver
    split at h
    · rename_i cur sz' xs' hi
      replace h := bif_some h; obtain ⟨h1, h⟩ := h
      simp only [Bool.and_eq_true] at h1
      have e1 := beq_eq h1.1
      subst e1
      simp only [Option.some.injEq, Prod.mk.injEq] at h
      obtain ⟨rfl, rfl, rfl⟩ := h
      obtain ⟨r0, r1, r2⟩ := hS.vc i cur sz' xs' hi
      have hil : i < s.vc.length := (List.getElem?_eq_some_iff.1 hi).1
      refine ⟨G.ν i, ⟨r0, r1, ?_, rfl, rfl, rfl, by simp, fun j e he => ?_⟩, (hr.2.2 _ _ hi).2 rfl⟩
      · rcases r2 with r2 | ⟨b, o, vs, T, k1, k2, k3⟩
        · exact .inl r2
        · exact .inr ⟨b, o, vs, T, k1, ⟨i, k2, List.getElem?_set_self hil⟩, k3⟩
      · by_cases hji : i = j
        · subst hji; rw [List.getElem?_set_self hil] at he; cases he
        · rw [List.getElem?_set_ne hji] at he; exact he
    · cases h
  · split at h
    · rename_i e he
      replace h := bif_some h; obtain ⟨h1, h⟩ := h
      simp only [Option.some.injEq, Prod.mk.injEq] at h
      obtain ⟨rfl, rfl, rfl⟩ := h
      refine ⟨⟨none, 0, sizeT P e⟩, ⟨⟨rfl, blt_lt h1⟩, by simp, .inl ⟨rfl, rfl, rfl⟩, rfl, rfl, rfl, rfl, fun _ _ h => h⟩, ?_⟩
      cases hr; rfl
    · cases h
  · cases h

theorem callM_sound (hF : FOk P) (hc : CallOk P E.call) {c : Call} {g : FuncId} {l : List AV} {tys : List TypeId} {ρ : Type} {K : AV → St → Option ρ} {r : ρ} (hcal : c.callee = .value (.func g)) (hl : c.args.toList.mapM av = some l) (h : callM P E g l tys ty s K = some r) :
    ∃ v s', K v s' = some r ∧ Sound2 P (.call c) ty av s v s' := by
  unfold callM at h
  split at h
  · cases h
  rename_i v l'
  split at h
  rotate_left
  · cases h
  rename_i sz xs s1 ps hg hps
  replace h := bind_some h; obtain ⟨out, ho, h⟩ := h
  obtain ⟨sz', xs', ps', rfl, h'⟩ := takeT_eq h
  refine ⟨_, _, h', fun F w0 M0 G a w o hS hA hop _ => ?_⟩
  obtain ⟨g1, g2⟩ := avs_rel hA hl
  have hsz : (c.args.map a.eval).size = l'.length + 1 := by rw [Array.size_map, ← Array.length_toList, ← g1]; rfl
  obtain ⟨y, ys, hy⟩ : ∃ y ys, c.args.toList = y :: ys := by
    cases he : c.args.toList with
    | nil => have := g1; rw [he] at this; simp at this
    | cons y ys => exact ⟨y, ys, rfl⟩
  have hr0 : ARel G s v (a.eval y) := g2 0 v y rfl (by rw [hy]; rfl)
  obtain ⟨hd, hgift, hu⟩ := giveV_gift hS hr0 hg
  obtain ⟨hb, hs⟩ := hc g _ _ ho (by simp only [List.all_cons, hgift.arg, plain_pv, Bool.and_self])
  have hrun : (execOp a.eval o).run P w = .ok (.enter g (c.args.map a.eval)) w := by
    simp [execOp, hop, resolve, hcal, Act.eval, Deferred.ofValue, invoke, run_callFunc hF hb]
  have hent : Go.AL.enter (.own sz xs :: ps.map .pv) = (.vec 0 0 :: ps.map .pv, SM sz xs) := by
    simp [Go.AL.enter, enterT, enterT_pv, nBox, nVec, nBox_pv, nVec_pv, SM]
  rw [hent] at hs
  obtain ⟨l1, l2⟩ := toPVs_get hps
  have hev : (c.args.map a.eval).toList = a.eval y :: ys.map a.eval := by simp [hy]
  have hyl : ys.length = l'.length := by have := g1; rw [hy] at this; simp at this; omega
  refine OpTo.enter hrun ((hs (FM hd) G.M (GM G hd) w _ (hgift.start hS) ⟨?_, fun i b u e1 e2 => ?_⟩).mono ?_)
  · rw [hsz]; simp [l1]
  · rw [← Array.getElem?_toList, hev] at e2
    cases i with
    | zero =>
      simp only [List.getElem?_cons_zero, Option.some.injEq] at e1 e2
      subst e1; subst e2
      refine ⟨by simp [SM], ⟨_, _, _, hu⟩, fun cur ys' e => ?_⟩
      simp only [SM, List.getElem?_cons_zero, Option.some.injEq, Prod.mk.injEq] at e
      obtain ⟨rfl, rfl⟩ := e
      exact ⟨Nat.le_refl _, fun _ => hu⟩
    | succ i =>
      simp only [List.getElem?_cons_succ] at e1 e2
      rw [List.getElem?_map] at e1
      cases hp : ps[i]? with
      | none => rw [hp] at e1; cases e1
      | some p =>
        rw [hp] at e1
        obtain rfl := Option.some.inj e1
        have hil : i < l'.length := by rw [← l1]; exact (List.getElem?_eq_some_iff.1 hp).1
        obtain ⟨p', r1, r2⟩ := l2 i _ (List.getElem?_eq_getElem hil)
        rw [hp] at r1
        obtain rfl := Option.some.inj r1
        rw [List.getElem?_map] at e2
        have hiy : i < ys.length := by omega
        rw [List.getElem?_eq_getElem hiy] at e2
        obtain rfl := Option.some.inj e2
        have := g2 (i + 1) l'[i] ys[i] (by simp [hil]) (by rw [hy]; simp [hiy])
        exact show PRep G.M p (a.eval ys[i]) from toPV_rel this r2
  · rintro e w' ⟨z, G', s', rfl, q1, q2, _⟩
    obtain ⟨m1, m2, m3⟩ := hgift.absorb hS q1
    obtain ⟨G3, t1, t2, t3⟩ := takeT_rel m1 q1 rfl m3 q2
    exact ⟨z, rfl, G3, t1, m2.trans t2, t3⟩
end
end Go.AL

/- All operations; regions. -/
set_option linter.unusedVariables false
set_option linter.unusedSimpArgs false
namespace Go.AL
open Go.RowKit

section
variable {P : Program} {E : Env} {f : FuncId} {av : Av} {ty : TypeId} {s : St} {ρ : Type}

theorem appendAV_sound (hT : TOk P) {c : Call} {t t' : TypeId} {y z : Operand} {a b : AV} (hc : c.callee = .builtin .append) (ha : c.args.toList = [y, z]) (hty : c.argTypes.toList = [t, t']) (htt : Nat.beq t t' = true) (hy : av y = some a) (hz : av z = some b)
    {K : AV → St → Option ρ} {r : ρ} (h : appendAV P t a b s K = some r) : ∃ v s', K v s' = some r ∧ s'.bx = s.bx ∧ s'.vc = s.vc ∧ s'.nn = s.nn ∧ ∀ s2 : St, s2.tp = s.tp → Sound2 P (.call c) ty av s2 v { s2 with tp := s'.tp } := by
  have hab := list2 ha
  have htb := list2 hty
  obtain rfl := beq_eq htt
  unfold appendAV at h
  split at h
  · cases h
  rename_i e he
  split at h
  · rename_i ys i v xs z0 hl hz0
    split at h
    · rename_i cur sz hi
      replace h := bif_some h; obtain ⟨h1, h⟩ := h
      replace h := bif_some h; obtain ⟨h2, h⟩ := h
      replace h := bif_some h; obtain ⟨h3, h⟩ := h
      simp only [Bool.and_eq_true] at h1
      have e1 := beq_eq h1.1.1.1
      have e2 := beq_eq h1.1.1.2
      subst e1
      refine ⟨_, _, h, rfl, rfl, rfl, fun s2 hs2 => ?_⟩
      have := s_append (ty := ty) (s := s2) hT hc hab htb he hz0 hy hz hl (by rw [hs2]; exact hi) e2 (Nat.le_of_ble_eq_true h1.1.2) (blt_lt h1.2) h2 (by simpa [small] using h3)
      rw [hs2] at this
      exact this
    · cases h
  · rename_i ys z0 hl hz0
    replace h := bif_some h; obtain ⟨h1, h⟩ := h
    replace h := bif_some h; obtain ⟨h2, h⟩ := h
    replace h := bif_some h; obtain ⟨h3, h⟩ := h
    simp only [Bool.and_eq_true] at h1
    refine ⟨_, _, h, rfl, rfl, rfl, fun s2 hs2 => ?_⟩
    have := s_append_nil (ty := ty) (s := s2) hT hc hab htb he hz0 hy hz hl (Nat.le_of_ble_eq_true h1.1.1) (blt_lt h1.1.2) (blt_lt h1.2) h2 (by simpa [small] using h3)
    rw [hs2] at this
    exact this
  · cases h

theorem effS_sound (hT : TOk P) (hF : FOk P) (hc : CallOk P E.call) {x : AS} {op : Op} {dst : Option Tmp} {K : AV → St → Option ρ} {r : ρ} (h : effS P E f x op ty dst K = some r) : ∃ v s', K v s' = some r ∧ Sound2 P op ty (aval x) x.s v s' := by
  unfold effS at h
  split at h
  · -- alloc
    split at h
    · rename_i cs hz; exact ⟨_, _, h, s_alloc hT hz⟩
    · cases h
  · -- box
    split at h
    · rename_i v hv
      split at h
      · rename_i cs hcs
        replace h := bif_some h; obtain ⟨h1, h⟩ := h
        simp only [Bool.and_eq_true] at h1
        exact ⟨_, _, h, s_box hv hcs h1.2⟩
      · cases h
    · cases h
  · -- build
    obtain ⟨v, g1, g2⟩ := s_buildAV (ty := ty) hT h
    exact ⟨v, _, g1, g2 x.s⟩
  · -- makeMap
    split at h
    · exact ⟨_, _, h, s_makeMap⟩
    · cases h
  · -- lookup
    rename_i t0 m0 k0 ok
    split at h
    · rename_i n e i k hm hy hx
      split at h
      · rename_i zf es z hi hz
        replace h := bif_some h; obtain ⟨h1, h⟩ := h
        replace h := bind_some h; obtain ⟨o', hg, h⟩ := h
        replace h := bif_some h; obtain ⟨hfit, h⟩ := h
        have q := s_lookup (ty := ty) hT (ok := ok) hm hy hx hi hz h1 hg hfit
        cases ok with
        | true => exact ⟨_, _, h, q.two⟩
        | false => exact ⟨_, _, h, q.two⟩
      · cases h
    · cases h
  · -- mapUpdate
    split at h
    · rename_i n e i k v hm hy hx hv
      split at h
      · cases h
      · rename_i es v' _ hi hv'
        replace h := bif_some h; obtain ⟨h1, h⟩ := h
        replace h := bind_some h; obtain ⟨es', hg, h⟩ := h
        exact ⟨_, _, h, s_mapUpdate hm hy hx hv hv' hi h1 hg (.inl rfl)⟩
      · cases h
    · cases h
  · -- insert
    split at h
    · rename_i n e i k v hm hy hx hv
      split at h
      · cases h
      · rename_i es v' _ hi hv'
        replace h := bif_some h; obtain ⟨h1, h⟩ := h
        replace h := bind_some h; obtain ⟨es', hg, h⟩ := h
        exact ⟨_, _, h, s_mapUpdate hm hy hx hv hv' hi h1 hg (.inr rfl)⟩
      · cases h
    · cases h
  · -- load
    split at h
    · rename_i a ha
      cases hk : aggAt E f dst with
      | true =>
        rw [hk] at h
        simp only [cond_true, cond_false] at h
        obtain ⟨v, g1, g2⟩ := loadAgg_sound (ty := ty) hT ha h
        exact ⟨v, _, g1, g2.two⟩
      | false =>
        rw [hk] at h
        simp only [cond_true, cond_false] at h
        obtain ⟨v, g1, g2⟩ := loadAV_sound (ty := ty) hT ha h
        exact ⟨v, _, g1, g2.two⟩
    · cases h
  · -- store
    split at h
    · rename_i a v ha hv
      obtain ⟨s', g1, g2⟩ := storeAV_sound (ty := ty) hT ha hv h
      exact ⟨_, s', g1, g2⟩
    · cases h
  · -- makeSlice
    split at h
    · rename_i e n m he hn hm
      split at h
      · rename_i z hz
        replace h := bif_some h; obtain ⟨h1, h⟩ := h
        simp only [Bool.and_eq_true, decide_eq_true_eq] at h1
        obtain ⟨⟨⟨⟨h1, h2⟩, h3⟩, h4⟩, h5⟩ := h1
        obtain ⟨g1, g2⟩ := s_makeSlice (ty := ty) (s := x.s) hT he hz hn hm h1 h2 h3 (Nat.le_of_ble_eq_true h4) (blt_lt h5)
        split at h
        · rename_i d
          cases hk : Nat.beq (E.kind f d) 1 with
          | true => rw [hk] at h; exact ⟨_, _, h, g2⟩
          | false => rw [hk] at h; exact ⟨_, _, h, g1⟩
        · cases h
      · cases h
    · cases h
  · -- buildSlice
    split at h
    · rename_i e he
      split at h
      · rename_i z ps hz hps
        replace h := bif_some h; obtain ⟨h1, h⟩ := h
        simp only [Bool.and_eq_true] at h1
        split at h
        · rename_i xs d hxs
          obtain ⟨g1, g2⟩ := s_buildVec (ty := ty) (s := x.s) hT he hz hps (Nat.le_of_ble_eq_true h1.1) (blt_lt h1.2) hxs
          cases hk : Nat.beq (E.kind f d) 2 with
          | true => rw [hk] at h; exact ⟨_, _, h, g1⟩
          | false => rw [hk] at h; exact ⟨_, _, h, g2⟩
        · cases h
      · cases h
    · cases h
  · -- indexAddr
    split at h
    · rename_i e j ver i he hj hi
      split at h
      · rename_i cur sz xs hv
        replace h := bif_some h; obtain ⟨h1, h⟩ := h
        replace h := bif_some h; obtain ⟨h2, h⟩ := h
        simp only [Bool.and_eq_true, decide_eq_true_eq] at h1 h2
        have e1 := beq_eq h1.1
        subst e1
        exact ⟨_, _, h, s_index_vec hT he hj hi hv (beq_eq h1.2) h2.1 h2.2⟩
      · cases h
    · cases h
  · -- slice
    split at h
    · rename_i e j ver lo hi he hj hlo hhi
      split at h
      · rename_i cur sz xs hv
        replace h := bif_some h; obtain ⟨h1, h⟩ := h
        simp only [Bool.and_eq_true] at h1
        have e1 := beq_eq h1.1
        subst e1
        cases hk5 : kindIs E f dst 5 with
        | true =>
          rw [hk5] at h
          simp only [cond_true] at h
          obtain ⟨g1, g2⟩ := sliceL_eq h
          exact ⟨_, _, g2, s_slice_win hT he hj hlo hhi hv (beq_eq h1.2) g1⟩
        | false =>
          rw [hk5] at h
          simp only [cond_false] at h
          obtain ⟨g1, g2⟩ := sliceL_eq h
          exact ⟨_, _, g2, s_slice_vec hT he hj hlo hhi hv (beq_eq h1.2) g1⟩
      · cases h
    · cases h
  · -- makeFunc
    replace h := bif_some h; obtain ⟨h1, h⟩ := h
    split at h
    · rename_i l hl
      split at h
      · rename_i ps s' hps
        exact ⟨_, _, h, s_makeFunc2 h1 hl hps⟩
      · cases h
    · cases h
  · -- call
    rename_i c
    split at h
    · -- append
      rename_i hcal
      split at h
      · rename_i a b t t' ha ht
        replace h := bif_some h; obtain ⟨h1, h⟩ := h
        split at h
        · rename_i j ver b' ha' hb'
          exact appendVec_sound hT hcal ha ht h1 ha' hb' h
        · rename_i b' ha' hb'
          cases hk2 : kindIs E f dst 2 with
          | true =>
            rw [hk2] at h
            simp only [cond_true] at h
            unfold appendNilV at h
            split at h
            · cases h
            rename_i e he
            split at h
            · rename_i ys z0 hl hz0
              replace h := bif_some h; obtain ⟨h3, h⟩ := h
              replace h := bif_some h; obtain ⟨h2, h⟩ := h
              replace h := bif_some h; obtain ⟨h4, h⟩ := h
              simp only [Bool.and_eq_true] at h3
              have htt := beq_eq h1
              subst htt
              exact ⟨_, _, h, s_append_nilV (ty := ty) (s := x.s) hT hcal (list2 ha) (list2 ht) he hz0 ha' hb' hl (Nat.le_of_ble_eq_true h3.1.1) (blt_lt h3.1.2) (blt_lt h3.2) h2 (by simpa [small] using h4)⟩
            · cases h
          | false =>
          rw [hk2] at h
          simp only [cond_false] at h
          obtain ⟨v, s', g1, g2, g3, g4⟩ := appendAV_sound (ty := ty) hT hcal ha ht h1 ha' hb' h
          refine ⟨v, s', g1, ?_⟩
          have := g4.2 x.s rfl
          have g5 := g4.1
          obtain ⟨bx, vc, tp, nr, nv⟩ := s'
          simp only [St.nn, Prod.mk.injEq] at g2 g3 g5 this
          obtain ⟨g6, g7⟩ := g5
          subst g2; subst g3; subst g6; subst g7
          exact this
        · rename_i a' b' _ _ ha' hb'
          obtain ⟨v, s', g1, g2, g3, g4⟩ := appendAV_sound (ty := ty) hT hcal ha ht h1 ha' hb' h
          refine ⟨v, s', g1, ?_⟩
          have := g4.2 x.s rfl
          have g5 := g4.1
          obtain ⟨bx, vc, tp, nr, nv⟩ := s'
          simp only [St.nn, Prod.mk.injEq] at g2 g3 g5 this
          obtain ⟨g6, g7⟩ := g5
          subst g2; subst g3; subst g6; subst g7
          exact this
        · cases h
      · cases h
    · -- len
      rename_i hcal
      split at h
      · rename_i a t ha ht
        split at h
        · rename_i e j ver hu hv
          split at h
          · rename_i cur o1 xs hj
            replace h := bif_some h; obtain ⟨h1, h⟩ := h
            have e1 := beq_eq h1
            subst e1
            exact ⟨_, _, h, s_len_vec hcal (list1 ha) (by rw [list1 ht]; rfl) hu hv hj⟩
          · cases h
        · cases h
      · cases h
    · -- clear
      rename_i hcal
      split at h
      · rename_i a t ha ht
        split at h
        · rename_i j ver lo hi e hv he
          split at h
          · rename_i cur sz xs z hj hz
            replace h := bif_some h; obtain ⟨h1, h⟩ := h
            simp only [Bool.and_eq_true] at h1
            have e1 := beq_eq h1.1.1
            subst e1
            have e2 := beq_eq h1.1.2
            subst e2
            exact ⟨_, _, h, s_clear_win hT hcal (list1 ha) (by rw [list1 ht]; rfl) he hz h1.2 hv hj⟩
          · cases h
        · cases h
      · cases h
    · cases h
    · cases h
    · -- a function
      rename_i g hcal
      split at h
      · rename_i l hl
        cases hmv : E.moved g with
        | true =>
          rw [hmv] at h
          simp only [cond_true] at h
          exact callM_sound hF hc hcal hl h
        | false =>
        rw [hmv] at h
        simp only [cond_false] at h
        cases href : anyRef E g 0 l with
        | true =>
          rw [href] at h
          simp only [cond_true] at h
          exact callR_sound hF hc hcal hl h
        | false =>
        rw [href] at h
        simp only [cond_false] at h
        cases hlend : lendAt E f dst with
        | true =>
        rw [hlend] at h
        simp only [cond_true] at h
        split at h
        · rename_i ps s1 d hp
          split at h
          · rename_i e _ _
            replace h := bind_some h; obtain ⟨out, ho, h⟩ := h
            replace h := bind_some h; obtain ⟨xs, hx, h⟩ := h
            replace h := bif_some h; obtain ⟨hfit, h⟩ := h
            simp only [Bool.and_eq_true, Bool.not_eq_true'] at hfit
            exact ⟨_, _, h, s_lend1 hF hc hcal hl hp ho hx hfit.1.1 (fun l e => by have := hfit.1.2; rw [e] at this; cases this) hfit.2⟩
          · replace h := bind_some h; obtain ⟨out, ho, h⟩ := h
            replace h := bind_some h; obtain ⟨p, hp', h⟩ := h
            replace h := bif_some h; obtain ⟨hfit, h⟩ := h
            simp only [Bool.and_eq_true] at hfit
            rw [Sh.view_eq _ _ hfit.2] at h
            exact ⟨_, _, h, s_lend0 hF hc hcal hl hp ho hp' hfit.1 hfit.2⟩
        · cases h
        | false =>
        rw [hlend] at h
        simp only [cond_false] at h
        split at h
        · rename_i as ids s1 hp
          replace h := bif_some h; obtain ⟨hn, h⟩ := h
          split at h
          · rename_i d
            split at h
            · rename_i e _ _
              replace h := bind_some h; obtain ⟨out, ho, h⟩ := h
              replace h := bind_some h; obtain ⟨xs, hx, h⟩ := h
              exact ⟨_, _, h, s_call2 hF hc hcal hl hp hn ho hx⟩
            · rename_i e _ _
              replace h := bind_some h; obtain ⟨out, ho, h⟩ := h
              replace h := bind_some h; obtain ⟨xs, hx, h⟩ := h
              exact ⟨_, _, h, s_call1 hF hc hcal hl hp hn ho hx⟩
            · replace h := bind_some h; obtain ⟨out, ho, h⟩ := h
              obtain ⟨sz', xs', ps', rfl, h'⟩ := takeT_eq h
              exact ⟨_, _, h', s_call6 hF hc hcal hl hp hn ho⟩
            · replace h := bind_some h; obtain ⟨out, ho, h⟩ := h
              replace h := bind_some h; obtain ⟨p, hp', h⟩ := h
              replace h := bif_some h; obtain ⟨hfit, h⟩ := h
              rw [Sh.view_eq _ _ hfit] at h
              exact ⟨_, _, h, s_call0 hF hc hcal hl hp hn ho hp'⟩
          · cases h
        · cases h
      · cases h
    · cases h
  · cases h

variable {F : Fr} {w0 : World} {M0 : Mem} {G : Gh} {w : World} {x : AS} {a : Act}

theorem eff_sound (hT : TOk P) (hF : FOk P) (hc : CallOk P E.call) {o : Oper} {K : AV → St → Option ρ} {r : ρ} (h : eff P E f o x K = some r) (hR : R F w0 M0 G x a w) :
    ∃ v s', K v s' = some r ∧ OpTo P o a w fun u w' => ∃ G', SRel F w0 M0 G' s' w' ∧ Ext G x.s G' s' ∧ ARel G' s' v u := by
  unfold eff at h
  have hA : Avs (aval x) G x.s a := fun y b hy => aval_rel hR.T hy
  cases hp : (plain E f o || vecFree (aval x) o.op) with
  | true =>
    rw [hp] at h
    obtain ⟨v, g1, g2⟩ := effP_sound (dst := o.dst) hT hF hc h
    exact ⟨v, _, g1, g2 F w0 M0 G x.s a w o hR.S hA rfl rfl⟩
  | false =>
    rw [hp] at h
    obtain ⟨v, s', g1, g2⟩ := effS_sound hT hF hc h
    exact ⟨v, s', g1, g2 F w0 M0 G a w o hR.S hA rfl rfl⟩

theorem wanted_none {o : Oper} (h : o.guard = none) (f : Nat → Option Bool) : Region.wanted o f = true := by simp [Region.wanted, h]
theorem wanted_some {o : Oper} {j : Nat} {want : Bool} (h : o.guard = some (j, want)) (f : Nat → Option Bool) : Region.wanted o f = (f j == some want) := by simp [Region.wanted, h]

theorem yielded_of {all : Array Oper} {tm : Array Value} {j d : Nat} (h : (all[j]?).bind (·.dst) = some d) (v : Value) (hv : tm[d]? = some v) : yielded all tm j = match v with | .bool b => some b | _ => none := by
  unfold yielded
  rw [h]
  simp only [Option.bind_some, hv]
  cases v <;> rfl

theorem R.at (hR : R F w0 M0 G x a w) {d : Nat} {b : AV} (h : x.t[d]? = some b) : ∃ v, a.tmps[d]? = some v ∧ ARel G x.s b v := by
  have hl : d < a.tmps.size := by rw [hR.T.1]; exact (List.getElem?_eq_some_iff.1 h).1
  exact ⟨_, Array.getElem?_eq_getElem hl, hR.T.2 d b _ h (Array.getElem?_eq_getElem hl)⟩

theorem R.refine (hR : R F w0 M0 G x a w) {d : Nat} {v : Value} {b : AV} (hv : a.tmps[d]? = some v) (hb : ARel G x.s b v) : R F w0 M0 G (x.put (some d) b) a w := by
  refine ⟨hR.S, ⟨by simpa [AS.put] using hR.T.1, fun i c u h1 h2 => ?_⟩, hR.D⟩
  simp only [AS.put] at h1
  by_cases hd : d = i
  · subst hd
    have hl : d < x.t.length := by rw [← hR.T.1]; exact (Array.getElem?_eq_some_iff.1 hv).1
    rw [List.getElem?_set_self hl] at h1
    obtain rfl := Option.some.inj h1
    rw [hv] at h2
    obtain rfl := Option.some.inj h2
    exact hb
  · rw [List.getElem?_set_ne hd] at h1
    exact hR.T.2 i c u h1 h2

theorem R.skip (hR : R F w0 M0 G x a w) (dst : Option Tmp) : R F w0 M0 G (x.put dst .undef) (a.put dst undef) w :=
  R.put hR hR.S (Ext.refl _ _) dst (b := .undef) (v := undef) rfl

theorem effs_sound (hT : TOk P) (hF : FOk P) (hc : CallOk P E.call) {all : Array Oper} {Q : Exit → Act → World → Prop} : ∀ {ops : List Oper} {x : AS} {K : AS → Option ρ} {r : ρ} {G : Gh} {a : Act} {w : World}, effs P E f all ops x K = some r → R F w0 M0 G x a w →
    (∀ y G a w, K y = some r → R F w0 M0 G y a w → Q .normal a w) → wpList P all Q ops a w
  | [], x, K, r, G, a, w, h, hR, hK => hK x G a w h hR
  | o :: rest, x, K, r, G, a, w, h, hR, hK => by
    have go : ∀ {x' : AS}, R F w0 M0 G x' a w → eff P E f o x' (fun v s => effs P E f all rest ({ x' with s := s }.put o.dst v) K) = some r → Region.wanted o (yielded all a.tmps) = true → wpList P all Q (o :: rest) a w := by
      intro x' hR' h' hw
      obtain ⟨v, s', g1, g2⟩ := eff_sound hT hF hc h' hR'
      unfold wpList
      rw [if_pos hw]
      exact .inl (g2 _ _ fun u w' ⟨G', k1, k2, k3⟩ => effs_sound hT hF hc g1 (R.put hR' k1 k2 o.dst k3) hK)
    have no : ∀ {x' : AS}, R F w0 M0 G x' a w → effs P E f all rest (x'.put o.dst .undef) K = some r → Region.wanted o (yielded all a.tmps) = false → wpList P all Q (o :: rest) a w := by
      intro x' hR' h' hw
      unfold wpList
      rw [if_neg (by rw [hw]; simp)]
      exact effs_sound hT hF hc h' (hR'.skip o.dst) hK
    simp only [effs] at h
    split at h
    · rename_i hg
      exact go hR h (wanted_none hg _)
    · rename_i j want hg
      split at h
      · cases h
      · rename_i d hd
        split at h
        · rename_i g hx
          obtain ⟨v, hv, hb⟩ := hR.at hx
          cases rep_bool hb
          have hy := yielded_of hd _ hv
          simp only at hy
          have hr := hR.refine hv (b := .pv (.bool g)) hb
          cases g with
          | true =>
            simp only [cond_true] at h
            cases want with
            | true => exact go hr h (by rw [wanted_some hg, hy]; rfl)
            | false => exact no hr h (by rw [wanted_some hg, hy]; rfl)
          | false =>
            simp only [cond_false] at h
            cases want with
            | true => exact no hr h (by rw [wanted_some hg, hy]; rfl)
            | false => exact go hr h (by rw [wanted_some hg, hy]; rfl)
        · rename_i hx
          obtain ⟨v, hv, hb⟩ := hR.at hx
          have hb' : v = undef := hb
          subst hb'
          have hy := yielded_of hd _ hv
          exact no hR h (by rw [wanted_some hg, hy]; rfl)
        · cases h
end
end Go.AL

/- Code, and calls. -/
set_option linter.unusedVariables false
set_option linter.unusedSimpArgs false
namespace Go.AL
open Go.RowKit

structure Good {ρ : Type} (F : Fr) (w0 : World) (M0 : Mem) (k : Ks ρ) (r : ρ) (Q : Exit → Act → World → Prop) : Prop where
  normal : ∀ y G a w, k.normal y = some r → R F w0 M0 G y a w → Q .normal a w
  exits : ∀ i y G a w, exitK k.exits i y = some r → R F w0 M0 G y a w → Q (.exit i) a w
  ret : ∀ y G a w, k.ret y = some r → R F w0 M0 G y a w → Q .ret a w

/-- What a region whose order is drawn comes to. -/
def DrawOk (P : Program) (E : Env) (f : FuncId) (ρ : Type) : Prop :=
  ∀ (F : Fr) (w0 : World) (M0 : Mem) (G : Gh) (id : Nat) (ops : Array Oper) (x : AS) (K : AS → Option ρ) (r : ρ) (a : Act) (w : World) (Q : Exit → Act → World → Prop), draw P E f ops x K = some r → R F w0 M0 G x a w →
    (∀ y G' a w, K y = some r → R F w0 M0 G' y a w → (∀ b z, ARel G x.s b z → ARel G' y.s b z) → Q .normal a w) → (Code.region id ops true).wp P Q a w

section
variable {P : Program} {E : Env} {f : FuncId} {ρ : Type} {F : Fr} {w0 : World} {M0 : Mem}

theorem exec_sound (hT : TOk P) (hF : FOk P) (hc : CallOk P E.call) (hD : DrawOk P E f ρ) {n : Nat} : ∀ (c : Code) {bid : Nat} {ct : Cuts} {k : Ks ρ} {x : AS} {r : ρ} {G : Gh} {a : Act} {w : World} {Q : Exit → Act → World → Prop}, exec P E f n c bid ct k x = some r → R F w0 M0 G x a w → Good F w0 M0 k r Q → c.wp P Q a w := by
  intro c
  induction c with
  | skip => intro bid ct k x r G a w Q h hR hG; exact wp_skip (hG.normal x G a w h hR)
  | label l => intro bid ct k x r G a w Q h hR hG; exact wp_label (hG.normal x G a w h hR)
  | region id ops drawn =>
    intro bid ct k x r G a w Q h hR hG
    cases drawn with
    | true => exact hD F w0 M0 G id ops x k.normal r a w Q h hR fun y G' a w e q _ => hG.normal y G' a w e q
    | false => exact wp_region_list (effs_sound hT hF hc h hR hG.normal)
  | seq c1 c2 ih1 ih2 =>
    intro bid ct k x r G a w Q h hR hG
    refine wp_seq (ih1 h hR ⟨fun y G a w hy hR' => ?_, hG.exits, hG.ret⟩)
    cases hct : here (down 1 ct) with
    | none => rw [hct] at hy; exact ih2 hy hR' hG
    | some hd =>
      rw [hct] at hy
      replace hy := bind_some hy
      obtain ⟨y1, hy1, hy⟩ := hy
      obtain ⟨G1, hR1⟩ := R.head hR' hy1
      exact ih2 hy hR1 hG
  | cond c c1 c2 ih1 ih2 =>
    intro bid ct k x r G a w Q h hR hG
    simp only [exec] at h
    split at h
    · rename_i b hb
      have := rep_bool (aval_rel hR.T hb)
      refine wp_cond this ?_
      cases b with
      | true => exact ih1 h hR hG
      | false => exact ih2 h hR hG
    · cases h
  | block i c ih =>
    intro bid ct k x r G a w Q h hR hG
    refine wp_block (ih h hR ⟨hG.normal, fun j y G a w hy hR' => ?_, hG.ret⟩)
    simp only [exitK] at hy
    simp only [Exit.inBlock]
    cases hb : Nat.beq i j with
    | true =>
      rw [hb] at hy
      rw [if_pos (beq_eq hb).symm]
      exact hG.normal y G a w hy hR'
    | false =>
      rw [hb] at hy
      rw [if_neg (by rintro rfl; rw [Nat.beq_refl] at hb; cases hb)]
      exact hG.exits j y G a w hy hR'
  | loop c ih =>
    intro bid ct k x r G a w Q h hR hG
    simp only [exec] at h
    split at h
    · rename_i hd hh
      replace h := bind_some h; obtain ⟨x1, hx1, h⟩ := h
      obtain ⟨G1, hR1⟩ := R.head hR hx1
      refine wp_loop_rounds n ?_
      clear hx1 hR
      have key : ∀ (m : Nat) (x1 : AS) (G1 : Gh) (a : Act) (w : World), (Nat.rec (motive := fun _ => AS → Option ρ) (fun _ => none) (fun _ again x => exec P E f n c bid (down 5 ct) { k with normal := fun x => (x.head hd).bind again } x) m x1) = some r → R F w0 M0 G1 x1 a w → Code.rounds P c Q m a w := by
        intro m
        induction m with
        | zero => intro x1 G1 a w h _; cases h
        | succ m ihm =>
          intro x1 G1 a w h hR1
          rw [rounds_succ]
          refine ih h hR1 ⟨fun y G a w hy hR' => ?_, hG.exits, hG.ret⟩
          replace hy := bind_some hy; obtain ⟨y1, hy1, hy⟩ := hy
          obtain ⟨G2, hR2⟩ := R.head hR' hy1
          exact ihm y1 G2 a w hy hR2
      exact key n x1 G1 a w h hR1
    · cases h
  | exit i => intro bid ct k x r G a w Q h hR hG; exact wp_exit (hG.exits i x G a w h hR)
  | ret => intro bid ct k x r G a w Q h hR hG; exact wp_ret (hG.ret x G a w h hR)
  | _ => intros; rename_i h _ _; cases h

/-! ### Results -/
theorem loadAV_ptr {ρ : Type} {t : TypeId} {b : AV} {s : St} {K : AV → Option ρ} {r : ρ} (h : loadAV P t b s K = some r) {G : Gh} {u : Value} (hr : ARel G s b u) : ∃ ad, u = .pointer (some ad) := by
  unfold loadAV at h
  split at h
  · cases h
  split at h
  · obtain ⟨ad, vs, e, _⟩ := rep_ptr hr; exact ⟨ad, e⟩
  · obtain ⟨_, b, _, e⟩ := hr; exact ⟨_, e⟩
  · obtain ⟨_, ⟨q, e⟩, _⟩ := hr; exact ⟨_, e⟩
  · cases h

theorem run_loadVar (hT : TOk P) {t : TypeId} {b v : AV} {s : St} {G : Gh} {w : World} (hS : SRel F w0 M0 G s w) {u : Value} (hr : ARel G s b u) (h : loadAV P t b s some = some v) : ∃ ad z, u = .pointer (some ad) ∧ (loadVar t ad).run P w = .ok z w ∧ ARel G s v z := by
  obtain ⟨ad, rfl⟩ := loadAV_ptr h hr
  obtain ⟨v', g1, g2⟩ := loadAV_sound (ty := 0) (av := fun y => match y with | .tmp 0 => some b | _ => none) (y := .tmp 0) hT rfl h
  obtain rfl := Option.some.inj g1
  obtain ⟨z, q1, q2⟩ := g2 F w0 M0 G { tmps := #[.pointer (some ad)], defers := [] } w ⟨none, .load t (.tmp 0), 0, "", #[], none⟩ hS (fun y c hy => by
    simp only at hy
    split at hy
    · obtain rfl := Option.some.inj hy; exact hr
    · cases hy) rfl rfl
  refine ⟨ad, z, rfl, ?_, q2⟩
  simp only [execOp, Act.eval, Instr.loadAt] at q1
  simp only [Array.getD, List.size_toArray, List.length_cons, List.length_nil, Nat.zero_add, Nat.lt_add_one, dite_true] at q1
  simp [Instr.sureAddr] at q1
  cases hrun : (loadVar t ad).run P w with
  | ok z' w' => rw [hrun] at q1; simp at q1; obtain ⟨rfl, rfl⟩ := q1; rfl
  | halt x w' => rw [hrun] at q1; simp at q1

theorem run_loadAgg (hT : TOk P) {t : TypeId} {b v : AV} {s : St} {G : Gh} {w : World} (hS : SRel F w0 M0 G s w) {u : Value} (hr : ARel G s b u) (h : loadAgg P t b s some = some v) : ∃ ad z, u = .pointer (some ad) ∧ (loadVar t ad).run P w = .ok z w ∧ ARel G s v z := by
  obtain ⟨ad, rfl⟩ : ∃ ad, u = .pointer (some ad) := by
    unfold loadAgg at h
    split at h
    · obtain ⟨_, b, _, e⟩ := hr; exact ⟨_, e⟩
    · cases h
  obtain ⟨v', g1, g2⟩ := loadAgg_sound (ty := 0) (av := fun y => match y with | .tmp 0 => some b | _ => none) (y := .tmp 0) hT rfl h
  obtain rfl := Option.some.inj g1
  obtain ⟨z, q1, q2⟩ := g2 F w0 M0 G { tmps := #[.pointer (some ad)], defers := [] } w ⟨none, .load t (.tmp 0), 0, "", #[], none⟩ hS (fun y c hy => by
    simp only at hy
    split at hy
    · obtain rfl := Option.some.inj hy; exact hr
    · cases hy) rfl rfl
  refine ⟨ad, z, rfl, ?_, q2⟩
  simp only [execOp, Act.eval, Instr.loadAt] at q1
  simp only [Array.getD, List.size_toArray, List.length_cons, List.length_nil, Nat.zero_add, Nat.lt_add_one, dite_true] at q1
  simp [Instr.sureAddr] at q1
  cases hrun : (loadVar t ad).run P w with
  | ok z' w' => rw [hrun] at q1; simp at q1; obtain ⟨rfl, rfl⟩ := q1; rfl
  | halt x w' => rw [hrun] at q1; simp at q1

theorem mapM_step {f : ResultVar → Sem Value} {r : ResultVar} {l : List ResultVar} {z : Value} {us : List Value} {w : World} (h1 : (f r).run P w = .ok z w) (h2 : (l.mapM f).run P w = .ok us w) : ((r :: l).mapM f).run P w = .ok (z :: us) w := by
  rw [List.mapM_cons]; simp [h1, h2]

theorem resAVs_rel (hT : TOk P) {G : Gh} {x : AS} {a : Act} {w : World} (hR : R F w0 M0 G x a w) : ∀ {keep : Bool} {l : List ResultVar} {bs : List AV}, resAVs P keep x l = some bs → ∃ us : List Value, LRel G x.s bs us ∧
    (l.mapM fun (r : ResultVar) => (match r with | .tmp t => pure (a.tmps.getD t undef) | .cell c t => do loadVar t (← asAddr (a.tmps.getD c undef)) : Sem Value)).run P w = .ok us w
  | keep, [], bs, h => by obtain rfl := Option.some.inj h; exact ⟨[], ⟨rfl, by simp⟩, by simp⟩
  | keep, r :: l, bs, h => by
    simp only [resAVs] at h
    split at h
    · rename_i v vs hv hvs
      obtain rfl := Option.some.inj h
      obtain ⟨us, g1, g2⟩ := resAVs_rel hT hR hvs
      cases r with
      | tmp t =>
        obtain ⟨u, hu, hb⟩ := hR.at hv
        have hg : a.tmps.getD t undef = u := by
          have hl := (Array.getElem?_eq_some_iff.1 hu).1
          simp only [Array.getD, hl, dite_true]
          rw [Array.getElem?_eq_getElem hl] at hu
          exact Option.some.inj hu
        refine ⟨u :: us, LRel.cons hb g1, mapM_step (z := u) ?_ g2⟩
        show (pure (a.tmps.getD t undef) : Sem Value).run P w = _
        rw [hg]
        rfl
      | cell c t =>
        simp only [resAV] at hv
        split at hv
        · rename_i b hb
          obtain ⟨u, hu, hr⟩ := hR.at hb
          have hg : a.tmps.getD c undef = u := by
            have hl := (Array.getElem?_eq_some_iff.1 hu).1
            simp only [Array.getD, hl, dite_true]
            rw [Array.getElem?_eq_getElem hl] at hu
            exact Option.some.inj hu
          obtain ⟨ad, z, rfl, q1, q2⟩ : ∃ ad z, u = .pointer (some ad) ∧ (loadVar t ad).run P w = .ok z w ∧ ARel G x.s v z := by
            cases hkp : keep with
            | true =>
              rw [hkp] at hv
              simp only [cond_true] at hv
              split at hv
              · rename_i r hr'
                obtain rfl := Option.some.inj hv
                exact run_loadAgg hT hR.S hr hr'
              · exact run_loadVar hT hR.S hr hv
            | false =>
              rw [hkp] at hv
              simp only [cond_false] at hv
              split at hv
              · rename_i r hr'
                obtain rfl := Option.some.inj hv
                exact run_loadVar hT hR.S hr hr'
              · exact run_loadAgg hT hR.S hr hv
          refine ⟨z :: us, LRel.cons q2 g1, mapM_step (z := z) ?_ g2⟩
          show (asAddr (a.tmps.getD c undef) >>= fun ad => loadVar t ad).run P w = _
          rw [hg]
          simp [asAddr, q1]
        · cases hv
    · cases h

theorem refs_eq {s s' : St} (h1 : s'.bx = s.bx) (h2 : s'.nn = s.nn) (h3 : s'.vc.take s.nv = s.vc.take s.nv) : refs s' = refs s := by
  simp only [St.nn, Prod.mk.injEq] at h2
  unfold refs
  rw [h1, h2.1, h2.2, h3]
theorem pubAll_bx : ∀ {l : List AV} {s s1 : St} {ps : List PV}, pubAll l s = some (ps, s1) → s1.bx = s.bx ∧ s1.nn = s.nn
  | [], s, s1, ps, h => by
    simp only [pubAll, Option.some.injEq, Prod.mk.injEq] at h
    obtain ⟨rfl, rfl⟩ := h
    exact ⟨rfl, rfl⟩
  | v :: l, s, s1, ps, h => by
    simp only [pubAll] at h
    split at h
    · rename_i p is s3 hp
      split at h
      · rename_i ps' s4 hps
        simp only [Option.some.injEq, Prod.mk.injEq] at h
        obtain ⟨rfl, rfl⟩ := h
        obtain ⟨g1, g2⟩ := pubAll_bx hps
        have : s3.bx = s.bx ∧ s3.nn = s.nn := by
          cases v with
          | vec i ver =>
            simp only [pass] at hp
            split at hp
            · replace hp := bif_some hp
              obtain ⟨h1, hp⟩ := hp
              simp only [Option.some.injEq, Prod.mk.injEq] at hp
              obtain ⟨h3, rfl, rfl⟩ := hp
              exact ⟨rfl, rfl⟩
            · cases hp
          | win i ver lo hi =>
            simp only [pass] at hp
            split at hp
            · replace hp := bif_some hp
              obtain ⟨h1, hp⟩ := hp
              simp only [Option.some.injEq, Prod.mk.injEq] at hp
              obtain ⟨h3, rfl, rfl⟩ := hp
              exact ⟨rfl, rfl⟩
            · cases hp
          | _ =>
            simp only [pass] at hp
            split at hp
            · simp only [Option.some.injEq, Prod.mk.injEq] at hp
              obtain ⟨h3, rfl, rfl⟩ := hp
              exact ⟨rfl, rfl⟩
            · cases hp
        exact ⟨g1.trans this.1, g2.trans this.2⟩
      · cases h
    · cases h
theorem nv_le {G : Gh} {s : St} {w : World} (hS : SRel F w0 M0 G s w) : s.nv ≤ s.vc.length := by
  rcases Nat.lt_or_ge s.vc.length s.nv with h | h
  · have := (hS.rv s.vc.length h).1; omega
  · exact h

theorem nilHd_spec : ∀ {cs : List AV} {ps : List PV}, nilHd cs ps = ps ∨ ∃ cl p l, cs = .pv .nils :: cl ∧ ps = p :: l ∧ nilHd cs ps = .nils :: l
  | [], ps => .inl (by cases ps <;> rfl)
  | c :: cl, [] => .inl (by unfold nilHd; split <;> simp_all)
  | c :: cl, p :: l => by
    unfold nilHd
    split
    · rename_i h1 h2
      simp only [List.cons.injEq] at h1 h2
      obtain ⟨rfl, rfl⟩ := h1
      obtain ⟨rfl, rfl⟩ := h2
      exact .inr ⟨_, _, _, rfl, rfl, rfl⟩
    · exact .inl rfl
theorem keepHd_len {k : Bool} {cs : List AV} {ps : List PV} : (keepHd k cs ps).length = ps.length := by
  unfold keepHd
  cases k with
  | false => rfl
  | true =>
    rcases nilHd_spec (cs := cs) (ps := ps) with h | ⟨cl, p, l, rfl, rfl, h⟩
    · rw [h]; rfl
    · rw [h]; rfl
theorem keepHd_get {k : Bool} {cs : List AV} {ps : List PV} {i : Nat} {q : PV} (h : (keepHd k cs ps)[i]? = some q) : ps[i]? = some q ∨ i = 0 ∧ q = .nils ∧ cs[0]? = some (.pv .nils) := by
  unfold keepHd at h
  cases k with
  | false => exact .inl h
  | true =>
    simp only [cond_true] at h
    rcases nilHd_spec (cs := cs) (ps := ps) with e | ⟨cl, p, l, rfl, rfl, e⟩
    · rw [e] at h; exact .inl h
    · rw [e] at h
      cases i with
      | zero => simp at h; exact .inr ⟨rfl, h.symm, rfl⟩
      | succ i => exact .inl (by simpa using h)
theorem outOf_rel {G : Gh} {s : St} {w : World} (hS : SRel F w0 M0 G s w) {ty : TypeId} {b : AV} {v : Value} {out : Out} (hr : ARel G s b v) (h : outOf P E f ty b s = some out) : ∃ G' s', SRel F w0 M0 G' s' w ∧ (s'.bx = s.bx ∧ s'.nn = s.nn ∧ s'.vc.take s.nv = s.vc.take s.nv) ∧ ∀ rs, OutRel G' s' (out.1, rs) v := by
  unfold outOf at h
  split at h
  · cases hk : E.keepNil f with
    | true => rw [hk] at h; obtain rfl := Option.some.inj h; exact ⟨G, s, hS, ⟨rfl, rfl, rfl⟩, fun _ => hr⟩
    | false =>
      rw [hk] at h
      simp only [cond_false] at h
      split at h
      · replace h := bif_some h; obtain ⟨h1, h⟩ := h
        cases hrv : E.retVec f with
        | false =>
          rw [hrv] at h
          obtain rfl := Option.some.inj h
          exact ⟨G, s, hS, ⟨rfl, rfl, rfl⟩, fun _ => .inl ⟨rfl, rep_nils hr, blt_lt h1⟩⟩
        | true =>
          rw [hrv] at h
          obtain rfl := Option.some.inj h
          obtain ⟨G3, q1, q2, q3⟩ := hS.attachVec (hd := ⟨none, 0, _⟩) (xs := []) (blt_lt h1) (by simp) (.inl ⟨rfl, rfl, rfl⟩)
          rw [rep_nils hr]
          exact ⟨G3, _, q1, ⟨rfl, rfl, List.take_append_of_le_length (nv_le hS)⟩, fun _ => ⟨s.vc.length, 0, by simp; rfl, q3, nv_le hS⟩⟩
      · obtain rfl := Option.some.inj h; exact ⟨G, s, hS, ⟨rfl, rfl, rfl⟩, fun _ => hr⟩
  · obtain rfl := Option.some.inj h; exact ⟨G, s, hS, ⟨rfl, rfl, rfl⟩, fun _ => hr⟩
  · rename_i i ver xs
    split at h
    · rename_i cur sz hi
      cases hb : Nat.beq cur ver with
      | true =>
        rw [hb] at h
        obtain rfl := Option.some.inj h
        obtain rfl := beq_eq hb
        exact ⟨G, s, hS, ⟨rfl, rfl, rfl⟩, fun _ => .inr ⟨i, cur, hi, hr⟩⟩
      | false => rw [hb] at h; obtain rfl := Option.some.inj h; exact ⟨G, s, hS, ⟨rfl, rfl, rfl⟩, fun _ => hr.2.1⟩
    · obtain rfl := Option.some.inj h; exact ⟨G, s, hS, ⟨rfl, rfl, rfl⟩, fun _ => hr.2.1⟩
  · rename_i i ver
    split at h
    · rename_i cur sz xs hi
      cases h1 : (Nat.beq cur ver && Nat.ble s.nv i) with
      | true =>
        rw [h1] at h
        simp only [cond_true] at h
        simp only [Bool.and_eq_true] at h1
        have e1 := beq_eq h1.1
        have e2 := Nat.le_of_ble_eq_true h1.2
        subst e1
        cases hb : E.retVec f with
        | true => rw [hb] at h; obtain rfl := Option.some.inj h; exact ⟨G, s, hS, ⟨rfl, rfl, rfl⟩, fun _ => ⟨i, cur, hi, hr, e2⟩⟩
        | false =>
          rw [hb] at h
          obtain rfl := Option.some.inj h
          obtain ⟨G', q1, q2, q3⟩ := hS.pubVec hi hr
          exact ⟨G', _, q1, ⟨rfl, rfl, List.take_set_of_le e2⟩, fun _ => q3⟩
      | false =>
        rw [h1] at h
        simp only [cond_false] at h
        replace h := bif_some h; obtain ⟨h2, h⟩ := h
        simp only [Bool.and_eq_true] at h2
        obtain ⟨h2, h3, h4, h5⟩ := h2
        have e1 := beq_eq h2
        have e2 := beq_eq h3
        have e3 := beq_eq h4
        subst e1; subst e2; subst e3
        obtain rfl := Option.some.inj h
        obtain ⟨g1, g2, g3⟩ := hr
        have g4 := (g3 _ _ hi).2 rfl
        refine ⟨G, s, hS, ⟨rfl, rfl, rfl⟩, fun _ => ⟨0, xs.length, rfl, sz, xs, blt_lt h5, hi, g1, g2, fun cur ys hc => ?_⟩⟩
        rw [hi] at hc
        simp only [Option.some.injEq, Prod.mk.injEq] at hc
        obtain ⟨rfl, rfl⟩ := hc
        refine ⟨Nat.le_refl _, fun _ => ⟨Nat.zero_le _, Nat.le_refl _, ?_⟩⟩
        rw [g4]
        have : winA (G.ν 0) 0 = (G.ν 0).A := by
          unfold winA
          split
          · rfl
          · cases (G.ν 0).A with
            | none => rfl
            | some ad => simp [Addr.add]
        rw [this]
        rfl
    · cases h
  · rename_i i ver lo hi
    split at h
    · rename_i cur sz xs hv
      replace h := bif_some h; obtain ⟨h1, h⟩ := h
      simp only [Bool.and_eq_true] at h1
      obtain ⟨h1, h2, h3, h4⟩ := h1
      have e1 := beq_eq h1
      have e2 := beq_eq h2
      have e3 := beq_eq h3
      subst e1; subst e2; subst e3
      obtain rfl := Option.some.inj h
      exact ⟨G, s, hS, ⟨rfl, rfl, rfl⟩, fun _ => ⟨lo, hi, rfl, sz, xs, blt_lt h4, hv, hr⟩⟩
    · cases h
  · rename_i cs
    split at h
    · rename_i ps s' hps
      replace h := bif_some h; obtain ⟨h1, h⟩ := h
      have hz := beq_eq h1
      obtain rfl := Option.some.inj h
      obtain ⟨us, rfl, hl, hcr⟩ := hr
      obtain ⟨G', q1, q2, q3, q4⟩ := pubAll_rel hS ⟨hl, fun i a u e1 e2 => .of1 (hcr i a u e1 e2).1⟩ hps
      have hlk : (keepHd (E.keepNil f) cs ps).length = ps.length := keepHd_len
      have q4' : ∀ (i : Nat) p u, (keepHd (E.keepNil f) cs ps)[i]? = some p → us[i]? = some u → PRep G'.M p u := fun i p u hp hu => by
        rcases keepHd_get hp with h1 | ⟨rfl, rfl, h3⟩
        · exact q4 i p u h1 hu
        · have := rep_nils (hcr 0 _ _ h3 hu).1
          rw [this]
          exact .nils
      refine ⟨G', _, q1, ⟨(pubAll_bx hps).1, (pubAll_bx hps).2, by rw [hz]; rfl⟩, fun _ => PRep.agg _ us (q3.trans hlk.symm) (fun y hy => ?_) q4'⟩
      obtain ⟨i, hi, rfl⟩ := List.mem_iff_getElem.1 hy
      have hiu : i < us.length := by omega
      have hic : i < cs.length := by omega
      exact rep_one (q4' i _ _ (List.getElem?_eq_getElem hi) (List.getElem?_eq_getElem hiu)) (hcr i _ _ (List.getElem?_eq_getElem hic) (List.getElem?_eq_getElem hiu)).2
    · cases h
  · cases h

theorem results_rel (hT : TOk P) {G : Gh} {x : AS} {a : Act} {w : World} (hR : R F w0 M0 G x a w) {fn : Func} {out : Out} (h : results P E f fn x = some out) : ∃ v, (Go.results fn a.tmps).run P w = .ok v w ∧ ∃ G' s', SRel F w0 M0 G' s' w ∧ OutRel G' s' out v ∧ refs s' = some out.2 := by
  have hrun : ∀ bs, resAVs P (E.keepNil f) x fn.results.toList = some bs → ∃ us : List Value, LRel G x.s bs us ∧ (Go.results fn a.tmps).run P w = .ok (if us.length = 1 then us.getD 0 undef else .tuple us.toArray) w := by
    intro bs hb
    obtain ⟨us, g1, g2⟩ := resAVs_rel hT hR hb
    refine ⟨us, g1, ?_⟩
    unfold Go.results
    rw [Sem.run_bind, Array.mapM_eq_mapM_toList, Sem.run_map]
    have g3 := g2
    refine (congrArg (fun z : Result (List Value) => (z.andThen fun a w' => Result.ok a.toArray w').andThen fun vs w' => (pure (if h : vs.size = 1 then vs[0] else .tuple vs) : Sem Value).run P w') (show _ = Result.ok us w from g3)).trans ?_
    simp only [Result.andThen_ok]
    by_cases h1 : us.length = 1
    · simp [h1, List.getD]
    · simp [h1]
  unfold results at h
  split at h
  rotate_left
  · cases h
  rename_i o rs h0 hrs
  obtain rfl := Option.some.inj h
  replace h := h0
  unfold results0 at h
  split at h
  · rename_i b hb
    obtain ⟨us, g1, g2⟩ := hrun _ hb
    have hl := g1.1
    simp only [List.length_cons, List.length_nil] at hl
    rw [if_pos (by simpa using hl)] at g2
    have h0 : us[0]? = some (us.getD 0 undef) := by
      have : 0 < us.length := by omega
      simp [List.getD, List.getElem?_eq_getElem this]
    obtain ⟨G', s', k1, k2, k3⟩ := outOf_rel hR.S (g1.2 0 b _ rfl h0) h
    exact ⟨_, g2, G', s', k1, k3 _, (refs_eq k2.1 k2.2.1 k2.2.2).trans hrs⟩
  · rename_i v0 v1 l hb
    cases hrv : E.retVec f with
    | true =>
      rw [hrv] at h
      simp only [cond_true] at h
      obtain ⟨us, g1, g2⟩ := hrun _ hb
      unfold tupOf at h
      split at h
      · rename_i ps hps
        obtain ⟨l1, l2⟩ := toPVs_get hps
        have hul := g1.1
        simp only [List.length_cons] at hul
        obtain ⟨u, us, rfl⟩ : ∃ u us', us = u :: us' := by
          cases us with
          | nil => simp at hul
          | cons u us => exact ⟨u, us, rfl⟩
        have hu0 := g1.2 0 v0 u rfl rfl
        have hlen : us.length = ps.length := by rw [l1]; simpa using hul
        have hps' : ∀ (k : Nat) p z, ps[k]? = some p → us[k]? = some z → PRep G.M p z := fun k p z e1 e2 => by
          have hk : k < (v1 :: l).length := by rw [← l1]; exact (List.getElem?_eq_some_iff.1 e1).1
          obtain ⟨p', r1, r2⟩ := l2 k _ (List.getElem?_eq_getElem hk)
          rw [e1] at r1
          obtain rfl := Option.some.inj r1
          exact toPV_rel (g1.2 (k + 1) (v1 :: l)[k] z (by rw [List.getElem?_cons_succ]; exact List.getElem?_eq_getElem hk) (by rw [List.getElem?_cons_succ]; exact e2)) r2
        rw [if_neg (by rw [hul]; omega)] at g2
        split at h
        · rename_i i ver
          split at h
          · rename_i cur sz xs hi
            replace h := bif_some h; obtain ⟨h1, h⟩ := h
            simp only [Bool.and_eq_true] at h1
            have e1 := beq_eq h1.1
            subst e1
            obtain rfl := Option.some.inj h
            exact ⟨_, g2, G, x.s, hR.S, ⟨i, cur, u, us, hi, Nat.le_of_ble_eq_true h1.2, rfl, hu0, hlen, hps'⟩, hrs⟩
          · cases h
        · split at h
          · rename_i e he
            replace h := bif_some h; obtain ⟨h1, h⟩ := h
            obtain rfl := Option.some.inj h
            obtain ⟨G3, q1, q2, q3⟩ := hR.S.attachVec (hd := ⟨none, 0, sizeT P e⟩) (xs := []) (blt_lt h1) (by simp) (.inl ⟨rfl, rfl, rfl⟩)
            have hu0' : u = .slice none 0 0 := by cases hu0; rfl
            refine ⟨_, g2, G3, _, q1, ⟨x.s.vc.length, 0, u, us, by simp, nv_le hR.S, rfl, by rw [hu0']; exact q3, hlen, fun k p z e1 e2 => (hps' k p z e1 e2).mono q2.M⟩, ?_⟩
            exact (refs_eq (s := x.s) (s' := { x.s with vc := x.s.vc ++ [some (0, sizeT P e, [])] }) rfl rfl (List.take_append_of_le_length (nv_le hR.S))).trans hrs
          · cases h
        · cases h
      · cases h
    | false =>
    rw [hrv] at h
    simp only [cond_false] at h
    split at h
    · rename_i ps s' hp
      replace h := bif_some h; obtain ⟨h1, h⟩ := h
      have hz : s'.vc.take x.s.nv = x.s.vc.take x.s.nv := by
        rw [beq_eq h1]; rfl
      obtain rfl := Option.some.inj h
      obtain ⟨us, g1, g2⟩ := hrun _ hb
      obtain ⟨G', q1, q2, q3, q4⟩ := pubAll_rel hR.S g1 hp
      have hne1 : ¬ us.length = 1 := by
        intro e
        have := g1.1
        rw [e] at this
        simp at this
      rw [if_neg hne1] at g2
      exact ⟨_, g2, G', s', q1, .tup ps us q3 q4, (refs_eq (pubAll_bx hp).1 (pubAll_bx hp).2 hz).trans hrs⟩
    · cases h
  · rename_i vs hne hne2 hb
    split at h
    · rename_i ps s' hp
      replace h := bif_some h; obtain ⟨h1, h⟩ := h
      have hz : s'.vc.take x.s.nv = x.s.vc.take x.s.nv := by
        simp only [Bool.or_eq_true, List.isEmpty_iff] at h1
        rcases h1 with h1 | h1
        · subst h1
          simp only [pubAll, Option.some.injEq, Prod.mk.injEq] at hp
          rw [hp.2]
        · rw [beq_eq h1]; rfl
      obtain rfl := Option.some.inj h
      obtain ⟨us, g1, g2⟩ := hrun _ hb
      obtain ⟨G', q1, q2, q3, q4⟩ := pubAll_rel hR.S g1 hp
      have hne1 : ¬ us.length = 1 := by
        intro e
        have := g1.1
        rw [e] at this
        obtain ⟨v, hv⟩ := List.length_eq_one_iff.1 this.symm
        exact hne v hv
      rw [if_neg hne1] at g2
      exact ⟨_, g2, G', s', q1, .tup ps us q3 q4, (refs_eq (pubAll_bx hp).1 (pubAll_bx hp).2 hz).trans hrs⟩
    · cases h
  · cases h

theorem run_sound (hT : TOk P) (hF : FOk P) (hc : CallOk P E.call) (hD : DrawOk P E f Out) {n : Nat} {args : List Arg} {out : Out} (h : run P E f n args = some out) : CSpec P f args out := by
  unfold run at h
  split at h
  · rename_i fn hfn
    split at h
    · rename_i c hcode
      replace h := bif_some h; obtain ⟨h1, h⟩ := h
      refine ⟨⟨fn, hfn, by rw [hcode]; rfl⟩, fun F M G w vs hS hFr => ?_⟩
      refine calls_of_wp hfn hcode (exec_sound (F := F) (w0 := w) (M0 := M) (G := G) hT hF hc hD c h ⟨hS, ⟨?_, fun i b v e1 e2 => ?_⟩, rfl⟩ ⟨fun y G a w' hy hR => ?_, fun i y G a w' hy hR => ?_, fun y G a w' hy hR => ?_⟩)
      · simp [hFr.1]
      · by_cases hi : i < (enter args).1.length
        · rw [List.getElem?_append_left hi] at e1
          rw [Array.getElem?_append_left (by rw [hFr.1]; exact hi)] at e2
          exact hFr.2 i b v e1 e2
        · rw [List.getElem?_append_right (by omega)] at e1
          rw [Array.getElem?_append_right (by rw [hFr.1]; omega)] at e2
          have e1' := (List.mem_replicate.1 (List.mem_of_getElem? e1)).2
          subst e1'
          have e2' : v ∈ (Array.replicate (fn.ntmps - vs.size) undef) := Array.mem_of_getElem? e2
          exact (Array.mem_replicate.1 e2').2
      · obtain ⟨v, k1, G', s', k2, k3⟩ := results_rel hT hR hy
        exact ⟨hR.D, v, k1, v, G', s', rfl, k2, k3.1, k3.2⟩
      · cases hy
      · obtain ⟨v, k1, G', s', k2, k3⟩ := results_rel hT hR hy
        exact ⟨hR.D, v, k1, v, G', s', rfl, k2, k3.1, k3.2⟩
    · cases h
  · cases h

/-- The functions that are dealt with apart. -/
def PrimOk (P : Program) (T : Tab) : Prop := ∀ f g, T.prim f = some g → ∀ call, CallOk P call → ∀ args out, g call args = some out → args.all plainArg = true → CSpec P f args out

theorem acall_sound (hT : TOk P) (hF : FOk P) (hD : ∀ E f, CallOk P E.call → DrawOk P E f Out) {T : Tab} (hp : PrimOk P T) : ∀ n, CallOk P (acall P T n) := by
  intro n
  induction n with
  | zero => intro g args out h _; cases h
  | succ n ih =>
    intro g args out h hpl
    simp only [acall] at h
    split at h
    · rename_i pr hpr
      exact hp g pr hpr _ ih args out h hpl
    · exact run_sound hT hF ih (hD _ _ ih) h
end
end Go.AL
