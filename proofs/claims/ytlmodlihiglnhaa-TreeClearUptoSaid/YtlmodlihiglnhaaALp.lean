/- Memory of the call's own: new vectors and builders, and those that are made anew where there is no room. -/
import Derived.Test.YtlmodlihiglnhaaALo
set_option linter.unusedVariables false
set_option linter.unusedSimpArgs false
namespace Go.AL
open Go.RowKit

structure TpAt (s : St) (i : Nat) (e : Nat × Nat) (tp' : List (Nat × Nat)) : Prop where
  at_ : tp'[i]? = some e
  other : ∀ j, j ≠ i → tp'[j]? = s.tp[j]?
  len : s.tp.length ≤ tp'.length
  new : ∀ cur, s.tp[i]? = some cur → cur.1 < e.1
theorem TpAt.push (s : St) (e : Nat × Nat) : TpAt s s.tp.length e (s.tp ++ [e]) :=
  ⟨by simp, fun j hj => by
    by_cases hl : j < s.tp.length
    · rw [List.getElem?_append_left hl]
    · rw [List.getElem?_eq_none (by simp; omega), List.getElem?_eq_none (by omega)], by simp, fun cur h => by simp at h⟩
theorem TpAt.set {s : St} {i : Nat} {c : Nat × Nat} (h : s.tp[i]? = some c) (sz : Nat) : TpAt s i (c.1 + 1, sz) (s.tp.set i (c.1 + 1, sz)) := by
  have hl : i < s.tp.length := (List.getElem?_eq_some_iff.1 h).1
  exact ⟨by rw [List.getElem?_set_self hl], fun j hj => by rw [List.getElem?_set_ne (Ne.symm hj)], by simp, fun cur hc => by rw [h] at hc; obtain rfl := Option.some.inj hc; simp⟩

structure VcAt (s : St) (i : Nat) (e : Nat × Nat × List PV) (vc' : List (Option (Nat × Nat × List PV))) : Prop where
  at_ : vc'[i]? = some (some e)
  other : ∀ j, j ≠ i → vc'[j]? = s.vc[j]?
  len : s.vc.length ≤ vc'.length
  old : i < s.vc.length → ∃ cur, s.vc[i]? = some (some cur) ∧ cur.1 < e.1
theorem VcAt.push (s : St) (e : Nat × Nat × List PV) : VcAt s s.vc.length e (s.vc ++ [some e]) :=
  ⟨by simp, fun j hj => by
    by_cases hl : j < s.vc.length
    · rw [List.getElem?_append_left hl]
    · rw [List.getElem?_eq_none (by simp; omega), List.getElem?_eq_none (by omega)], by simp, fun h => by omega⟩
theorem VcAt.set {s : St} {i : Nat} {c : Nat × Nat × List PV} (h : s.vc[i]? = some (some c)) (e : Nat × Nat × List PV) (hlt : c.1 < e.1) : VcAt s i e (s.vc.set i (some e)) := by
  have hl : i < s.vc.length := (List.getElem?_eq_some_iff.1 h).1
  exact ⟨by rw [List.getElem?_set_self hl], fun j hj => by rw [List.getElem?_set_ne (Ne.symm hj)], by simp, fun _ => ⟨c, h, hlt⟩⟩

section
variable {F : Nat → Prop} {w0 : World} {M0 : Mem} {G : Gh} {s : St} {w : World}

theorem Ext.tpAt {i : Nat} {e : Nat × Nat} {tp' : List (Nat × Nat)} (ht : TpAt s i e tp') {M' : Mem} (hM : G.M.le M') (own' : Nat → Own) (h : TH) :
    Ext G s { G with M := M', own := own', τ := fun j => if j = i then h else G.τ j } { s with tp := tp' } :=
  ⟨hM, Nat.le_refl _, Nat.le_refl _, ht.len, fun _ _ _ h => h, fun i _ cur xs h => ⟨cur, xs, h, Nat.le_refl _, fun _ => ⟨rfl, rfl⟩⟩, fun j hj cur' hc => by
    by_cases hji : j = i
    · subst hji
      have := ht.at_
      simp only at hc
      rw [this] at hc
      obtain rfl := Option.some.inj hc
      have hn := ht.new _ (List.getElem?_eq_getElem hj)
      exact ⟨_, List.getElem?_eq_getElem hj, Nat.le_of_lt hn, fun e => by omega⟩
    · simp only at hc
      rw [ht.other j hji] at hc
      exact ⟨cur', hc, Nat.le_refl _, fun _ => by simp only; rw [if_neg hji]⟩⟩

theorem Ext.vcAt {i : Nat} {e : Nat × Nat × List PV} {vc' : List (Option (Nat × Nat × List PV))} (ht : VcAt s i e vc') (own' : Nat → Own) (h : VH) :
    Ext G s { G with own := own', ν := fun j => if j = i then h else G.ν j } { s with vc := vc' } :=
  ⟨Mem.le_refl _, Nat.le_refl _, ht.len, Nat.le_refl _, fun _ _ _ h => h, fun j hj cur' xs' hc => by
    by_cases hji : j = i
    · subst hji
      simp only at hc
      rw [ht.at_] at hc
      simp only [Option.some.injEq] at hc
      subst hc
      obtain ⟨cur, h1, h2⟩ := ht.old hj
      exact ⟨cur.1, cur.2, h1, Nat.le_of_lt h2, fun e => by omega⟩
    · simp only at hc
      rw [ht.other j hji] at hc
      exact ⟨cur', xs', hc, Nat.le_refl _, fun _ => ⟨rfl, by simp only; rw [if_neg hji]⟩⟩, fun i _ cur h => ⟨cur, h, Nat.le_refl _, fun _ => rfl⟩⟩

/-- A row that is made: the call's own vector number i. -/
theorem SRel.rowVec (h : SRel F w0 M0 G s w) {i : Nat} {ver sz : Nat} {xs : List PV} {vc' : List (Option (Nat × Nat × List PV))} (hv : VcAt s i (ver, sz, xs) vc') (hsz : 0 < sz) (hs : ∀ x, x ∈ xs → x.cells.length = sz) {vs : Array Value} (T : TypeId) {cap : Nat}
    (hcap : cap * sz ≤ vs.size) (hxc : xs.length ≤ cap) (hc : ∀ (i : Nat) p v, (flat xs)[i]? = some p → vs[i]? = some v → PRep G.M p v ∧ p.one = true) :
    ∃ G', SRel F w0 M0 G' { s with vc := vc' } (w.alloc (.cells vs T)) ∧ Ext G s G' { s with vc := vc' } ∧ ARel G' { s with vc := vc' } (.vec i ver) (.slice (some ⟨w.heap.size, 0, none⟩) xs.length cap) := by
  let hd : VH := ⟨some ⟨w.heap.size, 0, none⟩, cap, sz⟩
  let own' : Nat → Own := fun b => if b = w.heap.size then .vec i else (match G.own b with | .vec j => if j = i then .free else .vec j | o => o)
  have he := Ext.vcAt (G := G) hv own' hd
  have ha := h.alloc (.cells vs T)
  have hown : ∀ b, G.own b ≠ .free → G.own b ≠ .vec i → own' b = G.own b := fun b hb hn => by
    have := (h.own b hb).1
    simp only [own']
    rw [if_neg (by omega)]
    split
    · rename_i j e
      split
      · rename_i hj; subst hj; exact absurd e hn
      · exact e.symm
    · rfl
  have hlt : ∀ {k : Nat} {p : PV}, (flat xs)[k]? = some p → k < vs.size := fun hk => by
    have h1 := (List.getElem?_eq_some_iff.1 hk).1
    rw [length_flat hs] at h1
    have := Nat.mul_le_mul_right sz hxc
    omega
  refine ⟨{ G with own := own', ν := fun j => if j = i then hd else G.ν j }, ⟨ha.os, ha.tape, ha.output, ha.size, ha.old, ha.agree, ha.base, ha.newM, ?_, ?_, ?_, ?_, ?_⟩, he, ?_⟩
  · intro b hb
    by_cases hbs : b = w.heap.size
    · subst hbs; exact ⟨by simp, .inr h.size⟩
    · simp only [own'] at hb
      rw [if_neg hbs] at hb
      refine ha.own b (fun e => hb ?_)
      rw [e]
  · intro a v hM
    have := M_lt h hM
    rcases h.ownM a v hM with e | ⟨j, ad, hj, e1, e2⟩
    · left; simp only [own']; rw [if_neg (by omega), e]
    · right; exact ⟨j, ad, hj, (hown _ (by rw [e1]; simp) (by rw [e1]; simp)).trans e1, e2⟩
  · intro j z cs b h1 h2
    obtain ⟨q1, q2, q3, us, T', q4, q5, q6⟩ := ha.bx j z cs b h1 h2
    have q2' := (h.bx j z cs b h1 h2).2.1
    refine ⟨?_, q2, q3, us, T', q4, q5, fun k c v hk hv' => ⟨(q6 k c v hk hv').1.ext he, (q6 k c v hk hv').2⟩⟩
    simp only [own']; rw [if_neg (by omega), q1]; cases z <;> rfl
  · intro j ver' sz' ys h1
    by_cases hji : j = i
    · subst hji
      simp only at h1
      rw [hv.at_] at h1
      simp only [Option.some.injEq, Prod.mk.injEq] at h1
      obtain ⟨rfl, rfl, rfl⟩ := h1
      simp only [if_true]
      refine ⟨⟨rfl, hsz⟩, fun x hx => ⟨hs x hx, fun y hy => ?_⟩, .inr ⟨w.heap.size, 0, vs, T, rfl, by simp [own'], heap_alloc_new' w _, by simpa [hd] using hcap, hxc, fun k x m y e1 e2 => ?_⟩⟩
      · obtain ⟨k, hk, rfl⟩ := List.mem_iff_getElem.1 hx
        obtain ⟨m, hm, rfl⟩ := List.mem_iff_getElem.1 hy
        have := flat_get hs (List.getElem?_eq_getElem hk) (List.getElem?_eq_getElem hm)
        exact (hc _ _ _ this (Array.getElem?_eq_getElem (hlt this))).2
      · have := flat_get hs e1 e2
        exact ⟨_, by rw [Nat.zero_add]; exact Array.getElem?_eq_getElem (hlt this), (hc _ _ _ this (Array.getElem?_eq_getElem (hlt this))).1⟩
    · simp only at h1
      rw [hv.other j hji] at h1
      obtain ⟨q0, q1, q2⟩ := ha.vc j ver' sz' ys h1
      simp only [if_neg hji]
      refine ⟨q0, q1, ?_⟩
      rcases q2 with q2 | ⟨b, o, us, T', k1, k2, k3, k4⟩
      · exact .inl q2
      · exact .inr ⟨b, o, us, T', k1, (hown b (by rw [k2]; simp) (by rw [k2]; simp [hji])).trans k2, k3, k4⟩
  · intro j e h1
    obtain ⟨q0, q2⟩ := ha.tp j e h1
    refine ⟨q0, ?_⟩
    rcases q2 with q2 | ⟨b, o, us, T', k1, k2, k3⟩
    · exact .inl q2
    · exact .inr ⟨b, o, us, T', k1, (hown b (by rw [k2]; simp) (by rw [k2]; simp)).trans k2, k3⟩
  · have hil : i < vc'.length := (List.getElem?_eq_some_iff.1 hv.at_).1
    refine ⟨hil, ⟨_, _, _, rfl⟩, fun cur ys h1 => ?_⟩
    simp only at h1
    rw [hv.at_] at h1
    simp only [Option.some.injEq, Prod.mk.injEq] at h1
    obtain ⟨rfl, rfl⟩ := h1
    exact ⟨Nat.le_refl _, fun _ => by simp [hd]⟩

/-- A row that is made: the call's own builder number i. -/
theorem SRel.rowBld (h : SRel F w0 M0 G s w) {i : Nat} {ver sz : Nat} {xs : List PV} {tp' : List (Nat × Nat)} (hv : TpAt s i (ver, sz) tp') (hsz : 0 < sz) (hs : ∀ x, x ∈ xs → x.cells.length = sz) {vs : Array Value} (T : TypeId) {cap : Nat}
    (hcap : cap * sz ≤ vs.size) (hxc : xs.length ≤ cap) (hc : ∀ (i : Nat) p v, (flat xs)[i]? = some p → vs[i]? = some v → PRep G.M p v ∧ p.one = true) :
    ∃ G', SRel F w0 M0 G' { s with tp := tp' } (w.alloc (.cells vs T)) ∧ Ext G s G' { s with tp := tp' } ∧ ARel G' { s with tp := tp' } (.bld i ver xs) (.slice (some ⟨w.heap.size, 0, none⟩) xs.length cap) := by
  have hfl : (flat xs).length ≤ vs.size := by rw [length_flat hs]; have := Nat.mul_le_mul_right sz hxc; omega
  obtain ⟨M', m1, m2, m3, m4⟩ := h.newRow hsz hs T hfl hc cap hxc
  let hd : TH := ⟨some ⟨w.heap.size, xs.length * sz, none⟩, cap - xs.length, sz⟩
  let own' : Nat → Own := fun b => if b = w.heap.size then .tip i else (match G.own b with | .tip j => if j = i then .free else .tip j | o => o)
  have he := Ext.tpAt (G := G) hv m1 own' hd
  have ha := h.alloc (.cells vs T)
  have hown : ∀ b, G.own b ≠ .free → G.own b ≠ .tip i → own' b = G.own b := fun b hb hn => by
    have := (h.own b hb).1
    simp only [own']
    rw [if_neg (by omega)]
    split
    · rename_i j e
      split
      · rename_i hj; subst hj; exact absurd e hn
      · exact e.symm
    · rfl
  refine ⟨{ G with M := M', own := own', τ := fun j => if j = i then hd else G.τ j }, ⟨ha.os, ha.tape, ha.output, ha.size, ha.old, m3, Mem.le_trans h.base m1, ?_, ?_, ?_, ?_, ?_, ?_⟩, he, ?_⟩
  · intro a v e
    rcases m2 a v e with e | ⟨e, _⟩
    · exact h.newM a v e
    · exact .inr (.inl (by rw [e]; exact h.size))
  · intro b hb
    by_cases hbs : b = w.heap.size
    · subst hbs; exact ⟨by simp, .inr h.size⟩
    · simp only [own'] at hb
      rw [if_neg hbs] at hb
      refine ha.own b (fun e => hb ?_)
      rw [e]
  · intro a v e
    rcases m2 a v e with e | ⟨e, e2⟩
    · have := M_lt h e
      rcases h.ownM a v e with e | ⟨j, ad, hj, e1, e2⟩
      · left; simp only [own']; rw [if_neg (by omega), e]
      · by_cases hji : j = i
        · left; simp only [own']; rw [if_neg (by omega), e1]; simp [hji]
        · right
          refine ⟨j, ad, Nat.lt_of_lt_of_le hj hv.len, (hown _ (by rw [e1]; simp) (by rw [e1]; simp [hji])).trans e1, ?_⟩
          simp only [if_neg hji]; exact e2
    · right
      have hil : i < tp'.length := (List.getElem?_eq_some_iff.1 hv.at_).1
      exact ⟨i, _, hil, by simp only [own']; rw [if_pos e], by simp only [if_true]; rfl, e2⟩
  · intro j z cs b h1 h2
    obtain ⟨q1, q2, q3, us, T', q4, q5, q6⟩ := ha.bx j z cs b h1 h2
    have q2' := (h.bx j z cs b h1 h2).2.1
    refine ⟨?_, q2, q3, us, T', q4, q5, fun k c v hk hv' => ⟨(q6 k c v hk hv').1.ext he, (q6 k c v hk hv').2⟩⟩
    simp only [own']; rw [if_neg (by omega), q1]; cases z <;> rfl
  · intro j ver' sz' ys h1
    obtain ⟨q0, q1, q2⟩ := ha.vc j ver' sz' ys h1
    refine ⟨q0, q1, ?_⟩
    rcases q2 with q2 | ⟨b, o, us, T', k1, k2, k3, k4, k5, k6⟩
    · exact .inl q2
    · exact .inr ⟨b, o, us, T', k1, (hown b (by rw [k2]; simp) (by rw [k2]; simp)).trans k2, k3, k4, k5, fun j x k y e1 e2 => by obtain ⟨v, e3, e4⟩ := k6 j x k y e1 e2; exact ⟨v, e3, e4.mono m1⟩⟩
  · intro j e h1
    by_cases hji : j = i
    · subst hji
      simp only at h1
      rw [hv.at_] at h1
      obtain rfl := Option.some.inj h1
      simp only [if_true]
      refine ⟨⟨rfl, hsz⟩, .inr ⟨w.heap.size, xs.length * sz, vs, T, rfl, by simp [own'], heap_alloc_new' w _, ?_⟩⟩
      simp only [hd]
      rw [← Nat.add_mul, show xs.length + (cap - xs.length) = cap by omega]
      exact hcap
    · simp only at h1
      rw [hv.other j hji] at h1
      obtain ⟨q0, q2⟩ := ha.tp j e h1
      simp only [if_neg hji]
      refine ⟨q0, ?_⟩
      rcases q2 with q2 | ⟨b, o, us, T', k1, k2, k3⟩
      · exact .inl q2
      · exact .inr ⟨b, o, us, T', k1, (hown b (by rw [k2]; simp) (by rw [k2]; simp [hji])).trans k2, k3⟩
  · have hil : i < tp'.length := (List.getElem?_eq_some_iff.1 hv.at_).1
    refine ⟨hil, m4, fun cur h1 => ?_⟩
    simp only at h1
    rw [hv.at_] at h1
    obtain rfl := Option.some.inj h1
    refine ⟨Nat.le_refl _, fun _ => ⟨⟨_, by simp only [if_true, hd]; congr 1; omega, fun _ => ?_⟩, by simp only [if_true, hd]; exact hs⟩⟩
    simp only [if_true, hd, Option.map_some, Addr.add_lit, Nat.zero_add]
end
end Go.AL
