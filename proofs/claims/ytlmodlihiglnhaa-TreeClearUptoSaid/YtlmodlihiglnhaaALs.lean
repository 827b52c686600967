/- Memory of the call's own: frozen boxes; calls that are handed slices which may be appended to, and hand some back. -/
import Derived.Test.YtlmodlihiglnhaaALr
set_option linter.unusedVariables false
set_option linter.unusedSimpArgs false
namespace Go.AL
open Go.RowKit

section
variable {F : Nat → Prop} {w0 : World} {M0 : Mem} {G : Gh} {s : St} {w : World}

/-- The number of a builder's version goes on. -/
theorem SRel.bump (h : SRel F w0 M0 G s w) {i v sz : Nat} (hi : s.tp[i]? = some (v, sz)) : SRel F w0 M0 G { s with tp := s.tp.set i (v + 1, sz) } w ∧ Ext G s G { s with tp := s.tp.set i (v + 1, sz) } := by
  have hil : i < s.tp.length := (List.getElem?_eq_some_iff.1 hi).1
  have he : Ext G s G { s with tp := s.tp.set i (v + 1, sz) } :=
    ⟨Mem.le_refl _, Nat.le_refl _, Nat.le_refl _, by simp, fun _ _ _ h => h, fun i _ cur xs h => ⟨cur, xs, h, Nat.le_refl _, fun _ => ⟨rfl, rfl⟩⟩, fun j hj cur' hc => by
      by_cases hji : j = i
      · subst hji
        simp only [List.getElem?_set_self hil, Option.some.injEq] at hc
        subst hc
        exact ⟨_, hi, by simp, fun e => by simp at e⟩
      · simp only [List.getElem?_set_ne (Ne.symm hji)] at hc
        exact ⟨cur', hc, Nat.le_refl _, fun _ => rfl⟩⟩
  refine ⟨⟨h.os, h.tape, h.output, h.size, h.old, h.agree, h.base, h.newM, h.own, ?_, ?_, h.vc, ?_⟩, he⟩
  · intro a u e
    rcases h.ownM a u e with e | ⟨j, ad, hj, e1⟩
    · exact .inl e
    · exact .inr ⟨j, ad, by simpa using hj, e1⟩
  · intro j z cs b h1 h2
    obtain ⟨q1, q2, q3, us, T', q4, q5, q6⟩ := h.bx j z cs b h1 h2
    exact ⟨q1, q2, q3, us, T', q4, q5, fun k c v hk hv => ⟨(q6 k c v hk hv).1.ext he, (q6 k c v hk hv).2⟩⟩
  · intro j e h1
    by_cases hji : j = i
    · subst hji
      simp only [List.getElem?_set_self hil, Option.some.injEq] at h1
      subst h1
      exact h.tp j (v, sz) hi
    · simp only [List.getElem?_set_ne (Ne.symm hji)] at h1
      exact h.tp j e h1

theorem toPVs_get {bs : List AV} {ps : List PV} (h : toPVs bs = some ps) : ps.length = bs.length ∧ ∀ (i : Nat) b, bs[i]? = some b → ∃ p, ps[i]? = some p ∧ b.toPV = some p := by
  induction bs generalizing ps with
  | nil => obtain rfl := Option.some.inj h; exact ⟨rfl, by simp⟩
  | cons a bs ih =>
    simp only [toPVs] at h
    split at h
    · rename_i p ps' hp hps
      obtain rfl := Option.some.inj h
      obtain ⟨g1, g2⟩ := ih hps
      refine ⟨by simp [g1], fun i b hb => ?_⟩
      cases i with
      | zero => simp at hb; subst hb; exact ⟨p, rfl, hp⟩
      | succ i => exact g2 i b (by simpa using hb)
    · cases h

theorem toPV_one {b : AV} {p : PV} (h : b.toPV = some p) (hc : b.cell = true) : p.one = true := by
  cases b <;> simp [AV.toPV] at h
  · subst h; rw [PV.one_weak]; exact hc
  · subst h; rfl

/-- A box that never changes from now on. -/
theorem SRel.freeze (h : SRel F w0 M0 G s w) {i b : Nat} {z : Bool} {cs : List AV} {ps : List PV} (hi : s.bx[i]? = some (z, cs)) (hb : G.μ i = some b) (hps : toPVs cs = some ps) (hone : ∀ p, p ∈ ps → p.one = true) :
    ∃ G', SRel F w0 M0 G' { s with bx := s.bx.set i (true, cs) } w ∧ Ext G s G' { s with bx := s.bx.set i (true, cs) } ∧ PRep G'.M (.ptr ps) (.pointer (some ⟨b, 0, none⟩)) := by
  have hil : i < s.bx.length := (List.getElem?_eq_some_iff.1 hi).1
  obtain ⟨p1, p2, p3, vs, T, p4, p5, p6⟩ := h.bx i z cs b hi hb
  obtain ⟨l1, l2⟩ := toPVs_get hps
  let M' : Mem := fun a => if a.block = b ∧ a.spot = none ∧ a.off < vs.size then vs[a.off]? else G.M a
  have hM : G.M.le M' := fun a u e => by
    simp only [M']
    split
    · rename_i hc
      have := h.agree a u e
      obtain ⟨ab, ao, as⟩ := a
      simp only at hc
      obtain ⟨rfl, rfl, _⟩ := hc
      simpa [World.cell?, p4] using this
    · exact e
  have hM2 : ∀ a u, M' a = some u → G.M a = some u ∨ (a.block = b ∧ a.spot = none ∧ vs[a.off]? = some u) := fun a u e => by
    simp only [M'] at e
    split at e
    · rename_i hc; exact .inr ⟨hc.1, hc.2.1, e⟩
    · exact .inl e
  let own' : Nat → Own := fun b' => if b' = b then .free else G.own b'
  let G' : Gh := { G with M := M', own := own' }
  have he : Ext G s G' { s with bx := s.bx.set i (true, cs) } :=
    ⟨hM, by simp, Nat.le_refl _, Nat.le_refl _, fun _ _ _ h => h, fun i _ cur xs h => ⟨cur, xs, h, Nat.le_refl _, fun _ => ⟨rfl, rfl⟩⟩, fun i _ cur h => ⟨cur, h, Nat.le_refl _, fun _ => rfl⟩⟩
  have hown : ∀ b', G.own b' ≠ .free → (∀ j, G.own b' ≠ .box j) → own' b' = G.own b' := fun b' h1 h2 => by
    simp only [own']
    rw [if_neg]
    rintro rfl
    cases z
    · exact h2 i p1
    · exact h1 p1
  refine ⟨G', ⟨h.os, h.tape, h.output, h.size, h.old, ?_, Mem.le_trans h.base hM, ?_, ?_, ?_, ?_, ?_, ?_⟩, he, ?_⟩
  · intro a u e
    rcases hM2 a u e with e | ⟨h1, h2, h3⟩
    · exact h.agree a u e
    · obtain ⟨ab, ao, as⟩ := a
      simp only at h1 h2 h3
      subst h1; subst h2
      simp [World.cell?, p4, h3]
  · intro a u e
    rcases hM2 a u e with e | ⟨h1, _⟩
    · exact h.newM a u e
    · rcases p3 with p3 | p3
      · exact .inr (.inr (by rw [h1]; exact p3))
      · exact .inr (.inl (by rw [h1]; exact p3))
  · intro b' hb'
    by_cases hbb : b' = b
    · subst hbb; exact absurd (by simp [G', own']) hb'
    · refine h.own b' (fun e => hb' ?_)
      simp only [G', own']; rw [if_neg hbb]; exact e
  · intro a u e
    by_cases hab : a.block = b
    · left; simp only [G', own']; rw [if_pos hab]
    · rcases hM2 a u e with e | ⟨h1, _⟩
      · rcases h.ownM a u e with e' | ⟨j, ad, hj, e1, e2⟩
        · left; simp only [G', own']; rw [if_neg hab]; exact e'
        · right; exact ⟨j, ad, hj, by simp only [G', own']; rw [if_neg hab]; exact e1, e2⟩
      · exact absurd h1 hab
  · intro j z2 cs2 b' h1 h2
    by_cases hij : i = j
    · subst hij
      simp only [List.getElem?_set_self hil, Option.some.injEq, Prod.mk.injEq] at h1
      obtain ⟨rfl, rfl⟩ := h1
      have h2' : G.μ i = some b' := h2
      rw [hb] at h2'
      obtain rfl := Option.some.inj h2'
      exact ⟨by simp [G', own'], p2, p3, vs, T, p4, p5, fun k c v hk hv => ⟨(p6 k c v hk hv).1.ext he, (p6 k c v hk hv).2⟩⟩
    · simp only [List.getElem?_set_ne hij] at h1
      obtain ⟨q1, q2, q3, us, T', q4, q5, q6⟩ := h.bx j z2 cs2 b' h1 h2
      refine ⟨?_, q2, q3, us, T', q4, q5, fun k c v hk hv => ⟨(q6 k c v hk hv).1.ext he, (q6 k c v hk hv).2⟩⟩
      simp only [G', own']
      split
      · rename_i hbb
        subst hbb
        rw [p1] at q1
        cases z <;> cases z2 <;> simp at q1 ⊢
        · exact absurd q1 hij
      · exact q1
  · intro j ver' sz' ys h1
    obtain ⟨q0, q1, q2⟩ := h.vc j ver' sz' ys h1
    refine ⟨q0, q1, ?_⟩
    rcases q2 with q2 | ⟨b', o, us, T', k1, k2, k3, k4, k5, k6⟩
    · exact .inl q2
    · exact .inr ⟨b', o, us, T', k1, (hown b' (by rw [k2]; simp) (fun j => by rw [k2]; simp)).trans k2, k3, k4, k5, fun j x k y e1 e2 => by obtain ⟨v, e3, e4⟩ := k6 j x k y e1 e2; exact ⟨v, e3, e4.mono hM⟩⟩
  · intro j e h1
    obtain ⟨q0, q2⟩ := h.tp j e h1
    refine ⟨q0, ?_⟩
    rcases q2 with q2 | ⟨b', o, us, T', k1, k2, k3⟩
    · exact .inl q2
    · exact .inr ⟨b', o, us, T', k1, (hown b' (by rw [k2]; simp) (fun j => by rw [k2]; simp)).trans k2, k3⟩
  · have key : ∀ (k : Nat) c, ps[k]? = some c → M' ⟨b, k, none⟩ = some (vs.getD k undef) ∧ PRep M' c (vs.getD k undef) := by
      intro k c hk
      have hkl : k < cs.length := by rw [← l1]; exact (List.getElem?_eq_some_iff.1 hk).1
      have hkv : k < vs.size := by omega
      obtain ⟨p, q1, q2⟩ := l2 k cs[k] (List.getElem?_eq_getElem hkl)
      rw [hk] at q1
      obtain rfl := Option.some.inj q1
      have hv : vs[k]? = some (vs.getD k undef) := by simp [Array.getD, hkv]
      refine ⟨?_, (toPV_rel (p6 k cs[k] _ (List.getElem?_eq_getElem hkl) hv).1 q2).mono hM⟩
      show (if b = b ∧ (none : Option Nat) = none ∧ k < vs.size then vs[k]? else _) = _
      rw [if_pos ⟨rfl, rfl, hkv⟩]; exact hv
    exact .ptr ps _ (fun k => vs.getD k undef) hone (fun k c hk => by rw [Addr.add_lit, Nat.zero_add]; exact (key k c hk).1) (fun k c hk => (key k c hk).2)

/-- A tail that comes to be the call's own. -/
theorem SRel.attachTip (h : SRel F w0 M0 G s w) {hd : TH} (hsz : 0 < hd.sz) (hc : (hd.tail = none ∧ hd.room = 0) ∨ ∃ b o vs T, hd.tail = some ⟨b, o, none⟩ ∧ G.own b = .free ∧ b < w.heap.size ∧ (F b ∨ w0.heap.size ≤ b) ∧ w.heap[b]? = some (.cells vs T (0, 0)) ∧
      o + hd.room * hd.sz ≤ vs.size ∧ (∀ a v, G.M a = some v → a.block = b → a.off < o) ∧ ∀ i cs, s.bx[i]? = some (true, cs) → G.μ i ≠ some b)
    {xs : List PV} {v : Value} (hr : PRep G.M (.lst xs) v) (ht : Tail hd xs v) :
    ∃ G', SRel F w0 M0 G' { s with tp := s.tp ++ [(0, hd.sz)] } w ∧ Ext G s G' { s with tp := s.tp ++ [(0, hd.sz)] } ∧ ARel G' { s with tp := s.tp ++ [(0, hd.sz)] } (.bld s.tp.length 0 xs) v := by
  let own' : Nat → Own := fun b => match hd.tail with | some ad => if b = ad.block then .tip s.tp.length else G.own b | none => G.own b
  have hv := TpAt.push s (0, hd.sz)
  have he := Ext.tpAt (G := G) hv (Mem.le_refl _) own' hd
  have hfree : ∀ ad, hd.tail = some ad → G.own ad.block = .free := by
    intro ad had
    rcases hc with ⟨e, _⟩ | ⟨b, o, vs, T, e, e2, _⟩
    · rw [e] at had; cases had
    · rw [e] at had; obtain rfl := Option.some.inj had; exact e2
  have hown : ∀ b, G.own b ≠ .free → own' b = G.own b := fun b hb => by
    simp only [own']
    split
    · rename_i ad had
      rw [if_neg]
      rintro rfl
      exact hb (hfree ad had)
    · rfl
  refine ⟨{ G with M := G.M, own := own', τ := fun j => if j = s.tp.length then hd else G.τ j }, ⟨h.os, h.tape, h.output, h.size, h.old, h.agree, h.base, h.newM, ?_, ?_, ?_, ?_, ?_⟩, he, ?_⟩
  · intro b hb
    by_cases hbf : G.own b = .free
    · simp only [own'] at hb
      rcases hc with ⟨e, _⟩ | ⟨b', o, vs, T, e, e2, e3, e4, _⟩
      · rw [e] at hb; exact absurd hbf hb
      · rw [e] at hb
        simp only at hb
        split at hb
        · rename_i hbb; subst hbb; exact ⟨e3, e4⟩
        · exact absurd hbf hb
    · exact h.own b hbf
  · intro a u e
    rcases h.ownM a u e with e1 | ⟨j, ad, hj, e1, e2⟩
    · rcases hc with ⟨e3, _⟩ | ⟨b', o, vs, T, e3, e4, e5, e6, e7, e8, e9, _⟩
      · left; simp only [own', e3]; exact e1
      · by_cases hab : a.block = b'
        · right
          exact ⟨s.tp.length, _, by simp, by simp only [own', e3]; rw [if_pos hab], by simp only [if_true]; exact e3, e9 a u e hab⟩
        · left; simp only [own', e3]; rw [if_neg hab]; exact e1
    · right
      exact ⟨j, ad, by simp; omega, (hown _ (by rw [e1]; simp)).trans e1, by simp only; rw [if_neg (by omega)]; exact e2⟩
  · intro j z cs b h1 h2
    obtain ⟨q1, q2, q3, us, T', q4, q5, q6⟩ := h.bx j z cs b h1 h2
    refine ⟨?_, q2, q3, us, T', q4, q5, fun k c v hk hv' => ⟨(q6 k c v hk hv').1.ext he, (q6 k c v hk hv').2⟩⟩
    cases z with
    | false => exact (hown b (by rw [q1]; simp)).trans q1
    | true =>
      simp only [own']
      rcases hc with ⟨e3, _⟩ | ⟨b', o, vs, T, e3, e4, e5, e6, e7, e8, e9, e10⟩
      · rw [e3]; exact q1
      · rw [e3]
        simp only
        rw [if_neg]
        · exact q1
        · rintro rfl
          exact e10 j cs h1 h2
  · intro j ver' sz' ys h1
    obtain ⟨q0, q1, q2⟩ := h.vc j ver' sz' ys h1
    refine ⟨q0, q1, ?_⟩
    rcases q2 with q2 | ⟨b', o, us, T', k1, k2, k3⟩
    · exact .inl q2
    · exact .inr ⟨b', o, us, T', k1, (hown b' (by rw [k2]; simp)).trans k2, k3⟩
  · intro j e h1
    by_cases hji : j = s.tp.length
    · subst hji
      simp only at h1
      rw [hv.at_] at h1
      obtain rfl := Option.some.inj h1
      simp only [if_true]
      refine ⟨⟨by first | rfl | trivial, hsz⟩, ?_⟩
      rcases hc with hc | ⟨b', o, vs, T, e3, e4, e5, e6, e7, e8, e9, _⟩
      · exact .inl hc
      · exact .inr ⟨b', o, vs, T, e3, by simp only [own', e3, if_true], e7, e8⟩
    · simp only at h1
      rw [hv.other j hji] at h1
      obtain ⟨q0, q2⟩ := h.tp j e h1
      simp only [if_neg hji]
      refine ⟨q0, ?_⟩
      rcases q2 with q2 | ⟨b', o, us, T', k1, k2, k3⟩
      · exact .inl q2
      · exact .inr ⟨b', o, us, T', k1, (hown b' (by rw [k2]; simp)).trans k2, k3⟩
  · refine ⟨by simp, hr, fun cur h1 => ?_⟩
    simp only at h1
    rw [hv.at_] at h1
    obtain rfl := Option.some.inj h1
    exact ⟨Nat.le_refl _, fun _ => by simp only [if_true]; exact ht⟩

/-- A vector that comes to be the call's own. -/
theorem SRel.attachVec (h : SRel F w0 M0 G s w) {hd : VH} {xs : List PV} (hsz : 0 < hd.sz) (hs : ∀ x, x ∈ xs → x.cells.length = hd.sz ∧ ∀ y, y ∈ x.cells → y.one = true)
    (hc : (hd.A = none ∧ hd.cap = 0 ∧ xs = []) ∨ ∃ b o vs T, hd.A = some ⟨b, o, none⟩ ∧ G.own b = .free ∧ b < w.heap.size ∧ (F b ∨ w0.heap.size ≤ b) ∧ w.heap[b]? = some (.cells vs T (0, 0)) ∧
      o + hd.cap * hd.sz ≤ vs.size ∧ xs.length ≤ hd.cap ∧ (∀ j x k y, xs[j]? = some x → x.cells[k]? = some y → ∃ v, vs[o + (j * hd.sz + k)]? = some v ∧ PRep G.M y v) ∧
      (∀ a v, G.M a = some v → a.block ≠ b) ∧ ∀ i cs, s.bx[i]? = some (true, cs) → G.μ i ≠ some b) :
    ∃ G', SRel F w0 M0 G' { s with vc := s.vc ++ [some (0, hd.sz, xs)] } w ∧ Ext G s G' { s with vc := s.vc ++ [some (0, hd.sz, xs)] } ∧ ARel G' { s with vc := s.vc ++ [some (0, hd.sz, xs)] } (.vec s.vc.length 0) (.slice hd.A xs.length hd.cap) := by
  let own' : Nat → Own := fun b => match hd.A with | some ad => if b = ad.block then .vec s.vc.length else G.own b | none => G.own b
  have hv := VcAt.push s (0, hd.sz, xs)
  have he := Ext.vcAt (G := G) hv own' hd
  have hfree : ∀ ad, hd.A = some ad → G.own ad.block = .free := by
    intro ad had
    rcases hc with ⟨e, _⟩ | ⟨b, o, vs, T, e, e2, _⟩
    · rw [e] at had; cases had
    · rw [e] at had; obtain rfl := Option.some.inj had; exact e2
  have hown : ∀ b, G.own b ≠ .free → own' b = G.own b := fun b hb => by
    simp only [own']
    split
    · rename_i ad had
      rw [if_neg]
      rintro rfl
      exact hb (hfree ad had)
    · rfl
  refine ⟨{ G with own := own', ν := fun j => if j = s.vc.length then hd else G.ν j }, ⟨h.os, h.tape, h.output, h.size, h.old, h.agree, h.base, h.newM, ?_, ?_, ?_, ?_, ?_⟩, he, ?_⟩
  · intro b hb
    by_cases hbf : G.own b = .free
    · simp only [own'] at hb
      rcases hc with ⟨e, _⟩ | ⟨b', o, vs, T, e, e2, e3, e4, _⟩
      · rw [e] at hb; exact absurd hbf hb
      · rw [e] at hb
        simp only at hb
        split at hb
        · rename_i hbb; subst hbb; exact ⟨e3, e4⟩
        · exact absurd hbf hb
    · exact h.own b hbf
  · intro a u e
    rcases h.ownM a u e with e1 | ⟨j, ad, hj, e1, e2⟩
    · left
      rcases hc with ⟨e3, _⟩ | ⟨b', o, vs, T, e3, e4, e5, e6, e7, e8, e9, e10, e11, _⟩
      · simp only [own', e3]; exact e1
      · simp only [own', e3]; rw [if_neg (e11 a u e)]; exact e1
    · right
      exact ⟨j, ad, hj, (hown _ (by rw [e1]; simp)).trans e1, e2⟩
  · intro j z cs b h1 h2
    obtain ⟨q1, q2, q3, us, T', q4, q5, q6⟩ := h.bx j z cs b h1 h2
    refine ⟨?_, q2, q3, us, T', q4, q5, fun k c v hk hv' => ⟨(q6 k c v hk hv').1.ext he, (q6 k c v hk hv').2⟩⟩
    cases z with
    | false => exact (hown b (by rw [q1]; simp)).trans q1
    | true =>
      simp only [own']
      rcases hc with ⟨e3, _⟩ | ⟨b', o, vs, T, e3, e4, e5, e6, e7, e8, e9, e10, e11, e12⟩
      · rw [e3]; exact q1
      · rw [e3]
        simp only
        rw [if_neg]
        · exact q1
        · rintro rfl
          exact e12 j cs h1 h2
  · intro j ver' sz' ys h1
    by_cases hji : j = s.vc.length
    · subst hji
      simp only at h1
      rw [hv.at_] at h1
      simp only [Option.some.injEq, Prod.mk.injEq] at h1
      obtain ⟨rfl, rfl, rfl⟩ := h1
      simp only [if_true]
      refine ⟨⟨by first | rfl | trivial, hsz⟩, hs, ?_⟩
      rcases hc with hc | ⟨b', o, vs, T, e3, e4, e5, e6, e7, e8, e9, e10, e11, _⟩
      · exact .inl hc
      · exact .inr ⟨b', o, vs, T, e3, by simp only [own', e3, if_true], e7, e8, e9, e10⟩
    · simp only at h1
      rw [hv.other j hji] at h1
      obtain ⟨q0, q1, q2⟩ := h.vc j ver' sz' ys h1
      simp only [if_neg hji]
      refine ⟨q0, q1, ?_⟩
      rcases q2 with q2 | ⟨b', o, us, T', k1, k2, k3⟩
      · exact .inl q2
      · exact .inr ⟨b', o, us, T', k1, (hown b' (by rw [k2]; simp)).trans k2, k3⟩
  · intro j e h1
    obtain ⟨q0, q2⟩ := h.tp j e h1
    refine ⟨q0, ?_⟩
    rcases q2 with q2 | ⟨b', o, us, T', k1, k2, k3⟩
    · exact .inl q2
    · exact .inr ⟨b', o, us, T', k1, (hown b' (by rw [k2]; simp)).trans k2, k3⟩
  · refine ⟨by simp, ⟨_, _, _, rfl⟩, fun cur ys h1 => ?_⟩
    simp only at h1
    rw [hv.at_] at h1
    simp only [Option.some.injEq, Prod.mk.injEq] at h1
    obtain ⟨rfl, rfl⟩ := h1
    exact ⟨Nat.le_refl _, fun _ => by simp⟩
end
end Go.AL
