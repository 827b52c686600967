/- Memory of the call's own: a vector that is cut, or goes on in its place; a box that never changes from now on; values that become plain. -/
import Derived.Test.YtlmodlihiglnhaaALq
set_option linter.unusedVariables false
set_option linter.unusedSimpArgs false
namespace Go.AL
open Go.RowKit

section
variable {F : Nat → Prop} {w0 : World} {M0 : Mem} {G : Gh} {s : St} {w : World}

theorem SRel.reVec (h : SRel F w0 M0 G s w) {i ver sz : Nat} {xs' : List PV} {vc' : List (Option (Nat × Nat × List PV))} (hv : VcAt s i (ver, sz, xs') vc') {b o' cap' : Nat} {vs vs' : Array Value} {T : TypeId} (ho : G.own b = .vec i) (hp : w.heap[b]? = some (.cells vs T (0, 0)))
    (hsz : 0 < sz) (hfit : o' + cap' * sz ≤ vs'.size) (hxc : xs'.length ≤ cap') (hs : ∀ x, x ∈ xs' → x.cells.length = sz ∧ ∀ y, y ∈ x.cells → y.one = true)
    (hc : ∀ j x k y, xs'[j]? = some x → x.cells[k]? = some y → ∃ v, vs'[o' + (j * sz + k)]? = some v ∧ PRep G.M y v) :
    ∃ G', SRel F w0 M0 G' { s with vc := vc' } (w.setRow b vs') ∧ Ext G s G' { s with vc := vc' } ∧ ARel G' { s with vc := vc' } (.vec i ver) (.slice (some ⟨b, o', none⟩) xs'.length cap') := by
  let hd : VH := ⟨some ⟨b, o', none⟩, cap', sz⟩
  have he := Ext.vcAt (G := G) hv G.own hd
  have hne : ∀ b', G.own b' ≠ .vec i → b' ≠ b := fun b' hn e => hn (by rw [e]; exact ho)
  refine ⟨{ G with own := G.own, ν := fun j => if j = i then hd else G.ν j }, ⟨h.os, h.tape, h.output, by simpa [World.setRow] using h.size, ?_, ?_, h.base, h.newM, ?_, h.ownM, ?_, ?_, ?_⟩, he, ?_⟩
  · intro k hk hF
    have : k ≠ b := by
      rintro rfl
      rcases (h.own k (by rw [ho]; simp)).2 with p3 | p3
      · exact hF p3
      · omega
    rw [setRow_other w b k vs' this]
    exact h.old k hk hF
  · intro a v hM
    rw [setRow_cell_other]
    · exact h.agree a v hM
    · refine hne _ ?_
      rcases h.ownM a v hM with e | ⟨j, ad, _, e, _⟩ <;> rw [e] <;> simp
  · intro b' hb'
    exact ⟨by have := (h.own b' hb').1; simpa [World.setRow] using this, (h.own b' hb').2⟩
  · intro j z cs2 b' h1 h2
    obtain ⟨q1, q2, q3, us, T', q4, q5, q6⟩ := h.bx j z cs2 b' h1 h2
    refine ⟨q1, by simpa [World.setRow] using q2, q3, us, T', ?_, q5, fun k c v hk hv => ⟨(q6 k c v hk hv).1.ext he, (q6 k c v hk hv).2⟩⟩
    rw [setRow_other w b b' vs' (hne b' (by rw [q1]; cases z <;> simp))]
    exact q4
  · intro j ver' sz' ys h1
    by_cases hji : j = i
    · subst hji
      simp only at h1
      rw [hv.at_] at h1
      simp only [Option.some.injEq, Prod.mk.injEq] at h1
      obtain ⟨rfl, rfl, rfl⟩ := h1
      simp only [if_true]
      exact ⟨⟨rfl, hsz⟩, hs, .inr ⟨b, o', vs', T, rfl, ho, setRow_heap w b vs vs' T _ hp, hfit, hxc, hc⟩⟩
    · simp only at h1
      rw [hv.other j hji] at h1
      obtain ⟨q0, q1, q2⟩ := h.vc j ver' sz' ys h1
      simp only [if_neg hji]
      refine ⟨q0, q1, ?_⟩
      rcases q2 with q2 | ⟨b', o, us, T', k1, k2, k3, k4⟩
      · exact .inl q2
      · refine .inr ⟨b', o, us, T', k1, k2, ?_, k4⟩
        rw [setRow_other w b b' vs' (hne b' (by rw [k2]; simp; omega))]
        exact k3
  · intro j e h1
    obtain ⟨q0, q2⟩ := h.tp j e h1
    refine ⟨q0, ?_⟩
    rcases q2 with q2 | ⟨b', o, us, T', k1, k2, k3, k4⟩
    · exact .inl q2
    · refine .inr ⟨b', o, us, T', k1, k2, ?_, k4⟩
      rw [setRow_other w b b' vs' (hne b' (by rw [k2]; simp))]
      exact k3
  · have hil : i < vc'.length := (List.getElem?_eq_some_iff.1 hv.at_).1
    refine ⟨hil, ⟨_, _, _, rfl⟩, fun cur ys h1 => ?_⟩
    simp only at h1
    rw [hv.at_] at h1
    simp only [Option.some.injEq, Prod.mk.injEq] at h1
    obtain ⟨rfl, rfl⟩ := h1
    exact ⟨Nat.le_refl _, fun _ => by simp [hd]⟩

/-- A vector that is cut to nothing of a nil slice: it isn't made at all; the number goes on. -/
theorem SRel.reVecNil (h : SRel F w0 M0 G s w) {i ver v sz : Nat} (hi : s.vc[i]? = some (some (v, sz, []))) (hlt : v < ver) (hA : (G.ν i).A = none) (hcap : (G.ν i).cap = 0) :
    SRel F w0 M0 G { s with vc := s.vc.set i (some (ver, sz, [])) } w ∧ Ext G s G { s with vc := s.vc.set i (some (ver, sz, [])) } ∧ ARel G { s with vc := s.vc.set i (some (ver, sz, [])) } (.vec i ver) (.slice none 0 0) := by
  have hil : i < s.vc.length := (List.getElem?_eq_some_iff.1 hi).1
  have hv := VcAt.set hi (ver, sz, []) hlt
  have he : Ext G s G { s with vc := s.vc.set i (some (ver, sz, [])) } :=
    ⟨Mem.le_refl _, Nat.le_refl _, by simp, Nat.le_refl _, fun _ _ _ h => h, fun j hj cur' xs' hc => by
      by_cases hji : j = i
      · subst hji
        simp only [List.getElem?_set_self hil, Option.some.injEq, Prod.mk.injEq] at hc
        obtain ⟨rfl, rfl⟩ := hc
        exact ⟨v, (sz, []), hi, Nat.le_of_lt hlt, fun e => by omega⟩
      · simp only [List.getElem?_set_ne (Ne.symm hji)] at hc
        exact ⟨cur', xs', hc, Nat.le_refl _, fun _ => ⟨rfl, rfl⟩⟩, fun i _ cur h => ⟨cur, h, Nat.le_refl _, fun _ => rfl⟩⟩
  obtain ⟨r0, r1, r2⟩ := h.vc i v sz [] hi
  refine ⟨⟨h.os, h.tape, h.output, h.size, h.old, h.agree, h.base, h.newM, h.own, h.ownM, ?_, ?_, h.tp⟩, he, ?_⟩
  · intro j z cs2 b' h1 h2
    obtain ⟨q1, q2, q3, us, T', q4, q5, q6⟩ := h.bx j z cs2 b' h1 h2
    exact ⟨q1, q2, q3, us, T', q4, q5, fun k c v hk hv => ⟨(q6 k c v hk hv).1.ext he, (q6 k c v hk hv).2⟩⟩
  · intro j ver' sz' ys h1
    by_cases hji : j = i
    · subst hji
      simp only [List.getElem?_set_self hil, Option.some.injEq, Prod.mk.injEq] at h1
      obtain ⟨rfl, rfl, rfl⟩ := h1
      exact ⟨r0, by simp, .inl ⟨hA, hcap, rfl⟩⟩
    · simp only [List.getElem?_set_ne (Ne.symm hji)] at h1
      exact h.vc j ver' sz' ys h1
  · refine ⟨by simpa using hil, ⟨_, _, _, rfl⟩, fun cur ys h1 => ?_⟩
    simp only [List.getElem?_set_self hil, Option.some.injEq, Prod.mk.injEq] at h1
    obtain ⟨rfl, rfl⟩ := h1
    exact ⟨Nat.le_refl _, fun _ => by rw [hA, hcap]; rfl⟩

/-- Memory of a vector that never changes from now on: the vector is gone, its elements are plain. -/
theorem SRel.pubVec (h : SRel F w0 M0 G s w) {i ver sz : Nat} {xs : List PV} (hi : s.vc[i]? = some (some (ver, sz, xs))) {v : Value} (hv : ARel G s (.vec i ver) v) :
    ∃ G', SRel F w0 M0 G' { s with vc := s.vc.set i none } w ∧ Ext G s G' { s with vc := s.vc.set i none } ∧ PRep G'.M (.lst xs) v := by
  have hil : i < s.vc.length := (List.getElem?_eq_some_iff.1 hi).1
  have e1 := (hv.2.2 _ _ hi).2 rfl
  obtain ⟨⟨r0, r0'⟩, r1, r2⟩ := h.vc i ver sz xs hi
  rcases r2 with ⟨g1, g2, rfl⟩ | ⟨b, o, vs, T, g1, g2, g3, g4, g5, g6⟩
  · have he : Ext G s G { s with vc := s.vc.set i none } :=
      ⟨Mem.le_refl _, Nat.le_refl _, by simp, Nat.le_refl _, fun _ _ _ h => h, fun j hj cur' xs' hc => by
        by_cases hji : j = i
        · subst hji
          simp [List.getElem?_set_self hil] at hc
        · simp only [List.getElem?_set_ne (Ne.symm hji)] at hc
          exact ⟨cur', xs', hc, Nat.le_refl _, fun _ => ⟨rfl, rfl⟩⟩, fun i _ cur h => ⟨cur, h, Nat.le_refl _, fun _ => rfl⟩⟩
    refine ⟨G, ⟨h.os, h.tape, h.output, h.size, h.old, h.agree, h.base, h.newM, h.own, h.ownM, ?_, ?_, h.tp⟩, he, ?_⟩
    · intro j z cs2 b' h1 h2
      obtain ⟨q1, q2, q3, us, T', q4, q5, q6⟩ := h.bx j z cs2 b' h1 h2
      exact ⟨q1, q2, q3, us, T', q4, q5, fun k c v hk hv => ⟨(q6 k c v hk hv).1.ext he, (q6 k c v hk hv).2⟩⟩
    · intro j ver' sz' ys h1
      by_cases hji : j = i
      · subst hji; simp [List.getElem?_set_self hil] at h1
      · simp only [List.getElem?_set_ne (Ne.symm hji)] at h1
        exact h.vc j ver' sz' ys h1
    · rw [e1, g1, g2]
      exact PRep.lst [] none 0 1 (fun _ _ => undef) (by omega) (by simp) (by simp) (by simp) (by simp) (by simp) (by simp)
  · -- its cells are told from now on
    let N := xs.length * sz
    let M' : Mem := fun a => if a.block = b ∧ a.spot = none ∧ o ≤ a.off ∧ a.off < o + N then vs[a.off]? else G.M a
    have hMb : ∀ a u, G.M a = some u → a.block ≠ b := fun a u e hab => by
      rcases h.ownM a u e with e' | ⟨j, ad, hj, e1, _⟩
      · rw [hab, g2] at e'; cases e'
      · rw [hab, g2] at e1; cases e1
    have hM : G.M.le M' := fun a u e => by
      simp only [M']; rw [if_neg (fun hc => hMb a u e hc.1)]; exact e
    have hM2 : ∀ a u, M' a = some u → G.M a = some u ∨ (a.block = b ∧ a.spot = none ∧ vs[a.off]? = some u) := fun a u e => by
      simp only [M'] at e
      split at e
      · rename_i hc; exact .inr ⟨hc.1, hc.2.1, e⟩
      · exact .inl e
    let own' : Nat → Own := fun b' => if b' = b then .free else G.own b'
    let G' : Gh := { G with M := M', own := own' }
    have he : Ext G s G' { s with vc := s.vc.set i none } :=
      ⟨hM, Nat.le_refl _, by simp, Nat.le_refl _, fun _ _ _ h => h, fun j hj cur' xs' hc => by
        by_cases hji : j = i
        · subst hji
          simp [List.getElem?_set_self hil] at hc
        · simp only [List.getElem?_set_ne (Ne.symm hji)] at hc
          exact ⟨cur', xs', hc, Nat.le_refl _, fun _ => ⟨rfl, rfl⟩⟩, fun i _ cur h => ⟨cur, h, Nat.le_refl _, fun _ => rfl⟩⟩
    have hown : ∀ b', G.own b' ≠ .vec i → own' b' = G.own b' := fun b' hn => by
      simp only [own']; rw [if_neg (fun e => hn (by rw [e]; exact g2))]
    refine ⟨G', ⟨h.os, h.tape, h.output, h.size, h.old, ?_, Mem.le_trans h.base hM, ?_, ?_, ?_, ?_, ?_, ?_⟩, he, ?_⟩
    · intro a u e
      rcases hM2 a u e with e | ⟨h1, h2, h3⟩
      · exact h.agree a u e
      · obtain ⟨ab, ao, as⟩ := a
        simp only at h1 h2 h3
        subst h1; subst h2
        simp [World.cell?, g3, h3]
    · intro a u e
      rcases hM2 a u e with e | ⟨h1, _⟩
      · exact h.newM a u e
      · rcases (h.own b (by rw [g2]; simp)).2 with p3 | p3
        · exact .inr (.inr (by rw [h1]; exact p3))
        · exact .inr (.inl (by rw [h1]; exact p3))
    · intro b' hb'
      by_cases hbb : b' = b
      · subst hbb; exact absurd (by simp [G', own']) hb'
      · refine h.own b' (fun e => hb' ?_)
        simp only [G', own']; rw [if_neg hbb]; exact e
    · intro a u e
      rcases hM2 a u e with e | ⟨h1, _⟩
      · have hab := hMb a u e
        rcases h.ownM a u e with e' | ⟨j, ad, hj, e1, e2⟩
        · left; simp only [G', own']; rw [if_neg hab]; exact e'
        · right; exact ⟨j, ad, hj, by simp only [G', own']; rw [if_neg hab]; exact e1, e2⟩
      · left; simp only [G', own']; rw [if_pos h1]
    · intro j z cs2 b' h1 h2
      obtain ⟨q1, q2, q3, us, T', q4, q5, q6⟩ := h.bx j z cs2 b' h1 h2
      exact ⟨(hown b' (by rw [q1]; cases z <;> simp)).trans q1, q2, q3, us, T', q4, q5, fun k c v hk hv => ⟨(q6 k c v hk hv).1.ext he, (q6 k c v hk hv).2⟩⟩
    · intro j ver' sz' ys h1
      by_cases hji : j = i
      · subst hji; simp [List.getElem?_set_self hil] at h1
      · simp only [List.getElem?_set_ne (Ne.symm hji)] at h1
        obtain ⟨q0, q1, q2⟩ := h.vc j ver' sz' ys h1
        refine ⟨q0, q1, ?_⟩
        rcases q2 with q2 | ⟨b', o, us, T', k1, k2, k3, k4, k5, k6⟩
        · exact .inl q2
        · exact .inr ⟨b', o, us, T', k1, (hown b' (by rw [k2]; simp; omega)).trans k2, k3, k4, k5, fun j x k y e1 e2 => by obtain ⟨v, e3, e4⟩ := k6 j x k y e1 e2; exact ⟨v, e3, e4.mono hM⟩⟩
    · intro j e h1
      obtain ⟨q0, q2⟩ := h.tp j e h1
      refine ⟨q0, ?_⟩
      rcases q2 with q2 | ⟨b', o, us, T', k1, k2, k3⟩
      · exact .inl q2
      · exact .inr ⟨b', o, us, T', k1, (hown b' (by rw [k2]; simp)).trans k2, k3⟩
    · rw [e1, g1]
      rw [r0] at g4 r0' g6
      refine .lst xs _ _ sz (fun j k => vs.getD (o + (j * sz + k)) undef) r0' g5 (fun x hx => by rw [(r1 x hx).1, r0]) (fun x hx => (r1 x hx).2) (by simp) ?_ ?_
      · intro ad had j x k y h1 h2
        obtain rfl := Option.some.inj had
        obtain ⟨u, q1, q2⟩ := g6 j x k y h1 h2
        have hj : j < xs.length := (List.getElem?_eq_some_iff.1 h1).1
        have hk : k < sz := by have := (List.getElem?_eq_some_iff.1 h2).1; rw [(r1 x (List.mem_of_getElem? h1)).1, r0] at this; exact this
        have hlt : j * sz + k < N := by
          have : (j + 1) * sz ≤ xs.length * sz := Nat.mul_le_mul_right _ hj
          rw [Nat.succ_mul] at this
          simp only [N]; omega
        rw [Addr.add_lit]
        show (if b = b ∧ (none : Option Nat) = none ∧ o ≤ o + (j * sz + k) ∧ o + (j * sz + k) < o + N then vs[o + (j * sz + k)]? else _) = _
        rw [if_pos ⟨rfl, rfl, by omega, by omega⟩, q1]
        simp [Array.getD, (Array.getElem?_eq_some_iff.1 q1).1, (Array.getElem?_eq_some_iff.1 q1).2]
      · intro j x k y h1 h2
        obtain ⟨u, q1, q2⟩ := g6 j x k y h1 h2
        have : vs.getD (o + (j * sz + k)) undef = u := by simp [Array.getD, (Array.getElem?_eq_some_iff.1 q1).1, (Array.getElem?_eq_some_iff.1 q1).2]
        rw [this]
        exact q2.mono hM
end
end Go.AL
