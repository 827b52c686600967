/- Memory of the call's own: what is appended where there is room. -/
import Derived.Test.YtlmodlihiglnhaaALp
set_option linter.unusedVariables false
set_option linter.unusedSimpArgs false
namespace Go.AL
open Go.RowKit

def splice (vs : Array Value) (o : Nat) (us : List Value) : Array Value := (vs.toList.take o ++ us ++ vs.toList.drop (o + us.length)).toArray
theorem size_splice {vs : Array Value} {o : Nat} {us : List Value} (h : o + us.length ≤ vs.size) : (splice vs o us).size = vs.size := by
  simp [splice]; omega
theorem splice_old {vs : Array Value} {o : Nat} {us : List Value} (h : o + us.length ≤ vs.size) {k : Nat} (hk : k < o ∨ o + us.length ≤ k) : (splice vs o us)[k]? = vs[k]? := by
  simp only [splice, List.getElem?_toArray, ← Array.getElem?_toList]
  rcases hk with hk | hk
  · rw [List.getElem?_append_left (by simp; omega), List.getElem?_append_left (by simp; omega), List.getElem?_take, if_pos hk]
  · rw [List.getElem?_append_right (by simp; omega), List.getElem?_drop]
    congr 1
    simp; omega
theorem splice_new {vs : Array Value} {o : Nat} {us : List Value} (h : o + us.length ≤ vs.size) {k : Nat} (hk : k < us.length) : (splice vs o us)[o + k]? = us[k]? := by
  simp only [splice, List.getElem?_toArray]
  rw [List.getElem?_append_left (by simp; omega), List.getElem?_append_right (by simp; omega)]
  congr 1
  simp; omega

section
variable {F : Nat → Prop} {w0 : World} {M0 : Mem} {G : Gh} {s : St} {w : World}

/-- More elements behind those of a slice. -/
theorem rep_more {M M' : Mem} {xs ys : List PV} {A : Addr} {c sz : Nat} (h : PRep M (.lst xs) (.slice (some A) xs.length c)) (hM : M.le M') (hx : ∀ x, x ∈ xs → x.cells.length = sz) (hy : ∀ y, y ∈ ys → y.cells.length = sz) (hsz : 0 < sz)
    (hroom : xs.length + ys.length ≤ c) (hc : ∀ (i : Nat) p, (flat ys)[i]? = some p → ∃ u, M' (A.add (xs.length * sz + i)) = some u ∧ PRep M' p u ∧ p.one = true) : PRep M' (.lst (xs ++ ys)) (.slice (some A) (xs ++ ys).length c) := by
  cases h with
  | lst xs A' cap sz' vs hsz' hcap hs ho hA hm hr =>
    have hsz2 : xs ≠ [] → sz' = sz := fun hne => by
      obtain ⟨x, hxm⟩ := List.exists_mem_of_ne_nil _ hne
      rw [← hs x hxm, ← hx x hxm]
    have hone : ∀ x, x ∈ xs ++ ys → ∀ y, y ∈ x.cells → y.one = true := fun x hxm y hym => by
      rcases List.mem_append.1 hxm with hxm | hxm
      · exact ho x hxm y hym
      · obtain ⟨j, hj, rfl⟩ := List.mem_iff_getElem.1 hxm
        obtain ⟨k, hk, rfl⟩ := List.mem_iff_getElem.1 hym
        exact (hc _ _ (flat_get hy (List.getElem?_eq_getElem hj) (List.getElem?_eq_getElem hk))).choose_spec.2.2
    have key : ∀ j x k y, (xs ++ ys)[j]? = some x → x.cells[k]? = some y → ∃ u, M' (A.add (j * sz + k)) = some u ∧ PRep M' y u := by
      intro j x k y h1 h2
      by_cases hj : j < xs.length
      · rw [List.getElem?_append_left hj] at h1
        have hne : xs ≠ [] := by intro e; subst e; simp at hj
        have := hm A rfl j x k y h1 h2
        rw [hsz2 hne] at this
        exact ⟨_, hM _ _ this, (hr j x k y h1 h2).mono hM⟩
      · rw [List.getElem?_append_right (by omega)] at h1
        obtain ⟨u, q1, q2, _⟩ := hc _ _ (flat_get hy h1 h2)
        rw [← Nat.add_assoc, ← Nat.add_mul, show xs.length + (j - xs.length) = j by omega] at q1
        exact ⟨u, q1, q2⟩
    refine .lst (xs ++ ys) (some A) c sz (fun j k => (M' (A.add (j * sz + k))).getD undef) hsz (by simpa using hroom) ?_ hone (by simp) ?_ ?_
    · intro x hxm
      rcases List.mem_append.1 hxm with hxm | hxm
      · exact hx x hxm
      · exact hy x hxm
    · intro ad had j x k y h1 h2
      obtain rfl := Option.some.inj had
      obtain ⟨u, q1, _⟩ := key j x k y h1 h2
      rw [q1]; rfl
    · intro j x k y h1 h2
      obtain ⟨u, q1, q2⟩ := key j x k y h1 h2
      rw [q1]; exact q2

theorem SRel.inBld (h : SRel F w0 M0 G s w) {i v sz : Nat} {xs ys : List PV} {A : Addr} {c : Nat} {us : List Value} (hv : s.tp[i]? = some (v, sz)) (hb : ARel G s (.bld i v xs) (.slice (some A) xs.length c)) (hsp : A.spot = none) (hroom : xs.length + ys.length ≤ c)
    (hs : ∀ y, y ∈ ys → y.cells.length = sz) (hc : CRel G.M (flat ys) us) (hpos : 0 < ys.length) :
    ∃ vs T, w.heap[A.block]? = some (.cells vs T (0, 0)) ∧ A.off + xs.length * sz + us.length ≤ vs.size ∧
    ∃ G', SRel F w0 M0 G' { s with tp := s.tp.set i (v + 1, sz) } (w.setRow A.block (splice vs (A.off + xs.length * sz) us)) ∧ Ext G s G' { s with tp := s.tp.set i (v + 1, sz) } ∧
      ARel G' { s with tp := s.tp.set i (v + 1, sz) } (.bld i (v + 1) (xs ++ ys)) (.slice (some A) (xs.length + ys.length) c) := by
  obtain ⟨b, o0, spot⟩ := A
  simp only at hsp
  subst hsp
  obtain ⟨hil, hrep, htl⟩ := hb
  obtain ⟨⟨A', k1, k2⟩, k3⟩ := (htl _ hv).2 rfl
  injection k1 with k1 k1' k1''
  subst k1
  obtain ⟨⟨t1, t2⟩, t3⟩ := h.tp i _ hv
  simp only at t1
  rw [t1] at k2 t2 k3
  have htail := k2 (by omega)
  simp only [Option.map_some, Addr.add_lit] at htail
  rcases t3 with ⟨e, _⟩ | ⟨b', o, vs, T, g1, g2, g3, g4⟩
  · rw [e] at htail; cases htail
  rw [g1] at htail
  simp only [Option.some.injEq, Addr.mk.injEq, and_true] at htail
  obtain ⟨rfl, rfl⟩ := htail
  rw [t1] at g4
  have hul : us.length = ys.length * sz := by rw [hc.1, length_flat hs]
  have hle : ys.length * sz ≤ (G.τ i).room * sz := Nat.mul_le_mul_right _ (by omega)
  have hfit : o0 + xs.length * sz + us.length ≤ vs.size := by omega
  refine ⟨vs, T, g3, hfit, ?_⟩
  -- the memory that is told from now on
  let M' : Mem := fun a => if a.block = b ∧ a.spot = none ∧ o0 + xs.length * sz ≤ a.off ∧ a.off < o0 + xs.length * sz + us.length then us[a.off - (o0 + xs.length * sz)]? else G.M a
  have htailB : (G.τ i).tail = some ⟨b, o0 + xs.length * sz, none⟩ := g1
  have hMb : ∀ a u, G.M a = some u → a.block = b → a.off < o0 + xs.length * sz := fun a u e hab => by
    rcases h.ownM a u e with e' | ⟨j, ad, hj, e1, e2, e3⟩
    · rw [hab, g2] at e'; cases e'
    · rw [hab, g2] at e1
      injection e1 with e1
      subst e1
      rw [htailB] at e2
      obtain rfl := Option.some.inj e2
      exact e3
  have hM : G.M.le M' := fun a u e => by
    simp only [M']
    rw [if_neg]
    · exact e
    · rintro ⟨h1, h2, h3, h4⟩
      have := hMb a u e h1
      omega
  have hM2 : ∀ a u, M' a = some u → G.M a = some u ∨ (a.block = b ∧ a.spot = none ∧ a.off < o0 + xs.length * sz + us.length ∧ o0 + xs.length * sz ≤ a.off ∧ us[a.off - (o0 + xs.length * sz)]? = some u) := fun a u e => by
    simp only [M'] at e
    split at e
    · rename_i hcnd; exact .inr ⟨hcnd.1, hcnd.2.1, hcnd.2.2.2, hcnd.2.2.1, e⟩
    · exact .inl e
  let hd : TH := ⟨some ⟨b, o0 + xs.length * sz + us.length, none⟩, (G.τ i).room - ys.length, sz⟩
  have hv' := TpAt.set hv sz
  have he := Ext.tpAt (G := G) hv' hM G.own hd
  have hlt : b < w.heap.size := (h.own b (by rw [g2]; simp)).1
  have hne : ∀ b', G.own b' ≠ .tip i → b' ≠ b := fun b' hn e => hn (by rw [e]; exact g2)
  refine ⟨{ G with M := M', τ := fun j => if j = i then hd else G.τ j }, ⟨h.os, h.tape, h.output, by simpa [World.setRow] using h.size, ?_, ?_, Mem.le_trans h.base hM, ?_, ?_, ?_, ?_, ?_, ?_⟩, he, ?_⟩
  · intro k hk hF
    have : k ≠ b := by
      rintro rfl
      rcases (h.own k (by rw [g2]; simp)).2 with p3 | p3
      · exact hF p3
      · omega
    rw [setRow_other w b k _ this]
    exact h.old k hk hF
  · intro a u e
    have hrow := setRow_heap w b vs (splice vs (o0 + xs.length * sz) us) T _ g3
    rcases hM2 a u e with e | ⟨h1, h2, h3, h4, h5⟩
    · by_cases hab : a.block = b
      · have hof := hMb a u e hab
        have hag := h.agree a u e
        simp only [World.cell?, hab, g3, hrow] at hag ⊢
        split at hag
        · cases hag
        · rename_i hs'
          rw [if_neg hs', splice_old hfit (.inl hof)]; exact hag
      · rw [setRow_cell_other _ _ _ hab]; exact h.agree a u e
    · obtain ⟨ab, ao, as⟩ := a
      simp only at h1 h2 h3 h4 h5
      subst h1; subst h2
      simp only [World.cell?, hrow]
      have : ao = o0 + xs.length * sz + (ao - (o0 + xs.length * sz)) := by omega
      rw [this]
      simp only [Option.isSome_none, Bool.false_eq_true, if_false]
      rw [splice_new hfit (by omega)]
      exact h5
  · intro a u e
    rcases hM2 a u e with e | ⟨h1, _⟩
    · exact h.newM a u e
    · rcases (h.own b (by rw [g2]; simp)).2 with p3 | p3
      · exact .inr (.inr (by rw [h1]; exact p3))
      · exact .inr (.inl (by rw [h1]; exact p3))
  · intro b' hb'
    exact ⟨by have := (h.own b' hb').1; simpa [World.setRow] using this, (h.own b' hb').2⟩
  · intro a u e
    rcases hM2 a u e with e | ⟨h1, h2, h3, h4, h5⟩
    · rcases h.ownM a u e with e' | ⟨j, ad, hj, e1, e2, e3⟩
      · exact .inl e'
      · right
        by_cases hji : j = i
        · subst hji
          refine ⟨j, _, by simpa using hj, e1, by simp only [if_true]; rfl, ?_⟩
          rw [htailB] at e2
          obtain rfl := Option.some.inj e2
          simp only at e3 ⊢; omega
        · exact ⟨j, ad, by simpa using hj, e1, by simp only [if_neg hji]; exact e2, e3⟩
    · right
      exact ⟨i, _, by simpa using hil, by rw [h1]; exact g2, by simp only [if_true]; rfl, h3⟩
  · intro j z cs b' h1 h2
    obtain ⟨q1, q2, q3, us', T', q4, q5, q6⟩ := h.bx j z cs b' h1 h2
    refine ⟨q1, by simpa [World.setRow] using q2, q3, us', T', ?_, q5, fun k c v hk hv' => ⟨(q6 k c v hk hv').1.ext he, (q6 k c v hk hv').2⟩⟩
    rw [setRow_other w b b' _ (hne b' (by rw [q1]; cases z <;> simp))]
    exact q4
  · intro j ver' sz' ys' h1
    obtain ⟨q0, q1, q2⟩ := h.vc j ver' sz' ys' h1
    refine ⟨q0, q1, ?_⟩
    rcases q2 with q2 | ⟨b', o', us', T', m1, m2, m3, m4, m5, m6⟩
    · exact .inl q2
    · refine .inr ⟨b', o', us', T', m1, m2, ?_, m4, m5, fun j x k y e1 e2 => by obtain ⟨v, e3, e4⟩ := m6 j x k y e1 e2; exact ⟨v, e3, e4.mono hM⟩⟩
      rw [setRow_other w b b' _ (hne b' (by rw [m2]; simp))]
      exact m3
  · intro j e h1
    by_cases hji : j = i
    · subst hji
      simp only [List.getElem?_set_self hil, Option.some.injEq] at h1
      subst h1
      simp only [if_true]
      refine ⟨⟨rfl, t2⟩, .inr ⟨b, o0 + xs.length * sz + us.length, _, T, rfl, g2, setRow_heap w b vs _ T _ g3, ?_⟩⟩
      rw [size_splice hfit]
      simp only [hd]
      rw [Nat.sub_mul]
      omega
    · simp only [List.getElem?_set_ne (Ne.symm hji)] at h1
      obtain ⟨q0, q2⟩ := h.tp j e h1
      simp only [if_neg hji]
      refine ⟨q0, ?_⟩
      rcases q2 with q2 | ⟨b', o', us', T', m1, m2, m3, m4⟩
      · exact .inl q2
      · refine .inr ⟨b', o', us', T', m1, m2, ?_, m4⟩
        rw [setRow_other w b b' _ (hne b' (by rw [m2]; simp; omega))]
        exact m3
  · have hlen : (xs ++ ys).length = xs.length + ys.length := by simp
    refine ⟨by simpa using hil, ?_, fun cur h1 => ?_⟩
    · rw [← hlen]
      exact rep_more hrep hM k3 hs t2 hroom (fun i p hp => by
        have hi : i < (flat ys).length := (List.getElem?_eq_some_iff.1 hp).1
        have hi2 : i < us.length := by rw [hc.1]; exact hi
        obtain ⟨c1, c2⟩ := hc.2 i p us[i] hp (List.getElem?_eq_getElem hi2)
        refine ⟨us[i], ?_, c1.mono hM, c2⟩
        rw [Addr.add_lit]
        show (if b = b ∧ (none : Option Nat) = none ∧ o0 + xs.length * sz ≤ o0 + (xs.length * sz + i) ∧ o0 + (xs.length * sz + i) < o0 + xs.length * sz + us.length then us[o0 + (xs.length * sz + i) - (o0 + xs.length * sz)]? else _) = _
        rw [if_pos ⟨rfl, rfl, by omega, by omega⟩, show o0 + (xs.length * sz + i) - (o0 + xs.length * sz) = i by omega]
        exact List.getElem?_eq_getElem hi2)
    · simp only [List.getElem?_set_self hil, Option.some.injEq] at h1
      subst h1
      refine ⟨Nat.le_refl _, fun _ => ⟨⟨some ⟨b, o0, none⟩, ?_, fun _ => ?_⟩, ?_⟩⟩
      · simp only [if_true, hd, hlen]; congr 1; omega
      · simp only [if_true, hd, Option.map_some, Addr.add_lit, hlen]
        rw [Nat.add_mul, hul]; congr 2; omega
      · simp only [if_true, hd]
        intro x hx
        rcases List.mem_append.1 hx with hx | hx
        · exact k3 x hx
        · exact hs x hx
end
end Go.AL
