/- Memory of the call's own: what a write leaves. -/
import Derived.Test.YtlmodlihiglnhaaALn
import Derived.Laws.CopyRow
set_option linter.unusedVariables false
set_option linter.unusedSimpArgs false
namespace Go.AL
open Go.RowKit

section
variable {F : Nat → Prop} {w0 : World} {M0 : Mem} {G : Gh} {s : St} {w : World}

theorem setRow_cell_other (w : World) (g : Nat) (cs : Array Value) {a : Addr} (h : a.block ≠ g) : (w.setRow g cs).cell? a = w.cell? a := by
  simp only [World.cell?, setRow_other w g a.block cs h]

/-- A new box. -/
theorem SRel.newBox (h : SRel F w0 M0 G s w) {cs : List AV} {vs : Array Value} (T : TypeId) (hl : vs.size = cs.length) (hc : ∀ (k : Nat) c v, cs[k]? = some c → vs[k]? = some v → ARel G s c v ∧ v.oneCell' = true) :
    ∃ G', SRel F w0 M0 G' { s with bx := s.bx ++ [(false, cs)] } (w.alloc (.cells vs T)) ∧ Ext G s G' { s with bx := s.bx ++ [(false, cs)] } ∧
      ARel G' { s with bx := s.bx ++ [(false, cs)] } (.box s.bx.length 0) (.pointer (some ⟨w.heap.size, 0, none⟩)) := by
  let G' : Gh := { G with μ := fun i => if i = s.bx.length then some w.heap.size else G.μ i, own := fun b => if b = w.heap.size then .box s.bx.length else G.own b }
  have ha := h.alloc (.cells vs T)
  have he : Ext G s G' { s with bx := s.bx ++ [(false, cs)] } :=
    ⟨Mem.le_refl _, by simp, Nat.le_refl _, Nat.le_refl _, fun i b hi hb => by simp only [G']; rw [if_neg (by omega)]; exact hb, fun i _ cur xs h => ⟨cur, xs, h, Nat.le_refl _, fun _ => ⟨rfl, rfl⟩⟩, fun i _ cur h => ⟨cur, h, Nat.le_refl _, fun _ => rfl⟩⟩
  have hown : ∀ b, G.own b ≠ .free → G'.own b = G.own b := fun b hb => by
    have := (h.own b hb).1
    simp only [G']; rw [if_neg (by omega)]
  refine ⟨G', ⟨ha.os, ha.tape, ha.output, ha.size, ha.old, ha.agree, ha.base, ha.newM, ?_, ?_, ?_, ?_, ?_⟩, he, ?_⟩
  · intro b hb
    by_cases hbs : b = w.heap.size
    · subst hbs; exact ⟨by simp, .inr h.size⟩
    · simp only [G'] at hb; rw [if_neg hbs] at hb; exact ha.own b hb
  · intro a v hM
    have := M_lt h hM
    rcases h.ownM a v hM with e | ⟨i, ad, hi, e1, e2⟩
    · left; simp only [G']; rw [if_neg (by omega)]; exact e
    · right; exact ⟨i, ad, hi, by rw [hown _ (by rw [e1]; simp)]; exact e1, e2⟩
  · intro i z cs' b h1 h2
    by_cases hi : i < s.bx.length
    · rw [List.getElem?_append_left hi] at h1
      have h2' : G.μ i = some b := by simp only [G'] at h2; rw [if_neg (by omega)] at h2; exact h2
      obtain ⟨q1, q2, q3, us, T', q4, q5, q6⟩ := ha.bx i z cs' b h1 h2'
      have q2' := (h.bx i z cs' b h1 h2').2.1
      refine ⟨?_, q2, q3, us, T', q4, q5, fun k c v hk hv => ⟨(q6 k c v hk hv).1.ext he, (q6 k c v hk hv).2⟩⟩
      simp only [G']; rw [if_neg (by omega)]; exact q1
    · have hil : i < (s.bx ++ [(false, cs)]).length := (List.getElem?_eq_some_iff.1 h1).1
      have hi' : i = s.bx.length := by simp at hil; omega
      subst hi'
      simp at h1
      obtain ⟨rfl, rfl⟩ := h1
      have h2' : w.heap.size = b := by simp only [G', if_true] at h2; exact Option.some.inj h2
      subst h2'
      refine ⟨by simp [G'], by simp, .inr h.size, vs, T, heap_alloc_new' w _, hl, fun k c v hk hv => ⟨(hc k c v hk hv).1.ext he, (hc k c v hk hv).2⟩⟩
  · intro i ver sz xs h1
    obtain ⟨q0, q1, q2⟩ := ha.vc i ver sz xs h1
    refine ⟨q0, q1, ?_⟩
    rcases q2 with q2 | ⟨b, o, us, T', k1, k2, k3⟩
    · exact .inl q2
    · exact .inr ⟨b, o, us, T', k1, by rw [hown b (by rw [k2]; simp)]; exact k2, k3⟩
  · intro i e h1
    obtain ⟨q0, q2⟩ := ha.tp i e h1
    refine ⟨q0, ?_⟩
    rcases q2 with q2 | ⟨b, o, us, T', k1, k2, k3⟩
    · exact .inl q2
    · exact .inr ⟨b, o, us, T', k1, by rw [hown b (by rw [k2]; simp)]; exact k2, k3⟩
  · exact ⟨by simp, w.heap.size, by simp [G'], rfl⟩

/-- A box that is written. -/
theorem SRel.updBox (h : SRel F w0 M0 G s w) {i : Nat} {cs cs' : List AV} {b : Nat} {vs' : Array Value} (hi : s.bx[i]? = some (false, cs)) (hb : G.μ i = some b)
    (hl : vs'.size = cs'.length) (hc : ∀ (k : Nat) c v, cs'[k]? = some c → vs'[k]? = some v → ARel G s c v ∧ v.oneCell' = true) :
    SRel F w0 M0 G { s with bx := s.bx.set i (false, cs') } (w.setRow b vs') ∧ Ext G s G { s with bx := s.bx.set i (false, cs') } := by
  have he : Ext G s G { s with bx := s.bx.set i (false, cs') } :=
    ⟨Mem.le_refl _, by simp, Nat.le_refl _, Nat.le_refl _, fun _ _ _ h => h, fun i _ cur xs h => ⟨cur, xs, h, Nat.le_refl _, fun _ => ⟨rfl, rfl⟩⟩, fun i _ cur h => ⟨cur, h, Nat.le_refl _, fun _ => rfl⟩⟩
  obtain ⟨p1, p2, p3, vs, T, p4, p5, p6⟩ := h.bx i false cs b hi hb
  simp only [cond_false] at p1
  have hne : ∀ b', G.own b' ≠ .box i → b' ≠ b := fun b' hn e => hn (by rw [e]; exact p1)
  refine ⟨⟨h.os, h.tape, h.output, by simpa [World.setRow] using h.size, ?_, ?_, h.base, h.newM, ?_, h.ownM, ?_, ?_, ?_⟩, he⟩
  · intro k hk hF
    have : k ≠ b := by
      rintro rfl
      rcases p3 with p3 | p3
      · exact hF p3
      · omega
    rw [setRow_other w b k vs' this]
    exact h.old k hk hF
  · intro a v hM
    rw [setRow_cell_other]
    · exact h.agree a v hM
    · refine hne _ ?_
      rcases h.ownM a v hM with e | ⟨j, ad, _, e, _⟩ <;> rw [e] <;> simp
  · intro b' hb'
    exact ⟨by have := (h.own b' hb').1; simpa [World.setRow] using this, (h.own b' hb').2⟩
  · intro j z cs2 b' h1 h2
    by_cases hij : i = j
    · subst hij
      have hlt : i < s.bx.length := (List.getElem?_eq_some_iff.1 hi).1
      rw [List.getElem?_set_self hlt] at h1
      simp only [Option.some.injEq, Prod.mk.injEq] at h1
      obtain ⟨rfl, rfl⟩ := h1
      rw [hb] at h2
      obtain rfl := Option.some.inj h2
      exact ⟨p1, by simpa [World.setRow] using p2, p3, vs', T, setRow_heap w b vs vs' T _ p4, hl, fun k c v hk hv => ⟨(hc k c v hk hv).1.ext he, (hc k c v hk hv).2⟩⟩
    · rw [List.getElem?_set_ne hij] at h1
      obtain ⟨q1, q2, q3, us, T', q4, q5, q6⟩ := h.bx j z cs2 b' h1 h2
      refine ⟨q1, by simpa [World.setRow] using q2, q3, us, T', ?_, q5, fun k c v hk hv => ⟨(q6 k c v hk hv).1.ext he, (q6 k c v hk hv).2⟩⟩
      rw [setRow_other w b b' vs' (hne b' (by rw [q1]; cases z <;> simp; omega))]
      exact q4
  · intro j ver sz xs h1
    obtain ⟨q0, q1, q2⟩ := h.vc j ver sz xs h1
    refine ⟨q0, q1, ?_⟩
    rcases q2 with q2 | ⟨b', o, us, T', k1, k2, k3, k4⟩
    · exact .inl q2
    · refine .inr ⟨b', o, us, T', k1, k2, ?_, k4⟩
      rw [setRow_other w b b' vs' (hne b' (by rw [k2]; simp))]
      exact k3
  · intro j e h1
    obtain ⟨q0, q2⟩ := h.tp j e h1
    refine ⟨q0, ?_⟩
    rcases q2 with q2 | ⟨b', o, us, T', k1, k2, k3, k4⟩
    · exact .inl q2
    · refine .inr ⟨b', o, us, T', k1, k2, ?_, k4⟩
      rw [setRow_other w b b' vs' (hne b' (by rw [k2]; simp))]
      exact k3

/-- A vector that is written. -/
theorem SRel.updVec (h : SRel F w0 M0 G s w) {i ver sz : Nat} {xs xs' : List PV} {b o : Nat} {vs vs' : Array Value} {T : TypeId} (hi : s.vc[i]? = some (some (ver, sz, xs))) (hA : (G.ν i).A = some ⟨b, o, none⟩) (ho : G.own b = .vec i) (hp : w.heap[b]? = some (.cells vs T (0, 0)))
    (hl : vs'.size = vs.size) (hxl : xs'.length = xs.length) (hs : ∀ x, x ∈ xs' → x.cells.length = sz ∧ ∀ y, y ∈ x.cells → y.one = true)
    (hc : ∀ j x k y, xs'[j]? = some x → x.cells[k]? = some y → ∃ v, vs'[o + (j * sz + k)]? = some v ∧ PRep G.M y v) :
    SRel F w0 M0 G { s with vc := s.vc.set i (some (ver, sz, xs')) } (w.setRow b vs') ∧ Ext G s G { s with vc := s.vc.set i (some (ver, sz, xs')) } := by
  have hlt : i < s.vc.length := (List.getElem?_eq_some_iff.1 hi).1
  have he : Ext G s G { s with vc := s.vc.set i (some (ver, sz, xs')) } :=
    ⟨Mem.le_refl _, Nat.le_refl _, by simp, Nat.le_refl _, fun _ _ _ h => h, fun j _ cur ys e => by
      by_cases hij : i = j
      · subst hij
        rw [List.getElem?_set_self hlt] at e
        simp only [Option.some.injEq, Prod.mk.injEq] at e
        obtain ⟨rfl, rfl⟩ := e
        exact ⟨ver, (sz, xs), hi, Nat.le_refl _, fun _ => ⟨hxl.symm, rfl⟩⟩
      · rw [List.getElem?_set_ne hij] at e
        exact ⟨cur, ys, e, Nat.le_refl _, fun _ => ⟨rfl, rfl⟩⟩, fun i _ cur h => ⟨cur, h, Nat.le_refl _, fun _ => rfl⟩⟩
  have hne : ∀ b', G.own b' ≠ .vec i → b' ≠ b := fun b' hn e => hn (by rw [e]; exact ho)
  obtain ⟨⟨r0, r0'⟩, r1, r2⟩ := h.vc i ver sz xs hi
  refine ⟨⟨h.os, h.tape, h.output, by simpa [World.setRow] using h.size, ?_, ?_, h.base, h.newM, ?_, h.ownM, ?_, ?_, ?_⟩, he⟩
  · intro k hk hF
    have : k ≠ b := by
      rintro rfl
      rcases (h.own k (by rw [ho]; simp)).2 with p3 | p3
      · exact hF p3
      · omega
    rw [setRow_other w b k vs' this]
    exact h.old k hk hF
  · intro a v hM
    rw [setRow_cell_other]
    · exact h.agree a v hM
    · refine hne _ ?_
      rcases h.ownM a v hM with e | ⟨j, ad, _, e, _⟩ <;> rw [e] <;> simp
  · intro b' hb'
    exact ⟨by have := (h.own b' hb').1; simpa [World.setRow] using this, (h.own b' hb').2⟩
  · intro j z cs2 b' h1 h2
    obtain ⟨q1, q2, q3, us, T', q4, q5, q6⟩ := h.bx j z cs2 b' h1 h2
    refine ⟨q1, by simpa [World.setRow] using q2, q3, us, T', ?_, q5, fun k c v hk hv => ⟨(q6 k c v hk hv).1.ext he, (q6 k c v hk hv).2⟩⟩
    rw [setRow_other w b b' vs' (hne b' (by rw [q1]; cases z <;> simp))]
    exact q4
  · intro j ver' sz' ys h1
    by_cases hij : i = j
    · subst hij
      rw [List.getElem?_set_self hlt] at h1
      simp only [Option.some.injEq, Prod.mk.injEq] at h1
      obtain ⟨rfl, rfl, rfl⟩ := h1
      refine ⟨⟨r0, r0'⟩, by rw [r0]; exact hs, .inr ⟨b, o, vs', T, hA, ho, setRow_heap w b vs vs' T _ hp, ?_, ?_, by rw [r0]; exact hc⟩⟩
      · rcases r2 with ⟨e, _⟩ | ⟨b', o', us, T', k1, k2, k3, k4, k5, _⟩
        · rw [hA] at e; cases e
        · rw [hA] at k1
          simp only [Option.some.injEq, Addr.mk.injEq] at k1
          obtain ⟨rfl, rfl, _⟩ := k1
          rw [hp] at k3
          simp only [Option.some.injEq, Obj.cells.injEq] at k3
          obtain ⟨rfl, _⟩ := k3
          rw [hl]; exact k4
      · rcases r2 with ⟨e, _⟩ | ⟨b', o', us, T', k1, k2, k3, k4, k5, _⟩
        · rw [hA] at e; cases e
        · rw [hxl]; exact k5
    · rw [List.getElem?_set_ne hij] at h1
      obtain ⟨q0, q1, q2⟩ := h.vc j ver' sz' ys h1
      refine ⟨q0, q1, ?_⟩
      rcases q2 with q2 | ⟨b', o', us, T', k1, k2, k3, k4⟩
      · exact .inl q2
      · refine .inr ⟨b', o', us, T', k1, k2, ?_, k4⟩
        rw [setRow_other w b b' vs' (hne b' (by rw [k2]; simp; omega))]
        exact k3
  · intro j e h1
    obtain ⟨q0, q2⟩ := h.tp j e h1
    refine ⟨q0, ?_⟩
    rcases q2 with q2 | ⟨b', o', us, T', k1, k2, k3, k4⟩
    · exact .inl q2
    · refine .inr ⟨b', o', us, T', k1, k2, ?_, k4⟩
      rw [setRow_other w b b' vs' (hne b' (by rw [k2]; simp))]
      exact k3
end
end Go.AL
