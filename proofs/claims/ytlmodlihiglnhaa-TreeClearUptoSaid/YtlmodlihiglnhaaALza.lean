/- Regions whose order is drawn: each operation by itself. -/
import Derived.Test.YtlmodlihiglnhaaALz
set_option linter.unusedVariables false
set_option linter.unusedSimpArgs false
namespace Go.AL
open Go.RowKit

theorem mem_iff {l : List Nat} {i : Nat} : mem l i = true ↔ i ∈ l := by
  induction l with
  | nil => simp [mem]
  | cons a l ih =>
    simp only [mem, Bool.or_eq_true, List.mem_cons, ih]
    constructor
    · rintro (h | h)
      · exact .inl (beq_eq h).symm
      · exact .inr h
    · rintro (rfl | h)
      · exact .inl (Nat.beq_refl _)
      · exact .inr h

section
variable {F : Nat → Prop} {w0 : World} {M0 : Mem} {G : Gh} {s : St} {w : World}

/-- Boxes that are kept for later. -/
theorem SRel.pend (h : SRel F w0 M0 G s w) (m : Nat) : ∃ G', SRel F w0 M0 G' { s with bx := s.bx ++ List.replicate m (true, []) } w ∧ Ext G s G' { s with bx := s.bx ++ List.replicate m (true, []) } ∧ ∀ b, s.bx.length ≤ b → G'.μ b = none := by
  let G' : Gh := { G with μ := fun i => if i < s.bx.length then G.μ i else none }
  have he : Ext G s G' { s with bx := s.bx ++ List.replicate m (true, []) } :=
    ⟨Mem.le_refl _, by simp, Nat.le_refl _, Nat.le_refl _, fun i b hi hb => by simp only [G']; rw [if_pos hi]; exact hb, fun i _ cur xs h => ⟨cur, xs, h, Nat.le_refl _, fun _ => ⟨rfl, rfl⟩⟩, fun i _ cur h => ⟨cur, h, Nat.le_refl _, fun _ => rfl⟩⟩
  refine ⟨G', ⟨h.os, h.tape, h.output, h.size, h.old, h.agree, h.base, h.newM, h.own, h.ownM, ?_, h.vc, h.tp⟩, he, fun b hb => by simp only [G']; rw [if_neg (by omega)]⟩
  intro i z cs b h1 h2
  have hi : i < s.bx.length := by
    by_cases hi : i < s.bx.length
    · exact hi
    · simp only [G'] at h2; rw [if_neg hi] at h2; cases h2
  simp only [G'] at h2
  rw [if_pos hi] at h2
  rw [List.getElem?_append_left hi] at h1
  obtain ⟨q1, q2, q3, us, T', q4, q5, q6⟩ := h.bx i z cs b h1 h2
  exact ⟨q1, q2, q3, us, T', q4, q5, fun k c v hk hv => ⟨(q6 k c v hk hv).1.ext he, (q6 k c v hk hv).2⟩⟩

/-- A box that was kept comes to be. -/
theorem SRel.allocAt (h : SRel F w0 M0 G s w) {n : Nat} (hn : s.bx[n]? = some (true, [])) (hμ : G.μ n = none) {cs : List AV} {vs : Array Value} (T : TypeId) (hl : vs.size = cs.length) (hc : ∀ (k : Nat) c v, cs[k]? = some c → vs[k]? = some v → ARel G s c v ∧ v.oneCell' = true) :
    ∃ G', SRel F w0 M0 G' { s with bx := s.bx.set n (false, cs) } (w.alloc (.cells vs T)) ∧ (∀ a v, ARel G s a v → ARel G' { s with bx := s.bx.set n (false, cs) } a v) ∧ (∀ i, i ≠ n → G'.μ i = G.μ i) ∧
      ARel G' { s with bx := s.bx.set n (false, cs) } (.box n 0) (.pointer (some ⟨w.heap.size, 0, none⟩)) := by
  have hnl : n < s.bx.length := (List.getElem?_eq_some_iff.1 hn).1
  let G' : Gh := { G with μ := fun i => if i = n then some w.heap.size else G.μ i, own := fun b => if b = w.heap.size then .box n else G.own b }
  have ha := h.alloc (.cells vs T)
  have he1 : ∀ a v, ARel1 G s a v → ARel1 G' { s with bx := s.bx.set n (false, cs) } a v := by
    intro a v hr
    cases a with
    | box i off =>
      obtain ⟨hi, b, hb, rfl⟩ := hr
      have : i ≠ n := by rintro rfl; rw [hμ] at hb; cases hb
      exact ⟨by simpa using hi, b, by simp only [G']; rw [if_neg this]; exact hb, rfl⟩
    | _ => exact hr
  have he : ∀ a v, ARel G s a v → ARel G' { s with bx := s.bx.set n (false, cs) } a v := by
    intro a v hr
    cases a with
    | agg l =>
      obtain ⟨us, e, hl', hr'⟩ := hr
      exact ⟨us, e, hl', fun k c u h1 h2 => ⟨he1 c u (hr' k c u h1 h2).1, (hr' k c u h1 h2).2⟩⟩
    | pv p => exact he1 (.pv p) v hr
    | box i o => exact he1 (.box i o) v hr
    | vec i o => exact he1 (.vec i o) v hr
    | elt i o j k => exact he1 (.elt i o j k) v hr
    | bld i e xs => exact he1 (.bld i e xs) v hr
    | undef => exact hr
    | any => trivial
  have hown : ∀ b, G.own b ≠ .free → G'.own b = G.own b := fun b hb => by
    have := (h.own b hb).1
    simp only [G']; rw [if_neg (by omega)]
  refine ⟨G', ⟨ha.os, ha.tape, ha.output, ha.size, ha.old, ha.agree, ha.base, ha.newM, ?_, ?_, ?_, ?_, ?_⟩, he, fun i hi => by simp only [G']; rw [if_neg hi], by simpa using hnl, w.heap.size, by simp [G'], rfl⟩
  · intro b hb
    by_cases hbs : b = w.heap.size
    · subst hbs; exact ⟨by simp, .inr h.size⟩
    · simp only [G'] at hb; rw [if_neg hbs] at hb; exact ha.own b hb
  · intro a v hM
    have := M_lt h hM
    rcases h.ownM a v hM with e | ⟨i, ad, hi, e1, e2⟩
    · left; simp only [G']; rw [if_neg (by omega)]; exact e
    · right; exact ⟨i, ad, hi, by rw [hown _ (by rw [e1]; simp)]; exact e1, e2⟩
  · intro i z cs' b h1 h2
    by_cases hi : n = i
    · subst hi
      rw [List.getElem?_set_self hnl] at h1
      simp only [Option.some.injEq, Prod.mk.injEq] at h1
      obtain ⟨rfl, rfl⟩ := h1
      have h2' : w.heap.size = b := by simp only [G', if_true] at h2; exact Option.some.inj h2
      subst h2'
      exact ⟨by simp [G'], by simp, .inr h.size, vs, T, heap_alloc_new' w _, hl, fun k c v hk hv => ⟨he _ _ (hc k c v hk hv).1, (hc k c v hk hv).2⟩⟩
    · rw [List.getElem?_set_ne hi] at h1
      have h2' : G.μ i = some b := by simp only [G'] at h2; rw [if_neg (by omega)] at h2; exact h2
      obtain ⟨q1, q2, q3, us, T', q4, q5, q6⟩ := ha.bx i z cs' b h1 h2'
      have q2' := (h.bx i z cs' b h1 h2').2.1
      refine ⟨?_, q2, q3, us, T', q4, q5, fun k c v hk hv => ⟨he _ _ (q6 k c v hk hv).1, (q6 k c v hk hv).2⟩⟩
      simp only [G']; rw [if_neg (by omega)]; exact q1
  · intro i ver sz xs h1
    obtain ⟨q0, q1, q2⟩ := ha.vc i ver sz xs h1
    refine ⟨q0, q1, ?_⟩
    rcases q2 with q2 | ⟨b, o, us, T', k1, k2, k3⟩
    · exact .inl q2
    · exact .inr ⟨b, o, us, T', k1, by rw [hown b (by rw [k2]; simp)]; exact k2, k3⟩
  · intro i e h1
    obtain ⟨q0, q2⟩ := ha.tp i e h1
    refine ⟨q0, ?_⟩
    rcases q2 with q2 | ⟨b, o, us, T', k1, k2, k3⟩
    · exact .inl q2
    · exact .inr ⟨b, o, us, T', k1, by rw [hown b (by rw [k2]; simp)]; exact k2, k3⟩
end

section
variable {P : Program} {E : Env} {f : FuncId} {ρ : Type}

theorem avR_rel {G : Gh} {s : St} {x : AS} {a : Act} {looks : List Nat} (hl : a.tmps.size = x.t.length) (h : ∀ t, t ∈ looks → ∀ b v, x.t[t]? = some b → a.tmps[t]? = some v → ARel G s b v) : Avs (avR looks x) G s a := by
  intro y b hy
  cases y with
  | tmp t =>
    simp only [avR] at hy
    replace hy := bif_some hy
    obtain ⟨h1, h2⟩ := hy
    have hlt : t < a.tmps.size := by rw [hl]; exact (List.getElem?_eq_some_iff.1 h2).1
    have := h t (mem_iff.1 h1) b a.tmps[t] h2 (Array.getElem?_eq_getElem hlt)
    simpa [Act.eval, Array.getD, hlt] using this
  | const c => exact aval_rel (x := ⟨[], s⟩) (a := { a with tmps := #[] }) (y := .const c) (v := b) ⟨rfl, by simp⟩ hy
  | global c => exact aval_rel (x := ⟨[], s⟩) (a := { a with tmps := #[] }) (y := .global c) (v := b) ⟨rfl, by simp⟩ hy
  | func c => exact aval_rel (x := ⟨[], s⟩) (a := { a with tmps := #[] }) (y := .func c) (v := b) ⟨rfl, by simp⟩ hy

/-- What an operation of such a region leaves, at a state that agrees with what it looks at. -/
def Post (F : Nat → Prop) (w0 : World) (M0 : Mem) (G : Gh) (s : St) (v : AV) (xs' : St) (fp : Fp) (u : Value) (w' : World) : Prop :=
  ∃ G' s', SRel F w0 M0 G' s' w' ∧ (∀ b z, ARel G s b z → ARel G' s' b z) ∧ (∀ b, b < s.bx.length → b ∉ fp.w → G.μ b = none → G'.μ b = none) ∧ ARel G' s' v u ∧ s'.bx.length = s.bx.length ∧
    (∀ b, b ∈ fp.w → s'.bx[b]? = xs'.bx[b]?) ∧ (∀ b, b ∉ fp.w → s'.bx[b]? = s.bx[b]?) ∧ (fp.tv = true → s'.vc = xs'.vc ∧ s'.tp = xs'.tp) ∧ (fp.tv = false → s'.vc = s.vc ∧ s'.tp = s.tp)

structure Agree (G : Gh) (s : St) (xs : St) (fp : Fp) (np : Nat) : Prop where
  len : s.bx.length = xs.bx.length
  bx : ∀ b, b ∈ fp.r ∨ b ∈ fp.w → s.bx[b]? = xs.bx[b]?
  tv : fp.tv = true → s.vc = xs.vc ∧ s.tp = xs.tp
  pend : ∀ b, np ≤ b → s.bx[b]? = some (true, []) → G.μ b = none

structure Shape (xs s' : St) (fp : Fp) : Prop where
  len : s'.bx.length = xs.bx.length
  same : ∀ b, b ∉ fp.w → s'.bx[b]? = xs.bx[b]?
  wr : ∀ b, b ∈ fp.w → ∃ cs, s'.bx[b]? = some (false, cs)
  tv : fp.tv = false → s'.vc = xs.vc ∧ s'.tp = xs.tp

def SemD (P : Program) (av : Av) (o : Oper) (xs : St) (v : AV) (xs' : St) (fp : Fp) (np : Nat) : Prop :=
  ∀ (F : Nat → Prop) (w0 : World) (M0 : Mem) (G : Gh) (s : St) (a : Act) (w : World), SRel F w0 M0 G s w → Avs av G s a → Agree G s xs fp np → OpTo P o a w (Post F w0 M0 G s v xs' fp)

theorem Shape.refl (s : St) (r : List Nat) (tv : Bool) : Shape s s ⟨r, [], tv⟩ := ⟨rfl, fun _ _ => rfl, fun _ h => (by cases h), fun _ => ⟨rfl, rfl⟩⟩

theorem SemD.pure {av : Av} {o : Oper} {xs : St} {v : AV} {r : List Nat} {np : Nat} (h : ∀ s, (∀ b, b ∈ r → s.bx[b]? = xs.bx[b]?) → Sound2 P o.op o.type av s v s) : SemD P av o xs v xs ⟨r, [], false⟩ np := by
  intro F w0 M0 G s a w hS hA hg
  refine (h s (fun b hb => hg.bx b (.inl hb)) F w0 M0 G a w o hS hA rfl rfl).mono fun u w' ⟨G', k1, k2, k3⟩ => ?_
  exact ⟨G', s, k1, fun b z hz => hz.ext k2, fun b hb _ hm => k2.μ b _ hb hm, k3, rfl, fun _ h => (by cases h), fun _ _ => rfl, fun h => (by cases h), fun _ => ⟨rfl, rfl⟩⟩

theorem SemD.tail {av : Av} {o : Oper} {xs xs' : St} {v : AV} {np : Nat} (hv : xs'.vc = xs.vc) (h : ∀ s : St, s.tp = xs.tp → Sound2 P o.op o.type av s v { s with tp := xs'.tp }) : SemD P av o xs v xs' ⟨[], [], true⟩ np := by
  intro F w0 M0 G s a w hS hA hg
  obtain ⟨t1, t2⟩ := hg.tv rfl
  refine (h s t2 F w0 M0 G a w o hS hA rfl rfl).mono fun u w' ⟨G', k1, k2, k3⟩ => ?_
  exact ⟨G', _, k1, fun b z hz => hz.ext k2, fun b hb _ hm => k2.μ b _ hb hm, k3, rfl, fun _ h => (by cases h), fun _ _ => rfl, fun _ => ⟨t1.trans hv.symm, rfl⟩, fun h => (by cases h)⟩

theorem SemD.both {av : Av} {o : Oper} {xs xs' : St} {v : AV} {np : Nat} (h : ∀ s : St, s.vc = xs.vc → s.tp = xs.tp → Sound2 P o.op o.type av s v { s with vc := xs'.vc, tp := xs'.tp }) : SemD P av o xs v xs' ⟨[], [], true⟩ np := by
  intro F w0 M0 G s a w hS hA hg
  obtain ⟨t1, t2⟩ := hg.tv rfl
  refine (h s t1 t2 F w0 M0 G a w o hS hA rfl rfl).mono fun u w' ⟨G', k1, k2, k3⟩ => ?_
  exact ⟨G', _, k1, fun b z hz => hz.ext k2, fun b hb _ hm => k2.μ b _ hb hm, k3, rfl, fun _ h => (by cases h), fun _ _ => rfl, fun _ => ⟨rfl, rfl⟩, fun h => (by cases h)⟩
theorem SemD.look {av : Av} {o : Oper} {xs : St} {v : AV} {np : Nat} (h : ∀ s : St, s.vc = xs.vc → s.tp = xs.tp → Sound2 P o.op o.type av s v s) : SemD P av o xs v xs ⟨[], [], true⟩ np :=
  SemD.both fun s h1 h2 => by
    have := h s h1 h2
    obtain ⟨bx, vc, tp⟩ := s
    simp only at h1 h2
    subst h1; subst h2
    exact this
theorem Shape.tvs (xs xs' : St) (h : xs'.bx = xs.bx) : Shape xs xs' ⟨[], [], true⟩ := ⟨by rw [h], fun _ _ => by rw [h], fun _ h => (by cases h), fun h => (by cases h)⟩
theorem pubAll_vc : ∀ {l : List AV} {s s2 s1 : St} {ps : List PV}, s2.vc = s.vc → pubAll l s = some (ps, s1) → ∃ s1', pubAll l s2 = some (ps, s1') ∧ s1'.vc = s1.vc
  | [], s, s2, s1, ps, hv, h => by
    simp only [pubAll, Option.some.injEq, Prod.mk.injEq] at h
    obtain ⟨rfl, rfl⟩ := h
    exact ⟨s2, rfl, hv⟩
  | v :: l, s, s2, s1, ps, hv, h => by
    simp only [pubAll] at h
    split at h
    · rename_i p is s3 hp
      split at h
      · rename_i ps' s4 hps
        simp only [Option.some.injEq, Prod.mk.injEq] at h
        obtain ⟨rfl, rfl⟩ := h
        have : ∃ s3', pass 0 v s2 = some (.pv p, is, s3') ∧ s3'.vc = s3.vc := by
          cases v with
          | vec i ver =>
            simp only [pass] at hp ⊢
            rw [hv]
            split at hp
            · rename_i cur sz xs hi
              replace hp := bif_some hp
              obtain ⟨h1, hp⟩ := hp
              simp only [Option.some.injEq, Prod.mk.injEq] at hp
              obtain ⟨h3, rfl, rfl⟩ := hp
              rw [h1]
              exact ⟨_, by rw [h3]; rfl, by simp [hv]⟩
            · cases hp
          | _ =>
            simp only [pass] at hp ⊢
            split at hp
            · rename_i q hq
              simp only [Option.some.injEq, Prod.mk.injEq] at hp
              obtain ⟨h3, rfl, rfl⟩ := hp
              exact ⟨_, by rw [h3], hv⟩
            · cases hp
        obtain ⟨s3', e1, e2⟩ := this
        obtain ⟨s4', e3, e4⟩ := pubAll_vc e2 hps
        refine ⟨s4', ?_, e4⟩
        simp only [pubAll, e1, e3]
      · cases h
    · cases h
theorem SemD.write {av : Av} {o : Oper} {xs : St} {v : AV} {i : Nat} {cs : List AV} {np : Nat} (hi : i < xs.bx.length) (h : ∀ s : St, s.bx[i]? = xs.bx[i]? → Sound2 P o.op o.type av s v { s with bx := s.bx.set i (false, cs) }) :
    SemD P av o xs v { xs with bx := xs.bx.set i (false, cs) } ⟨[], [i], false⟩ np := by
  intro F w0 M0 G s a w hS hA hg
  refine (h s (hg.bx i (.inr (by simp))) F w0 M0 G a w o hS hA rfl rfl).mono fun u w' ⟨G', k1, k2, k3⟩ => ?_
  refine ⟨G', _, k1, fun b z hz => hz.ext k2, fun b hb _ hm => k2.μ b _ hb hm, k3, by simp, fun b hb => ?_, fun b hb => ?_, fun h => (by cases h), fun _ => ⟨rfl, rfl⟩⟩
  · have : b = i := by simpa using hb
    subst this
    rw [List.getElem?_set_self (by rw [hg.len]; exact hi), List.getElem?_set_self hi]
  · have : b ≠ i := by simpa using hb
    rw [List.getElem?_set_ne (Ne.symm this)]
theorem Shape.write (xs : St) {i : Nat} (cs : List AV) (hi : i < xs.bx.length) : Shape xs { xs with bx := xs.bx.set i (false, cs) } ⟨[], [i], false⟩ :=
  ⟨by simp, fun b hb => by
    have : b ≠ i := by simpa using hb
    rw [List.getElem?_set_ne (Ne.symm this)], fun b hb => by
    have : b = i := by simpa using hb
    subst this
    exact ⟨cs, by rw [List.getElem?_set_self hi]⟩, fun _ => ⟨rfl, rfl⟩⟩

theorem SemD.alloc {av : Av} {o : Oper} {xs : St} {i : Nat} {cs : List AV} {np : Nat} (hi : xs.bx[i]? = some (true, [])) (hnp : np ≤ i)
    (h : ∀ (G : Gh) (s : St) (a : Act) (w : World), Avs av G s a → ∃ (vs : Array Value) (T : TypeId), (execOp a.eval o).run P w = .ok (.value (.pointer (some ⟨w.heap.size, 0, none⟩))) (w.alloc (.cells vs T)) ∧ vs.size = cs.length ∧ ∀ (k : Nat) c v, cs[k]? = some c → vs[k]? = some v → ARel G s c v ∧ v.oneCell' = true) :
    SemD P av o xs (.box i 0) { xs with bx := xs.bx.set i (false, cs) } ⟨[], [i], false⟩ np := by
  intro F w0 M0 G s a w hS hA hg
  have hb := hg.bx i (.inr (by simp))
  rw [hi] at hb
  have hil : i < xs.bx.length := (List.getElem?_eq_some_iff.1 hi).1
  obtain ⟨vs, T, h1, h2, h3⟩ := h G s a w hA
  obtain ⟨G', k1, k2, k3, k4⟩ := hS.allocAt hb (hg.pend i hnp hb) T h2 h3
  refine OpTo.value h1 ⟨G', _, k1, k2, fun b hb hn hm => ?_, k4, by simp, fun b hb => ?_, fun b hb => ?_, fun h => (by cases h), fun _ => ⟨rfl, rfl⟩⟩
  · have : b ≠ i := by simpa using hn
    rw [k3 b this]; exact hm
  · have : b = i := by simpa using hb
    subst this
    rw [List.getElem?_set_self (by rw [hg.len]; exact hil), List.getElem?_set_self hil]
  · have : b ≠ i := by simpa using hb
    rw [List.getElem?_set_ne (Ne.symm this)]

theorem passAll_plain {g : FuncId} {s : St} : ∀ {l : List AV} {ps : List PV} {n : Nat}, toPVs l = some ps → (∀ j, n ≤ j → j < n + l.length → E.mode g j = 0) → passAll E g n l s = some (ps.map .pv, [], s)
  | [], ps, n, h, _ => by obtain rfl := Option.some.inj h; rfl
  | v :: l, ps, n, h, hm => by
    simp only [toPVs] at h
    split at h
    · rename_i p ps' hp hps
      obtain rfl := Option.some.inj h
      have h0 : pass (E.mode g n) v s = some (.pv p, [], s) := by
        rw [hm n (Nat.le_refl _) (by simp)]
        cases v <;> simp [AV.toPV] at hp <;> simp [pass, AV.toPV, hp]
      simp only [passAll, h0]
      rw [passAll_plain hps (fun j h1 h2 => hm j (by omega) (by simp only [List.length_cons]; omega))]
      rfl
    · cases h

theorem pass_bx {mode : Nat} {v : AV} {s s1 : St} {a : Arg} {is : List Nat} (h : pass mode v s = some (a, is, s1)) : s1.bx = s.bx ∧ ∀ s2 : St, s2.vc = s.vc → s2.tp = s.tp → pass mode v s2 = some (a, is, { s2 with vc := s1.vc, tp := s1.tp }) := by
  unfold pass at h
  split at h
  · rename_i i ver
    split at h
    · rename_i cur sz xs hi
      replace h := bif_some h; obtain ⟨h1, h⟩ := h
      simp only [Option.some.injEq, Prod.mk.injEq] at h
      obtain ⟨rfl, rfl, rfl⟩ := h
      exact ⟨rfl, fun s2 e1 e2 => by simp only [pass, e1, hi, h1, cond_true, e2]⟩
    · cases h
  · rename_i hnv
    split at h
    · rename_i p hp
      simp only [Option.some.injEq, Prod.mk.injEq] at h
      obtain ⟨rfl, rfl, rfl⟩ := h
      exact ⟨rfl, fun s2 e1 e2 => by
        rw [← e1, ← e2]
        cases v with
        | vec i ver => exact absurd rfl (hnv i ver)
        | _ => simp only [pass, hp]⟩
    · cases h
  · rename_i k
    replace h := bif_some h; obtain ⟨h1, h⟩ := h
    simp only [Option.some.injEq, Prod.mk.injEq] at h
    obtain ⟨rfl, rfl, rfl⟩ := h
    exact ⟨rfl, fun s2 e1 e2 => by rw [← e1, ← e2]; simp only [pass, h1, cond_true]⟩
  · rename_i k i ver xs
    split at h
    · rename_i cur sz hi
      replace h := bif_some h; obtain ⟨h1, h⟩ := h
      simp only [Option.some.injEq, Prod.mk.injEq] at h
      obtain ⟨rfl, rfl, rfl⟩ := h
      exact ⟨rfl, fun s2 e1 e2 => by simp only [pass, e2, hi, h1, cond_true, ← e1]; rw [← e2]⟩
    · cases h
  · cases h
theorem passAll_bx {g : FuncId} : ∀ {l : List AV} {n : Nat} {s s1 : St} {as : List Arg} {ids : List Nat}, passAll E g n l s = some (as, ids, s1) → (s1.given ids).bx = s.bx ∧ ∀ s2 : St, s2.vc = s.vc → s2.tp = s.tp → passAll E g n l s2 = some (as, ids, { s2 with vc := s1.vc, tp := s1.tp })
  | [], n, s, s1, as, ids, h => by
    simp only [passAll, Option.some.injEq, Prod.mk.injEq] at h
    obtain ⟨rfl, rfl, rfl⟩ := h
    exact ⟨rfl, fun s2 e1 e2 => by simp only [passAll, ← e1, ← e2]⟩
  | v :: l, n, s, s1, as, ids, h => by
    simp only [passAll] at h
    split at h
    · rename_i a is s3 hp
      split at h
      · rename_i as' js s4 hps
        simp only [Option.some.injEq, Prod.mk.injEq] at h
        obtain ⟨rfl, rfl, rfl⟩ := h
        obtain ⟨k1, k2⟩ := pass_bx hp
        obtain ⟨k3, k4⟩ := passAll_bx hps
        refine ⟨?_, fun s2 e1 e2 => ?_⟩
        · show s4.bx = s.bx
          rw [← k1]; exact k3
        · simp only [passAll, k2 s2 e1 e2]
          rw [k4 { s2 with vc := s3.vc, tp := s3.tp } rfl rfl]
      · cases h
    · cases h
theorem loadAV_vc {t : TypeId} {i ver j k : Nat} {s : St} {K : AV → Option ρ} {r : ρ} (h : loadAV P t (.elt i ver j k) s K = some r) : ∃ v, K v = some r ∧ ∀ s2 : St, s2.vc = s.vc → loadAV P t (.elt i ver j k) s2 some = some v := by
  unfold loadAV at h ⊢
  split at h
  · cases h
  rename_i z hz
  simp only at h
  split at h
  · rename_i cur sz xs hi
    replace h := bif_some h; obtain ⟨h1, h⟩ := h
    replace h := bind_some h; obtain ⟨x, hx, h⟩ := h
    split at h
    · rename_i n hn
      replace h := bif_some h; obtain ⟨h2, h⟩ := h
      exact ⟨_, h, fun s2 hs => by simp only [hs, hi, h1, hx, Option.bind_some, cond_true, hn, h2]⟩
    · rename_i hn
      replace h := bif_some h; obtain ⟨h2, h⟩ := h
      exact ⟨_, h, fun s2 hs => by simp only [hs, hi, h1, hx, Option.bind_some, cond_true, hn, h2]⟩
  · cases h
theorem storeAV_vc {t : TypeId} {i ver j k : Nat} {v : AV} {s : St} {K : St → Option ρ} {r : ρ} (h : storeAV P t (.elt i ver j k) v s K = some r) : ∃ s', K s' = some r ∧ (s'.bx = s.bx ∧ s'.tp = s.tp) ∧ ∀ s2 : St, s2.vc = s.vc → storeAV P t (.elt i ver j k) v s2 some = some { s2 with vc := s'.vc } := by
  unfold storeAV at h ⊢
  split at h
  · cases h
  rename_i z hz
  simp only at h
  split at h
  · rename_i cur sz xs p hi
    replace h := bif_some h; obtain ⟨h1, h⟩ := h
    replace h := bind_some h; obtain ⟨x, hx, h⟩ := h
    split at h
    · rename_i n hn
      replace h := bif_some h; obtain ⟨h2, h⟩ := h
      exact ⟨_, h, ⟨rfl, rfl⟩, fun s2 hs => by simp only [hs, hi, h1, hx, Option.bind_some, cond_true, hn, h2]⟩
    · rename_i hn
      replace h := bif_some h; obtain ⟨h2, h⟩ := h
      exact ⟨_, h, ⟨rfl, rfl⟩, fun s2 hs => by simp only [hs, hi, h1, hx, Option.bind_some, cond_true, hn, h2]⟩
  · cases h

theorem effD_sound (hT : TOk P) (hF : FOk P) (hc : CallOk P E.call) {all : Array Oper} {b np : Nat} (hnp : np ≤ b) {o : Oper} {x : AS} {K : AV → St → Fp → Option ρ} {r : ρ} (h : effD P E f all b o x K = some r) :
    ∃ v s' fp, K v s' fp = some r ∧ Shape x.s s' fp ∧ SemD P (avR (o.looksAt all) x) o x.s v s' fp np := by
  unfold effD at h
  cases hp : plain E f o with
  | true =>
    rw [hp] at h
    obtain ⟨v, g1, g2⟩ := effP_sound (dst := o.dst) hT hF hc h
    exact ⟨v, _, _, g1, Shape.refl _ _ _, SemD.pure fun s _ => g2.two s⟩
  | false =>
    rw [hp] at h
    simp only [cond_false] at h
    generalize hav : avR (o.looksAt all) x = av at h ⊢
    obtain ⟨odst, oop, oty, opos, oafter, oguard⟩ := o
    simp only at h hav ⊢
    split at h
    · -- alloc
      split at h
      · rename_i cs hz hb
        refine ⟨_, _, _, h, Shape.write _ _ (List.getElem?_eq_some_iff.1 hb).1, SemD.alloc hb hnp fun G s a w hA => ?_⟩
        obtain ⟨z, h1, h2, h3⟩ := run_alloc hT hz w (a := a) (o := ⟨odst, .alloc _, oty, opos, oafter, oguard⟩) rfl
        refine ⟨_, _, h1, by simpa using h2, fun k c v e1 e2 => ?_⟩
        rw [List.getElem?_map] at e1
        cases hk : cs[k]? with
        | none => rw [hk] at e1; cases e1
        | some q => rw [hk] at e1; obtain rfl := Option.some.inj e1; exact h3 G.M k q v hk e2
      · cases h
    · -- box
      rename_i t y
      split at h
      · rename_i v hv hb
        split at h
        · rename_i cs hcs
          replace h := bif_some h; obtain ⟨h1, h⟩ := h
          simp only [Bool.and_eq_true] at h1
          refine ⟨_, _, _, h, Shape.write _ _ (List.getElem?_eq_some_iff.1 hb).1, SemD.alloc hb hnp fun G s a w hA => ?_⟩
          have hr := hA y v hv
          obtain ⟨g1, g2⟩ := cellsAV_rel hr hcs
          have g3 := cellsAV_one hr hcs h1.2
          exact ⟨(a.eval y).cells, t, by simp [execOp, Instr.box, newVar, newRow], by simpa using g1, fun k c u e1 e2 => ⟨g2 k c u e1 (by simpa using e2), g3 u (by
            exact List.mem_of_getElem? (l := (a.eval y).cells.toList) (i := k) (a := u) (by simpa using e2))⟩⟩
        · cases h
      · cases h
    · -- load
      rename_i t y
      split at h
      · rename_i i off hy
        unfold loadAV at h
        split at h
        · cases h
        rename_i z hz
        simp only at h
        split at h
        · rename_i zf cs hi
          split at h
          · rename_i n hn
            replace h := bif_some h; obtain ⟨h1, h⟩ := h
            split at h
            · rename_i ps hps
              exact ⟨_, _, _, h, Shape.refl _ _ _, SemD.pure fun s hs => ((s_load_box (s := s) (ty := oty) hT hz hy (by rw [hs i (by simp)]; exact hi)).1 n ps hn (Nat.le_of_ble_eq_true h1) hps).two⟩
            · cases h
          · rename_i hn
            split at h
            · rename_i c hcc
              replace h := bif_some h; obtain ⟨h1, h⟩ := h
              exact ⟨_, _, _, h, Shape.refl _ _ _, SemD.pure fun s hs => ((s_load_box (s := s) (ty := oty) hT hz hy (by rw [hs i (by simp)]; exact hi)).2 c hn hcc).two⟩
            · cases h
        · cases h
      · rename_i p hy
        unfold loadAV at h
        split at h
        · cases h
        rename_i z hz
        split at h
        · rename_i p' cs heq
          cases heq
          obtain ⟨g1, g2⟩ := s_load_ptr (ty := oty) hT hz hy
          split at h
          · rename_i n hn
            replace h := bif_some h; obtain ⟨h1, h⟩ := h
            exact ⟨_, _, _, h, Shape.refl _ _ _, SemD.pure fun s _ => (g1 n hn (Nat.le_of_ble_eq_true h1) s).two⟩
          · rename_i hn
            split at h
            · exact ⟨_, _, _, h, Shape.refl _ _ _, SemD.pure fun s _ => (g2 _ hn rfl s).two⟩
            · cases h
        · rename_i heq; cases heq
        · rename_i heq; cases heq
        · cases h
      · rename_i i ver j k hy
        have hx := loadAV_vc (s := x.s) h
        obtain ⟨v, g1, g2⟩ := hx
        exact ⟨_, _, _, g1, Shape.tvs _ _ rfl, SemD.look fun s h1 _ => by
          obtain ⟨v', k1, k2⟩ := loadAV_sound (ty := oty) (s := s) hT hy (g2 s h1)
          obtain rfl := Option.some.inj k1
          exact k2.two⟩
      · cases h
    · -- store
      rename_i t y z
      split at h
      · rename_i i off v hy hv
        unfold storeAV at h
        split at h
        · cases h
        rename_i z0 hz
        simp only at h
        split at h
        · rename_i zf cs vs hi hcs
          replace h := bif_some h; obtain ⟨h1, h⟩ := h
          simp only [Bool.and_eq_true, Bool.not_eq_true'] at h1
          obtain ⟨⟨⟨h0, h2⟩, h3⟩, h4⟩ := h1
          subst h0
          have hil := (List.getElem?_eq_some_iff.1 hi).1
          exact ⟨_, _, _, h, Shape.write _ _ hil, SemD.write hil fun s hs => s_store_box (ty := oty) (s := s) hT hz hy hv (by rw [hs]; exact hi) hcs (beq_eq h2) (Nat.le_of_ble_eq_true h3) h4⟩
        · cases h
      · rename_i i ver j k v hy hv
        obtain ⟨s', g1, g3, g2⟩ := storeAV_vc (s := x.s) h
        refine ⟨_, _, _, g1, Shape.tvs _ _ g3.1, SemD.both fun s h1 h2 => ?_⟩
        obtain ⟨s'', k1, k2⟩ := storeAV_sound (ty := oty) (s := s) hT hy hv (g2 s h1)
        have e := Option.some.inj k1
        rw [g3.2, ← h2, ← e]
        exact k2
      · cases h
    · -- build
      obtain ⟨v, g1, g2⟩ := s_buildAV (ty := oty) hT h
      exact ⟨_, _, _, g1, Shape.refl _ _ _, SemD.pure fun s _ => g2 s⟩
    · -- indexAddr
      split at h
      · rename_i e j ver i he hj hi
        split at h
        · rename_i cur sz xs hv
          replace h := bif_some h; obtain ⟨h1, h⟩ := h
          replace h := bif_some h; obtain ⟨h2, h⟩ := h
          simp only [Bool.and_eq_true, decide_eq_true_eq] at h1 h2
          have e1 := beq_eq h1.1
          subst e1
          exact ⟨_, _, _, h, Shape.tvs _ _ rfl, SemD.look fun s q1 _ => s_index_vec hT he hj hi (by rw [q1]; exact hv) (beq_eq h1.2) h2.1 h2.2⟩
        · cases h
      · cases h
    · -- buildSlice
      split at h
      · rename_i e he
        split at h
        · rename_i z ps hz hps
          replace h := bif_some h; obtain ⟨h1, h⟩ := h
          simp only [Bool.and_eq_true] at h1
          split at h
          · rename_i xs hxs
            refine ⟨_, _, _, h, ⟨rfl, fun _ _ => rfl, fun _ h => (by cases h), fun h => (by cases h)⟩, SemD.tail rfl fun s hs => ?_⟩
            have := (s_buildVec (ty := oty) (s := s) hT he hz hps (Nat.le_of_ble_eq_true h1.1) (blt_lt h1.2) hxs).2
            rw [hs] at this
            exact this
          · cases h
        · cases h
      · cases h
    · -- call
      split at h
      · rename_i hcal
        split at h
        · rename_i a b' t t' ha ht
          replace h := bif_some h; obtain ⟨h1, h⟩ := h
          split at h
          · rename_i a' b'' ha' hb'
            obtain ⟨v, s', g1, g2, g3, g4⟩ := appendAV_sound (ty := oty) hT hcal ha ht h1 ha' hb' h
            exact ⟨v, s', _, g1, ⟨by rw [g2], fun b _ => by rw [g2], fun _ h => (by cases h), fun h => (by cases h)⟩, SemD.tail g3 g4⟩
          · cases h
        · cases h
      · rename_i g hcal
        split at h
        · rename_i l d hl
          cases hlend : lendAt E f (some d) with
          | true =>
            rw [hlend] at h
            simp only [cond_true] at h
            split at h
            · rename_i ps s1 hp
              have hpub : ∀ s : St, s.vc = x.s.vc → ∃ s1', pubAll l s = some (ps, s1') := fun s hs => by
                obtain ⟨s1', e1, _⟩ := pubAll_vc hs hp
                exact ⟨s1', e1⟩
              split at h
              · rename_i e _ _
                replace h := bind_some h; obtain ⟨out, ho, h⟩ := h
                replace h := bind_some h; obtain ⟨xs, hx, h⟩ := h
                replace h := bif_some h; obtain ⟨hfit, h⟩ := h
                simp only [Bool.and_eq_true, Bool.not_eq_true'] at hfit
                refine ⟨_, _, _, h, Shape.tvs _ _ rfl, SemD.both fun s q1 q2 => ?_⟩
                obtain ⟨s1', hp'⟩ := hpub s q1
                have := s_lend1 (ty := oty) hF hc hcal hl hp' ho hx hfit.1.1 (fun l e => by have := hfit.1.2; rw [e] at this; cases this) hfit.2
                simp only
                rw [← q1, ← q2]
                exact this
              · replace h := bind_some h; obtain ⟨out, ho, h⟩ := h
                replace h := bind_some h; obtain ⟨p, hq, h⟩ := h
                replace h := bif_some h; obtain ⟨hfit, h⟩ := h
                simp only [Bool.and_eq_true] at hfit
                rw [Sh.view_eq _ _ hfit.2] at h
                refine ⟨_, _, _, h, Shape.tvs _ _ rfl, SemD.look fun s q1 q2 => ?_⟩
                obtain ⟨s1', hp'⟩ := hpub s q1
                exact s_lend0 hF hc hcal hl hp' ho hq hfit.1 hfit.2
            · cases h
          | false =>
            rw [hlend] at h
            simp only [cond_false] at h
            split at h
            · rename_i as ids s1 e hp he
              replace h := bif_some h; obtain ⟨h1, h⟩ := h
              obtain ⟨q3, q4⟩ := passAll_bx hp
              split at h
              · replace h := bind_some h; obtain ⟨out, ho, h⟩ := h
                replace h := bind_some h; obtain ⟨xs, hx, h⟩ := h
                refine ⟨_, _, _, h, Shape.tvs _ _ q3, SemD.both fun s q1 q2 => ?_⟩
                have := s_call1 (ty := oty) hF hc hcal hl (q4 s q1 q2) h1 ho hx
                exact this
              · replace h := bind_some h; obtain ⟨out, ho, h⟩ := h
                replace h := bind_some h; obtain ⟨xs, hx, h⟩ := h
                refine ⟨_, _, _, h, Shape.tvs _ _ q3, SemD.both fun s q1 q2 => ?_⟩
                have := s_call2 (ty := oty) hF hc hcal hl (q4 s q1 q2) h1 ho hx
                exact this
              · cases h
            · cases h
        · cases h
      · cases h
    · cases h
end
end Go.AL
