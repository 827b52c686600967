/- The abstract state (slots, boxes, vectors, tips) and its relation to the machine's memory. -/
import Derived.Test.YtlmodlihiglnhaaALa
set_option linter.unusedVariables false
set_option linter.unusedSimpArgs false
namespace Go.AL
open Go.RowKit

/-- What a slot holds. box: a pointer into a box of the call's own; vec: a slice of the call's own whose elements may change; elt: a pointer into one;
bld: a slice that only grows; agg: a struct of such; undef: what an operation that is not performed leaves; any: nothing is known. -/
inductive AV where
  | pv (p : PV)
  | box (i off : Nat)
  | vec (i ver : Nat)
  | elt (i ver j k : Nat)
  | bld (i e : Nat) (xs : List PV)
  | agg (cs : List AV)
  | undef
  | any
  deriving Inhabited

structure St where
  bx : List (Bool × List AV)
  vc : List (Option (Nat × Nat × List PV))
  tp : List (Nat × Nat)
  deriving Inhabited

inductive Own where
  | free
  | box (i : Nat)
  | vec (i : Nat)
  | tip (i : Nat)
  deriving Inhabited

structure VH where
  A : Option Addr
  cap : Nat
  sz : Nat

structure TH where
  tail : Option Addr
  room : Nat
  sz : Nat

structure Gh where
  M : Mem
  own : Nat → Own
  μ : Nat → Option Nat
  ν : Nat → VH
  τ : Nat → TH

/-- A slice whose tail may be appended to. -/
def Tail (h : TH) (xs : List PV) (v : Value) : Prop :=
  (∃ A, v = .slice A xs.length (xs.length + h.room) ∧ (0 < xs.length + h.room → A.map (·.add (xs.length * h.sz)) = h.tail)) ∧ ∀ x, x ∈ xs → x.cells.length = h.sz

def ARel1 (G : Gh) (s : St) : AV → Value → Prop
  | .pv p, v => PRep G.M p v
  | .box i off, v => i < s.bx.length ∧ ∃ b, G.μ i = some b ∧ v = .pointer (some ⟨b, off, none⟩)
  | .vec i ver, v => i < s.vc.length ∧ (∃ A n c, v = .slice A n c) ∧ ∀ cur xs, s.vc[i]? = some (some (cur, xs)) → ver ≤ cur ∧ (ver = cur → v = .slice (G.ν i).A xs.2.length (G.ν i).cap)
  | .elt i ver j k, v => i < s.vc.length ∧ (∃ q, v = .pointer (some q)) ∧ ∀ cur xs, s.vc[i]? = some (some (cur, xs)) → ver ≤ cur ∧ (ver = cur → ∃ ad, (G.ν i).A = some ad ∧ v = .pointer (some (ad.add (j * (G.ν i).sz + k))))
  | .bld i e xs, v => i < s.tp.length ∧ PRep G.M (.lst xs) v ∧ ∀ cur, s.tp[i]? = some cur → e ≤ cur.1 ∧ (e = cur.1 → Tail (G.τ i) xs v)
  | .agg _, _ => False
  | .undef, v => v = undef
  | .any, _ => True
def ARel (G : Gh) (s : St) (a : AV) (v : Value) : Prop :=
  match a with
  | .agg cs => ∃ us : List Value, v = .agg us.toArray ∧ us.length = cs.length ∧ ∀ (k : Nat) c u, cs[k]? = some c → us[k]? = some u → ARel1 G s c u ∧ u.oneCell' = true
  | a => ARel1 G s a v
theorem ARel.of1 {G : Gh} {s : St} {a : AV} {v : Value} (h : ARel1 G s a v) : ARel G s a v := by
  cases a <;> first | exact h | exact h.elim

def AV.cell : AV → Bool
  | .pv p => p.one
  | .box .. | .vec .. | .elt .. | .bld .. => true
  | _ => false

theorem ARel.oneCell {G : Gh} {s : St} {a : AV} {v : Value} (h : ARel G s a v) (hc : a.cell = true) : v.oneCell' = true := by
  cases a with
  | pv p => exact PRep.one h hc
  | box i off => obtain ⟨_, b, _, rfl⟩ := h; rfl
  | vec i ver => obtain ⟨_, ⟨A, n, c, rfl⟩, _⟩ := h; rfl
  | elt i ver j k => obtain ⟨_, ⟨q, rfl⟩, _⟩ := h; rfl
  | bld i e xs => cases h.2.1; rfl
  | agg cs => cases hc
  | undef => cases hc
  | any => cases hc
theorem ARel.to1 {G : Gh} {s : St} {a : AV} {v : Value} (hc : a.cell = true) (h : ARel G s a v) : ARel1 G s a v := by
  cases a <;> first | exact h | cases hc

/-- What a step may do to what is known of values. -/
structure Ext (G : Gh) (s : St) (G' : Gh) (s' : St) : Prop where
  M : G.M.le G'.M
  bl : s.bx.length ≤ s'.bx.length
  vl : s.vc.length ≤ s'.vc.length
  tl : s.tp.length ≤ s'.tp.length
  μ : ∀ i (b : Option Nat), i < s.bx.length → G.μ i = b → G'.μ i = b
  vc : ∀ i, i < s.vc.length → ∀ cur' xs', s'.vc[i]? = some (some (cur', xs')) → ∃ cur xs, s.vc[i]? = some (some (cur, xs)) ∧ cur ≤ cur' ∧ (cur = cur' → xs.2.length = xs'.2.length ∧ G'.ν i = G.ν i)
  tp : ∀ i, i < s.tp.length → ∀ cur', s'.tp[i]? = some cur' → ∃ cur, s.tp[i]? = some cur ∧ cur.1 ≤ cur'.1 ∧ (cur.1 = cur'.1 → G'.τ i = G.τ i)

theorem Ext.refl (G : Gh) (s : St) : Ext G s G s :=
  ⟨Mem.le_refl _, Nat.le_refl _, Nat.le_refl _, Nat.le_refl _, fun _ _ _ h => h, fun i _ cur xs h => ⟨cur, xs, h, Nat.le_refl _, fun _ => ⟨rfl, rfl⟩⟩, fun i _ cur h => ⟨cur, h, Nat.le_refl _, fun _ => rfl⟩⟩

theorem Ext.trans {G1 G2 G3 : Gh} {s1 s2 s3 : St} (h : Ext G1 s1 G2 s2) (k : Ext G2 s2 G3 s3) : Ext G1 s1 G3 s3 where
  M := Mem.le_trans h.M k.M
  bl := Nat.le_trans h.bl k.bl
  vl := Nat.le_trans h.vl k.vl
  tl := Nat.le_trans h.tl k.tl
  μ i b hi hb := k.μ i b (Nat.lt_of_lt_of_le hi h.bl) (h.μ i b hi hb)
  vc i hi cur' xs' e := by
    obtain ⟨c2, x2, e2, l2, q2⟩ := k.vc i (Nat.lt_of_lt_of_le hi h.vl) cur' xs' e
    obtain ⟨c1, x1, e1, l1, q1⟩ := h.vc i hi c2 x2 e2
    refine ⟨c1, x1, e1, Nat.le_trans l1 l2, fun hq => ?_⟩
    have a1 := q1 (by omega)
    have a2 := q2 (by omega)
    exact ⟨a1.1.trans a2.1, a2.2.trans a1.2⟩
  tp i hi cur' e := by
    obtain ⟨c2, e2, l2, q2⟩ := k.tp i (Nat.lt_of_lt_of_le hi h.tl) cur' e
    obtain ⟨c1, e1, l1, q1⟩ := h.tp i hi c2 e2
    exact ⟨c1, e1, Nat.le_trans l1 l2, fun hq => (q2 (by omega)).trans (q1 (by omega))⟩

theorem ARel1.ext {G G' : Gh} {s s' : St} (h : Ext G s G' s') {a : AV} {v : Value} (r : ARel1 G s a v) : ARel1 G' s' a v := by
  cases a with
  | pv p => exact PRep.mono h.M r
  | box i off => obtain ⟨hi, b, hb, rfl⟩ := r; exact ⟨Nat.lt_of_lt_of_le hi h.bl, b, h.μ i _ hi hb, rfl⟩
  | vec i ver =>
    obtain ⟨hi, ho, hv⟩ := r
    refine ⟨Nat.lt_of_lt_of_le hi h.vl, ho, fun cur' xs' e => ?_⟩
    obtain ⟨cur, xs, e1, l1, q1⟩ := h.vc i hi cur' xs' e
    obtain ⟨g1, g2⟩ := hv cur xs e1
    refine ⟨Nat.le_trans g1 l1, fun hq => ?_⟩
    obtain ⟨a1, a2⟩ := q1 (by omega)
    rw [a2, ← a1]
    exact g2 (by omega)
  | elt i ver j k =>
    obtain ⟨hi, ho, hv⟩ := r
    refine ⟨Nat.lt_of_lt_of_le hi h.vl, ho, fun cur' xs' e => ?_⟩
    obtain ⟨cur, xs, e1, l1, q1⟩ := h.vc i hi cur' xs' e
    obtain ⟨g1, g2⟩ := hv cur xs e1
    refine ⟨Nat.le_trans g1 l1, fun hq => ?_⟩
    obtain ⟨a1, a2⟩ := q1 (by omega)
    rw [a2]
    exact g2 (by omega)
  | bld i e xs =>
    obtain ⟨hi, hp, hv⟩ := r
    refine ⟨Nat.lt_of_lt_of_le hi h.tl, PRep.mono h.M hp, fun cur' e' => ?_⟩
    obtain ⟨cur, e1, l1, q1⟩ := h.tp i hi cur' e'
    obtain ⟨g1, g2⟩ := hv cur e1
    refine ⟨Nat.le_trans g1 l1, fun hq => ?_⟩
    rw [q1 (by omega)]
    exact g2 (by omega)
  | agg cs => exact r.elim
  | undef => exact r
  | any => trivial
theorem ARel.ext {G G' : Gh} {s s' : St} (h : Ext G s G' s') {a : AV} {v : Value} (r : ARel G s a v) : ARel G' s' a v := by
  cases a with
  | agg cs =>
    obtain ⟨us, e, hl, hr⟩ := r
    exact ⟨us, e, hl, fun k c u h1 h2 => ⟨(hr k c u h1 h2).1.ext h, (hr k c u h1 h2).2⟩⟩
  | pv p => exact ARel1.ext (a := .pv p) h r
  | box i o => exact ARel1.ext (a := .box i o) h r
  | vec i o => exact ARel1.ext (a := .vec i o) h r
  | elt i o j k => exact ARel1.ext (a := .elt i o j k) h r
  | bld i e xs => exact ARel1.ext (a := .bld i e xs) h r
  | undef => exact r
  | any => trivial

structure SRel (F : Nat → Prop) (w0 : World) (M0 : Mem) (G : Gh) (s : St) (w : World) : Prop where
  os : w.os = w0.os
  tape : w.tape = w0.tape
  output : w.output = w0.output
  size : w0.heap.size ≤ w.heap.size
  old : ∀ k, k < w0.heap.size → ¬ F k → w.heap[k]? = w0.heap[k]?
  agree : ∀ a v, G.M a = some v → w.cell? a = some v
  base : M0.le G.M
  newM : ∀ a v, G.M a = some v → M0 a = some v ∨ w0.heap.size ≤ a.block ∨ F a.block
  own : ∀ b, G.own b ≠ .free → b < w.heap.size ∧ (F b ∨ w0.heap.size ≤ b)
  ownM : ∀ a v, G.M a = some v → G.own a.block = .free ∨ ∃ i ad, i < s.tp.length ∧ G.own a.block = .tip i ∧ (G.τ i).tail = some ad ∧ a.off < ad.off
  bx : ∀ i z cs b, s.bx[i]? = some (z, cs) → G.μ i = some b → G.own b = (bif z then .free else .box i) ∧ b < w.heap.size ∧ (F b ∨ w0.heap.size ≤ b) ∧ ∃ vs T, w.heap[b]? = some (.cells vs T (0, 0)) ∧ vs.size = cs.length ∧
    ∀ (k : Nat) c v, cs[k]? = some c → vs[k]? = some v → ARel G s c v ∧ v.oneCell' = true
  vc : ∀ i ver sz xs, s.vc[i]? = some (some (ver, sz, xs)) → ((G.ν i).sz = sz ∧ 0 < (G.ν i).sz) ∧ (∀ x, x ∈ xs → x.cells.length = (G.ν i).sz ∧ ∀ y, y ∈ x.cells → y.one = true) ∧
    (((G.ν i).A = none ∧ (G.ν i).cap = 0 ∧ xs = []) ∨ ∃ b o vs T, (G.ν i).A = some ⟨b, o, none⟩ ∧ G.own b = .vec i ∧ w.heap[b]? = some (.cells vs T (0, 0)) ∧
      o + (G.ν i).cap * (G.ν i).sz ≤ vs.size ∧ xs.length ≤ (G.ν i).cap ∧
      ∀ j x k y, xs[j]? = some x → x.cells[k]? = some y → ∃ v, vs[o + (j * (G.ν i).sz + k)]? = some v ∧ PRep G.M y v)
  tp : ∀ i e, s.tp[i]? = some e → ((G.τ i).sz = e.2 ∧ 0 < (G.τ i).sz) ∧ (((G.τ i).tail = none ∧ (G.τ i).room = 0) ∨ ∃ b o vs T, (G.τ i).tail = some ⟨b, o, none⟩ ∧ G.own b = .tip i ∧
      w.heap[b]? = some (.cells vs T (0, 0)) ∧ o + (G.τ i).room * (G.τ i).sz ≤ vs.size)

/-- A draw changes nothing. -/
theorem SRel.drew {F : Nat → Prop} {w0 : World} {M0 : Mem} {G : Gh} {s : St} {w : World} (h : SRel F w0 M0 G s w) : SRel F w0 M0 G s w.drew :=
  ⟨h.os, h.tape, h.output, h.size, h.old, h.agree, h.base, h.newM, h.own, h.ownM, h.bx, h.vc, h.tp⟩

def FRel (G : Gh) (s : St) (t : List AV) (tm : Array Value) : Prop :=
  tm.size = t.length ∧ ∀ (i : Nat) a v, t[i]? = some a → tm[i]? = some v → ARel G s a v

structure AS where
  t : List AV
  s : St
  deriving Inhabited

structure R (F : Nat → Prop) (w0 : World) (M0 : Mem) (G : Gh) (x : AS) (a : Act) (w : World) : Prop where
  S : SRel F w0 M0 G x.s w
  T : FRel G x.s x.t a.tmps
  D : a.defers = []

def AS.put (x : AS) (dst : Option Tmp) (v : AV) : AS :=
  match dst with
  | some d => { x with t := x.t.set d v }
  | none => x

theorem FRel.ext {G G' : Gh} {s s' : St} (h : Ext G s G' s') {t : List AV} {tm : Array Value} (r : FRel G s t tm) : FRel G' s' t tm :=
  ⟨r.1, fun i a v h1 h2 => (r.2 i a v h1 h2).ext h⟩

theorem FRel.set {G : Gh} {s : St} {t : List AV} {tm : Array Value} (r : FRel G s t tm) (d : Nat) {a : AV} {v : Value} (hv : ARel G s a v) : FRel G s (t.set d a) (tm.setIfInBounds d v) := by
  refine ⟨by simpa using r.1, fun i a' v' h1 h2 => ?_⟩
  by_cases hd : d = i
  · subst hd
    by_cases hb : d < t.length
    · rw [List.getElem?_set_self hb] at h1
      have hb2 : d < tm.size := by rw [r.1]; exact hb
      simp [Array.getElem?_setIfInBounds, hb2] at h2
      obtain rfl := Option.some.inj h1
      subst h2
      exact hv
    · rw [List.getElem?_eq_none (by simpa using hb)] at h1
      cases h1
  · rw [List.getElem?_set_ne hd] at h1
    rw [Array.getElem?_setIfInBounds_ne hd] at h2
    exact r.2 i a' v' h1 h2

/-- A step that leaves a value, and a store. -/
theorem R.put {F : Nat → Prop} {w0 : World} {M0 : Mem} {G G' : Gh} {x : AS} {a : Act} {w w' : World} (h : R F w0 M0 G x a w) {s' : St} (hS : SRel F w0 M0 G' s' w') (he : Ext G x.s G' s')
    (dst : Option Tmp) {b : AV} {v : Value} (hv : ARel G' s' b v) : R F w0 M0 G' ({ x with s := s' }.put dst b) (a.put dst v) w' := by
  cases dst with
  | none => exact ⟨hS, h.T.ext he, h.D⟩
  | some d => exact ⟨hS, (h.T.ext he).set d hv, h.D⟩

/-! ### A loop's head: what is known of the slots that are kept; boxes, vectors and builders numbered anew -/
inductive Place where
  | slot (t : Nat)
  | cell (b k : Nat)
  deriving Inhabited

structure Head where
  keep : List Nat
  nb : Nat
  tips : List (Place × Nat)
  vecs : List Place
  deriving Inhabited

def AS.read (x : AS) : Place → Option AV
  | .slot t => x.t[t]?
  | .cell b k => match x.s.bx[b]? with | some (_, cs) => cs[k]? | none => none

/-- A nil slice at a place becomes a builder. -/
def AS.adopt (x : AS) (q : Place × Nat) : AS :=
  match q.1 with
  | .slot t => match x.t[t]? with
    | some (.pv .nils) => ⟨x.t.set t (.bld x.s.tp.length 0 []), { x.s with tp := x.s.tp ++ [(0, q.2 + 1)] }⟩
    | _ => x
  | .cell b k => match x.s.bx[b]? with
    | some (false, cs) => match cs[k]? with
      | some (.pv .nils) => ⟨x.t, { x.s with bx := x.s.bx.set b (false, cs.set k (.bld x.s.tp.length 0 [])), tp := x.s.tp ++ [(0, q.2 + 1)] }⟩
      | _ => x
    | _ => x

def pos (l : List Nat) (i : Nat) : Option Nat :=
  match l with
  | [] => none
  | a :: l => bif Nat.beq a i then some 0 else match pos l i with | some j => some (j + 1) | none => none

def AV.norm (s : St) (nb : Nat) (tm vm : List Nat) : AV → AV
  | .box i off => bif Nat.blt i nb then .box i off else .any
  | .vec i ver => match pos vm i with
    | some j => match s.vc[i]? with
      | some (some (cur, _)) => bif Nat.beq cur ver then .vec j 0 else .any
      | _ => .any
    | none => .any
  | .elt .. => .any
  | .agg _ => .any
  | .bld i e xs => match pos tm i with
    | some j => match s.tp[i]? with
      | some cur => bif Nat.beq cur.1 e then .bld j 0 xs else .pv (.lst xs)
      | none => .pv (.lst xs)
    | none => .pv (.lst xs)
  | x => x

def St.norm (s : St) (nb : Nat) (tm vm : List Nat) : St :=
  ⟨(s.bx.take nb).map fun c => (c.1, c.2.map (AV.norm s nb tm vm)), vm.map fun i => match s.vc[i]? with | some (some (_, xs)) => some (0, xs) | _ => none, tm.map fun i => (0, (s.tp.getD i (0, 1)).2)⟩

def keepT (s : St) (nb : Nat) (tm vm : List Nat) (keep : List Nat) : List AV → Nat → List AV
  | [], _ => []
  | a :: l, i => (bif keep.any (fun j => Nat.beq j i) then a.norm s nb tm vm else .any) :: keepT s nb tm vm keep l (i + 1)

def nodup : List Nat → Bool
  | [] => true
  | a :: l => !(l.any fun b => Nat.beq a b) && nodup l

def AS.tipsAt (x : AS) : List Place → List Nat
  | [] => []
  | p :: l => match x.read p with | some (.bld i _ _) => bif Nat.blt i x.s.tp.length then i :: AS.tipsAt x l else AS.tipsAt x l | _ => AS.tipsAt x l
def AS.vecsAt (x : AS) : List Place → List Nat
  | [] => []
  | p :: l => match x.read p with | some (.vec i _) => i :: AS.vecsAt x l | _ => AS.vecsAt x l

def AS.numbered (h : Head) (x : AS) : Option AS :=
  bif nodup (x.tipsAt (h.tips.map (·.1))) && nodup (x.vecsAt h.vecs) then
    some ⟨keepT x.s h.nb (x.tipsAt (h.tips.map (·.1))) (x.vecsAt h.vecs) h.keep x.t 0, x.s.norm h.nb (x.tipsAt (h.tips.map (·.1))) (x.vecsAt h.vecs)⟩
  else none
def AS.head (h : Head) (x : AS) : Option AS := (h.tips.foldl AS.adopt x).numbered h

/-! #### The proof -/
theorem beq_eq {a b : Nat} (h : Nat.beq a b = true) : a = b := Nat.eq_of_beq_eq_true h
theorem blt_lt {a b : Nat} (h : Nat.blt a b = true) : a < b := by have := Nat.le_of_ble_eq_true h; omega

theorem pos_get {l : List Nat} {i j : Nat} (h : pos l i = some j) : l[j]? = some i := by
  induction l generalizing j with
  | nil => cases h
  | cons a l ih =>
    simp only [pos] at h
    cases hb : Nat.beq a i with
    | true => rw [hb] at h; obtain rfl := Option.some.inj h; rw [beq_eq hb]; rfl
    | false =>
      rw [hb] at h
      simp only [cond_false] at h
      cases hp : pos l i with
      | none => rw [hp] at h; cases h
      | some m => rw [hp] at h; obtain rfl := Option.some.inj h; simpa using ih hp

theorem nodup_pos {l : List Nat} (hn : nodup l = true) {i j : Nat} (h : l[j]? = some i) : pos l i = some j := by
  induction l generalizing j with
  | nil => simp at h
  | cons a l ih =>
    simp only [nodup, Bool.and_eq_true] at hn
    cases j with
    | zero =>
      simp at h; subst h
      have : Nat.beq a a = true := Nat.beq_refl a
      simp [pos, this]
    | succ j =>
      simp only [List.getElem?_cons_succ] at h
      have hm : i ∈ l := List.mem_of_getElem? h
      have hne : Nat.beq a i = false := by
        cases hb : Nat.beq a i with
        | false => rfl
        | true =>
          have : (l.any fun b => Nat.beq a b) = true := List.any_eq_true.2 ⟨i, hm, hb⟩
          rw [this] at hn
          cases hn.1
      simp [pos, hne, ih hn.2 h]

section
variable {F : Nat → Prop} {w0 : World} {M0 : Mem} {G : Gh} {x : AS} {a : Act} {w : World}

/-- A new builder, of nothing. -/
theorem SRel.newTip {s : St} (h : SRel F w0 M0 G s w) (sz : Nat) (hsz : 0 < sz) : ∃ G', SRel F w0 M0 G' { s with tp := s.tp ++ [(0, sz)] } w ∧ Ext G s G' { s with tp := s.tp ++ [(0, sz)] } ∧
    ∀ v, PRep G'.M .nils v → ARel G' { s with tp := s.tp ++ [(0, sz)] } (.bld s.tp.length 0 []) v := by
  let G' : Gh := { G with τ := fun i => if i = s.tp.length then ⟨none, 0, sz⟩ else G.τ i }
  have he : Ext G s G' { s with tp := s.tp ++ [(0, sz)] } :=
    ⟨Mem.le_refl _, Nat.le_refl _, Nat.le_refl _, by simp, fun _ _ _ h => h, fun i _ cur xs h => ⟨cur, xs, h, Nat.le_refl _, fun _ => ⟨rfl, rfl⟩⟩, fun i hi cur hc => by
      rw [List.getElem?_append_left hi] at hc
      exact ⟨cur, hc, Nat.le_refl _, fun _ => by simp only [G']; rw [if_neg (by omega)]⟩⟩
  refine ⟨G', ⟨h.os, h.tape, h.output, h.size, h.old, h.agree, h.base, h.newM, h.own, ?_, ?_, ?_, ?_⟩, he, ?_⟩
  · intro a v hM
    rcases h.ownM a v hM with e | ⟨i, ad, hi, e1, e2, e3⟩
    · exact .inl e
    · refine .inr ⟨i, ad, by simp; omega, e1, ?_, e3⟩
      simp only [G']; rw [if_neg (by omega)]; exact e2
  · intro i z cs b h1 h2
    obtain ⟨q1, q2, q3, vs, T, q4, q5, q6⟩ := h.bx i z cs b h1 h2
    exact ⟨q1, q2, q3, vs, T, q4, q5, fun k c v hk hv => ⟨(q6 k c v hk hv).1.ext he, (q6 k c v hk hv).2⟩⟩
  · exact h.vc
  · intro i e hi
    by_cases hl : i < s.tp.length
    · rw [List.getElem?_append_left hl] at hi
      simp only [G']; rw [if_neg (by omega)]
      exact h.tp i e hi
    · have hil : i < (s.tp ++ [(0, sz)]).length := (List.getElem?_eq_some_iff.1 hi).1
      have : i = s.tp.length := by simp at hil; omega
      simp only [G']; rw [if_pos this]
      subst this
      simp at hi
      subst hi
      exact ⟨⟨rfl, hsz⟩, .inl ⟨rfl, rfl⟩⟩
  · intro v hv
    cases hv
    refine ⟨by simp, .lst [] none 0 1 (fun _ _ => undef) (by omega) (by simp) (by simp) (by simp) (by simp) (by simp) (by simp), fun cur hc => ?_⟩
    simp at hc
    subst hc
    refine ⟨Nat.le_refl _, fun _ => ⟨⟨none, ?_, ?_⟩, by simp⟩⟩
    · simp [G']
    · simp [G']

theorem R.adopt (h : R F w0 M0 G x a w) (q : Place × Nat) : ∃ G', R F w0 M0 G' (x.adopt q) a w := by
  unfold AS.adopt
  split
  · rename_i t ht0
    split
    · rename_i ht
      obtain ⟨G', hS, he, hv⟩ := h.S.newTip (q.2 + 1) (by omega)
      refine ⟨G', hS, ⟨by simpa using h.T.1, fun i b v h1 h2 => ?_⟩, h.D⟩
      by_cases hd : t = i
      · subst hd
        have hb : t < x.t.length := (List.getElem?_eq_some_iff.1 ht).1
        rw [List.getElem?_set_self hb] at h1
        obtain rfl := Option.some.inj h1
        exact hv v (PRep.mono he.M (h.T.2 t _ v ht h2))
      · rw [List.getElem?_set_ne hd] at h1
        exact (h.T.2 i b v h1 h2).ext he
    · exact ⟨G, h⟩
  · rename_i b k hk0
    split
    · rename_i cs hb
      split
      · rename_i hk
        obtain ⟨G', hS, he, hv⟩ := h.S.newTip (q.2 + 1) (by omega)
        have he2 : Ext G' { x.s with tp := x.s.tp ++ [(0, q.2 + 1)] } G' { x.s with bx := x.s.bx.set b (false, cs.set k (.bld x.s.tp.length 0 [])), tp := x.s.tp ++ [(0, q.2 + 1)] } :=
          ⟨Mem.le_refl _, by simp, Nat.le_refl _, Nat.le_refl _, fun _ _ _ h => h, fun i _ cur xs h => ⟨cur, xs, h, Nat.le_refl _, fun _ => ⟨rfl, rfl⟩⟩, fun i hi cur hc => ⟨cur, hc, Nat.le_refl _, fun _ => rfl⟩⟩
        refine ⟨G', ⟨hS.os, hS.tape, hS.output, hS.size, hS.old, hS.agree, hS.base, hS.newM, hS.own, hS.ownM, ?_, hS.vc, hS.tp⟩, (h.T.ext he).ext he2, h.D⟩
        intro i z cs' b' h1 h2
        by_cases hd : b = i
        · subst hd
          have hlt : b < x.s.bx.length := (List.getElem?_eq_some_iff.1 hb).1
          simp only [List.getElem?_set_self hlt, Option.some.injEq, Prod.mk.injEq] at h1
          obtain ⟨rfl, rfl⟩ := h1
          obtain ⟨q1, q2, q3, vs, T, q4, q5, q6⟩ := hS.bx b false cs b' hb h2
          refine ⟨q1, q2, q3, vs, T, q4, by simpa using q5, fun m c v hm hvm => ?_⟩
          by_cases hkm : k = m
          · subst hkm
            have hkl : k < cs.length := (List.getElem?_eq_some_iff.1 hk).1
            rw [List.getElem?_set_self hkl] at hm
            obtain rfl := Option.some.inj hm
            obtain ⟨g1, g2⟩ := q6 k _ v hk hvm
            exact ⟨(hv v g1).ext he2, g2⟩
          · rw [List.getElem?_set_ne hkm] at hm
            obtain ⟨g1, g2⟩ := q6 m c v hm hvm
            exact ⟨g1.ext he2, g2⟩
        · simp only [List.getElem?_set_ne hd] at h1
          obtain ⟨q1, q2, q3, vs, T, q4, q5, q6⟩ := hS.bx i z cs' b' h1 h2
          exact ⟨q1, q2, q3, vs, T, q4, q5, fun m c v hm hvm => ⟨(q6 m c v hm hvm).1.ext he2, (q6 m c v hm hvm).2⟩⟩
      · exact ⟨G, h⟩
    · exact ⟨G, h⟩

def Gh.norm (G : Gh) (tm vm : List Nat) : Gh where
  M := G.M
  own b := match G.own b with
    | .tip i => match pos tm i with | some j => .tip j | none => .free
    | .vec i => match pos vm i with | some j => .vec j | none => .free
    | o => o
  μ := G.μ
  ν j := G.ν (vm.getD j 0)
  τ j := G.τ (tm.getD j 0)

theorem ARel.norm {s : St} (nb : Nat) (tm vm : List Nat) {b : AV} {v : Value} (r : ARel G s b v) : ARel (G.norm tm vm) (s.norm nb tm vm) (b.norm s nb tm vm) v := by
  cases b with
  | pv p => exact r
  | box i off =>
    simp only [AV.norm]
    cases hb : Nat.blt i nb with
    | false => exact trivial
    | true =>
      obtain ⟨hi, b, h1, h2⟩ := r
      exact ⟨by simp [St.norm]; exact Nat.lt_min.2 ⟨blt_lt hb, hi⟩, b, h1, h2⟩
  | vec i ver =>
    simp only [AV.norm]
    split
    · rename_i j hj
      split
      · rename_i cur xs hc
        cases hb : Nat.beq cur ver with
        | false => exact trivial
        | true =>
          obtain ⟨hi, ho, hv⟩ := r
          have hg := pos_get hj
          have hjl : j < vm.length := (List.getElem?_eq_some_iff.1 hg).1
          refine ⟨by simpa [St.norm] using hjl, ho, fun cur' xs' e => ?_⟩
          simp only [St.norm, List.getElem?_map, hg, Option.map_some, hc, Option.some.injEq, Prod.mk.injEq] at e
          obtain ⟨rfl, rfl⟩ := e
          refine ⟨Nat.le_refl _, fun _ => ?_⟩
          obtain ⟨g1, g2⟩ := hv cur xs hc
          have : vm.getD j 0 = i := by simp [List.getD_eq_getElem?_getD, hg]
          simp only [Gh.norm, this]
          exact g2 (beq_eq hb).symm
      · exact trivial
    · exact trivial
  | elt i ver j k => exact trivial
  | agg cs => exact trivial
  | bld i e xs =>
    simp only [AV.norm]
    split
    · rename_i j hj
      split
      · rename_i cur hc
        cases hb : Nat.beq cur.1 e with
        | false => exact r.2.1
        | true =>
          obtain ⟨hi, hp, hv⟩ := r
          have hg := pos_get hj
          have hjl : j < tm.length := (List.getElem?_eq_some_iff.1 hg).1
          refine ⟨by simpa [St.norm] using hjl, hp, fun cur' e' => ?_⟩
          simp only [St.norm, List.getElem?_map, hg, Option.map_some, Option.some.injEq] at e'
          subst e'
          refine ⟨Nat.le_refl _, fun _ => ?_⟩
          have : tm.getD j 0 = i := by simp [List.getD_eq_getElem?_getD, hg]
          simp only [Gh.norm, this]
          exact (hv cur hc).2 (beq_eq hb).symm
      · exact r.2.1
    · exact r.2.1
  | undef => exact r
  | any => trivial

theorem SRel.norm {s : St} (h : SRel F w0 M0 G s w) (nb : Nat) (tm vm : List Nat) (htm : nodup tm = true) (hvm : nodup vm = true) (htl : ∀ i, i ∈ tm → i < s.tp.length) :
    SRel F w0 M0 (G.norm tm vm) (s.norm nb tm vm) w := by
  refine ⟨h.os, h.tape, h.output, h.size, h.old, h.agree, h.base, h.newM, ?_, ?_, ?_, ?_, ?_⟩
  · intro b hb
    refine h.own b (fun e => hb ?_)
    simp only [Gh.norm, e]
  · intro a v hM
    rcases h.ownM a v hM with e | ⟨i, ad, hi, e, e2, e3⟩
    · left; simp only [Gh.norm, e]
    · cases hp : pos tm i with
      | none => left; simp only [Gh.norm, e, hp]
      | some j =>
        right
        have hg := pos_get hp
        have hjl : j < tm.length := (List.getElem?_eq_some_iff.1 hg).1
        refine ⟨j, ad, by simpa [St.norm] using hjl, by simp only [Gh.norm, e, hp], ?_, e3⟩
        have : tm.getD j 0 = i := by simp [List.getD_eq_getElem?_getD, hg]
        simp only [Gh.norm, this]
        exact e2
  · intro i z cs b h1 h2
    simp only [St.norm, List.getElem?_map, List.getElem?_take] at h1
    split at h1
    · cases hcs : s.bx[i]? with
      | none => rw [hcs] at h1; cases h1
      | some c0 =>
        rw [hcs] at h1
        simp only [Option.map_some, Option.some.injEq, Prod.mk.injEq] at h1
        obtain ⟨rfl, rfl⟩ := h1
        obtain ⟨q1, q2, q3, vs, T, q4, q5, q6⟩ := h.bx i c0.1 c0.2 b hcs h2
        refine ⟨?_, q2, q3, vs, T, q4, by simpa using q5, fun k c v hk hv => ?_⟩
        · cases hz : c0.1 <;> rw [hz] at q1 <;> simp only [Gh.norm, q1, cond_true, cond_false]
        · rw [List.getElem?_map] at hk
          cases hc0 : c0.2[k]? with
          | none => rw [hc0] at hk; cases hk
          | some c' =>
            rw [hc0] at hk
            simp only [Option.map_some, Option.some.injEq] at hk
            subst hk
            obtain ⟨q1, q2⟩ := q6 k c' v hc0 hv
            exact ⟨q1.norm nb tm vm, q2⟩
    · simp at h1
  · intro j ver sz xs e
    simp only [St.norm, List.getElem?_map] at e
    cases hj : vm[j]? with
    | none => rw [hj] at e; cases e
    | some i =>
      rw [hj] at e
      simp only [Option.map_some, Option.some.injEq] at e
      split at e
      · rename_i cur xs0 hc
        simp only [Option.some.injEq] at e
        have hi : vm.getD j 0 = i := by simp [List.getD_eq_getElem?_getD, hj]
        obtain ⟨sz0, xs0⟩ := xs0
        simp only [Prod.mk.injEq] at e
        obtain ⟨rfl, rfl, rfl⟩ := e
        obtain ⟨q0, q1, q2⟩ := h.vc i cur sz0 xs0 hc
        simp only [Gh.norm, hi]
        refine ⟨q0, q1, ?_⟩
        rcases q2 with q2 | ⟨b, o, vs, T, g1, g2, g3⟩
        · exact .inl q2
        · refine .inr ⟨b, o, vs, T, g1, ?_, g3⟩
          simp only [g2, nodup_pos hvm hj]
      · cases e
  · intro j e he
    simp only [St.norm, List.getElem?_map] at he
    cases hj : tm[j]? with
    | none => rw [hj] at he; cases he
    | some i =>
      have hi : tm.getD j 0 = i := by simp [List.getD_eq_getElem?_getD, hj]
      rw [hj] at he
      simp only [Option.map_some, Option.some.injEq] at he
      subst he
      have hil := htl i (List.mem_of_getElem? hj)
      obtain ⟨q0, q2⟩ := h.tp i (s.tp[i]) (List.getElem?_eq_getElem hil)
      simp only [Gh.norm, hi]
      refine ⟨⟨by rw [q0.1]; simp [List.getD_eq_getElem?_getD, List.getElem?_eq_getElem hil], q0.2⟩, ?_⟩
      rcases q2 with q2 | ⟨b, o, vs, T, g1, g2, g3⟩
      · exact .inl q2
      · refine .inr ⟨b, o, vs, T, g1, ?_, g3⟩
        simp only [g2, nodup_pos htm hj]

theorem keepT_length (s : St) (nb : Nat) (tm vm keep : List Nat) (l : List AV) (i : Nat) : (keepT s nb tm vm keep l i).length = l.length := by
  induction l generalizing i with
  | nil => rfl
  | cons a l ih => simp [keepT, ih]
theorem keepT_get (s : St) (nb : Nat) (tm vm keep : List Nat) (l : List AV) (i k : Nat) (b : AV) (h : (keepT s nb tm vm keep l i)[k]? = some b) : ∃ a, l[k]? = some a ∧ (b = a.norm s nb tm vm ∨ b = .any) := by
  induction l generalizing i k with
  | nil => simp [keepT] at h
  | cons a l ih =>
    cases k with
    | zero =>
      simp only [keepT, List.getElem?_cons_zero, Option.some.injEq] at h
      refine ⟨a, rfl, ?_⟩
      subst h
      cases keep.any (fun j => Nat.beq j i)
      · exact .inr rfl
      · exact .inl rfl
    | succ k => simp only [keepT, List.getElem?_cons_succ] at h ⊢; exact ih (i + 1) k h

theorem tipsAt_lt (x : AS) (l : List Place) : ∀ i, i ∈ x.tipsAt l → i < x.s.tp.length := by
  induction l with
  | nil => intro i hi; cases hi
  | cons p l ih =>
    intro i hi
    simp only [AS.tipsAt] at hi
    split at hi
    · rename_i j _ _ _
      cases hb : Nat.blt j x.s.tp.length with
      | false => rw [hb] at hi; exact ih i hi
      | true =>
        rw [hb] at hi
        simp only [cond_true, List.mem_cons] at hi
        rcases hi with rfl | hi
        · exact blt_lt hb
        · exact ih i hi
    · exact ih i hi

theorem R.adoptAll (l : List (Place × Nat)) : ∀ {G : Gh} {x : AS}, R F w0 M0 G x a w → ∃ G', R F w0 M0 G' (l.foldl AS.adopt x) a w := by
  induction l with
  | nil => intro G x h; exact ⟨G, h⟩
  | cons p l ih =>
    intro G x h
    obtain ⟨G', h'⟩ := h.adopt p
    exact ih h'

theorem R.head (h : R F w0 M0 G x a w) {hd : Head} {y : AS} (hy : x.head hd = some y) : ∃ G', R F w0 M0 G' y a w := by
  obtain ⟨G1, h1⟩ := h.adoptAll hd.tips
  unfold AS.head AS.numbered at hy
  cases hc : nodup ((List.foldl AS.adopt x hd.tips).tipsAt (hd.tips.map (·.1))) && nodup ((List.foldl AS.adopt x hd.tips).vecsAt hd.vecs) with
  | false => rw [hc] at hy; cases hy
  | true =>
    rw [hc] at hy
    simp only [cond_true, Option.some.injEq] at hy
    subst hy
    simp only [Bool.and_eq_true] at hc
    refine ⟨_, h1.S.norm hd.nb _ _ hc.1 hc.2 (tipsAt_lt _ _), ⟨by rw [h1.T.1]; exact (keepT_length ..).symm, fun i b v g1 g2 => ?_⟩, h1.D⟩
    obtain ⟨a', ha, hb⟩ := keepT_get _ _ _ _ _ _ _ _ _ g1
    rcases hb with rfl | rfl
    · exact (h1.T.2 i a' v ha g2).norm _ _ _
    · trivial
end
end Go.AL
