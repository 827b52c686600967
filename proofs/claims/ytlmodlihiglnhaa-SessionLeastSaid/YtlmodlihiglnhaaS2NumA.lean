/- Sessions: states numbered as they are come to: plain Lean. -/
import Derived.Test.YtlmodlihiglnhaaS2MooreD
set_option linter.unusedVariables false
set_option linter.unusedSimpArgs false
namespace Go.AL.S2.Se
open Go Go.AL Go.AL.S2

def cOf (cl : List Nat) (n : Int) : Nat := cl.getD n.toNat 0
def pos (c : Int → Nat) (x : Nat) : List Int → Nat → Option Nat
  | [], _ => none
  | r :: l, k => if c r = x then some k else pos c x l (k + 1)
theorem pos_some {c : Int → Nat} {x : Nat} : ∀ {l : List Int} {k p : Nat}, pos c x l k = some p → k ≤ p ∧ ∃ r, l[p - k]? = some r ∧ c r = x
  | [], k, p, h => by cases h
  | r :: l, k, p, h => by
    simp only [pos] at h
    split at h
    · rename_i hr
      obtain rfl := Option.some.inj h
      exact ⟨Nat.le_refl _, r, by simp, hr⟩
    · obtain ⟨h1, s, h2, h3⟩ := pos_some h
      refine ⟨by omega, s, ?_, h3⟩
      rw [show p - k = (p - (k + 1)) + 1 by omega]
      simpa using h2
theorem pos_none {c : Int → Nat} {x : Nat} : ∀ {l : List Int} {k : Nat}, pos c x l k = none → ∀ r, r ∈ l → c r ≠ x
  | [], k, h, r, hr => by cases hr
  | s :: l, k, h, r, hr => by
    simp only [pos] at h
    split at h
    · cases h
    · rename_i hs
      rcases List.mem_cons.1 hr with rfl | hr
      · exact hs
      · exact pos_none h r hr
theorem pos_snoc {c : Int → Nat} {x : Nat} {r : Int} (hr : c r = x) : ∀ {l : List Int} {k : Nat}, pos c x l k = none → pos c x (l ++ [r]) k = some (k + l.length)
  | [], k, _ => by simp [pos, hr]
  | s :: l, k, h => by
    simp only [pos] at h
    split at h
    · cases h
    · rename_i hs
      simp only [List.cons_append, pos, if_neg hs]
      rw [pos_snoc hr h]
      simp only [List.length_cons]
      congr 1; omega

def nB (c : Int → Nat) : List Br → List Int → List Br → List Int × List Br
  | [], row, acc => (row, acc)
  | b :: l, row, acc => match pos c (c b.2) row 0 with
    | some p => nB c l row (acc ++ [(b.1, (p : Int))])
    | none => nB c l (row ++ [b.2]) (acc ++ [(b.1, (row.length : Int))])
def nR (c : Int → Nat) (ls : List Sta) : Nat → Nat → List Int → List Sta → List Sta
  | 0, _, _, out => out
  | f + 1, k, row, out => match row[k]? with
    | none => out
    | some r => match ls[r.toNat]? with
      | none => out
      | some s => nR c ls f (k + 1) (nB c s.2 row []).1 (out ++ [(s.1, (nB c s.2 row []).2)])

/-! #### Rows -/
structure RowOk (c : Int → Nat) (m : Nat) (row : List Int) : Prop where
  rng : ∀ r, r ∈ row → 0 ≤ r ∧ r < m
  nd : (row.map c).Nodup
  lt : ∀ r, r ∈ row → c r < m
theorem nodup_le : ∀ (m : Nat) (l : List Nat), l.Nodup → (∀ x, x ∈ l → x < m) → l.length ≤ m
  | 0, l, _, h => by
    cases l with
    | nil => simp
    | cons x l => have := h x (by simp); omega
  | m + 1, l, hn, h => by
    by_cases hm : m ∈ l
    · have h1 := nodup_le m (l.erase m) (hn.erase m) fun x hx => by
        have := (hn.mem_erase_iff).1 hx
        have := h x this.2
        omega
      have h2 := List.length_erase_of_mem hm
      omega
    · have := nodup_le m l hn fun x hx => by
        have h1 := h x hx
        have : x ≠ m := fun e => hm (e ▸ hx)
        omega
      omega
theorem RowOk.len {c : Int → Nat} {m : Nat} {row : List Int} (h : RowOk c m row) : row.length ≤ m := by
  have := nodup_le m (row.map c) h.nd fun x hx => by
    obtain ⟨r, hr, rfl⟩ := List.mem_map.1 hx
    exact h.lt r hr
  simpa using this
theorem RowOk.snoc {c : Int → Nat} {m : Nat} {row : List Int} (h : RowOk c m row) {r : Int} (h0 : 0 ≤ r ∧ r < m) (hl : c r < m) (hp : pos c (c r) row 0 = none) : RowOk c m (row ++ [r]) := by
  refine ⟨fun s hs => ?_, ?_, fun s hs => ?_⟩
  · rcases List.mem_append.1 hs with hs | hs
    · exact h.rng s hs
    · rw [List.mem_singleton.1 hs]; exact h0
  · rw [List.map_append, List.nodup_append]
    refine ⟨h.nd, by simp, fun a ha b hb => ?_⟩
    obtain ⟨s, hs, rfl⟩ := List.mem_map.1 ha
    simp at hb
    subst hb
    exact pos_none hp s hs
  · rcases List.mem_append.1 hs with hs | hs
    · exact h.lt s hs
    · rw [List.mem_singleton.1 hs]; exact hl

/-! #### What comes out -/
def RR (c : Int → Nat) (row : List Int) (n p : Int) : Prop := 0 ≤ p ∧ ∃ r, row[p.toNat]? = some r ∧ c r = c n
theorem RR.more {c : Int → Nat} {row : List Int} {n p : Int} (h : RR c row n p) (suf : List Int) : RR c (row ++ suf) n p := by
  obtain ⟨h1, r, h2, h3⟩ := h
  exact ⟨h1, r, by rw [List.getElem?_append_left (List.getElem?_eq_some_iff.1 h2).1]; exact h2, h3⟩
theorem BrR.snoc {R : Int → Int → Prop} {b d : Br} (h1 : b.1 = d.1) (h2 : R b.2 d.2) : ∀ {l m : List Br}, BrR R l m → BrR R (l ++ [b]) (m ++ [d])
  | [], [], _ => ⟨h1, h2, trivial⟩
  | _ :: _, [], k => k.elim
  | [], _ :: _, k => k.elim
  | _ :: _, _ :: _, ⟨a, e, f⟩ => ⟨a, e, BrR.snoc h1 h2 f⟩
theorem nB_ok {c : Int → Nat} {m : Nat} (hc : ∀ n : Int, 0 ≤ n → n < m → c n < m) : ∀ (l : List Br) (row : List Int) (acc done : List Br), RowOk c m row → (∀ b, b ∈ l → 0 ≤ b.2 ∧ b.2 < m) → BrR (RR c row) done acc → RowOk c m (nB c l row acc).1 ∧ (∃ suf, (nB c l row acc).1 = row ++ suf) ∧ BrR (RR c (nB c l row acc).1) (done ++ l) (nB c l row acc).2
  | [], row, acc, done, h, _, hB => ⟨h, ⟨[], by simp [nB]⟩, by simpa [nB] using hB⟩
  | b :: l, row, acc, done, h, hl, hB => by
    have hb := hl b (by simp)
    simp only [nB]
    cases hp : pos c (c b.2) row 0 with
    | some p =>
      obtain ⟨_, r, h2, h3⟩ := pos_some hp
      have := nB_ok hc l row (acc ++ [(b.1, (p : Int))]) (done ++ [b]) h (fun d hd => hl d (by simp [hd])) (BrR.snoc (b := b) (d := (b.1, (p : Int))) rfl ⟨Int.natCast_nonneg p, r, by simpa using h2, h3⟩ hB)
      simpa using this
    | none =>
      have h' := h.snoc hb (hc _ hb.1 hb.2) hp
      obtain ⟨g1, ⟨suf, g2⟩, g3⟩ := nB_ok hc l (row ++ [b.2]) (acc ++ [(b.1, (row.length : Int))]) (done ++ [b]) h' (fun d hd => hl d (by simp [hd])) (BrR.snoc (b := b) (d := (b.1, (row.length : Int))) rfl ⟨Int.natCast_nonneg _, b.2, by simp, rfl⟩ (hB.mono fun i j h => h.more [b.2]))
      exact ⟨g1, ⟨b.2 :: suf, by rw [g2]; simp⟩, by simpa using g3⟩

structure NInv (c : Int → Nat) (ls : List Sta) (k : Nat) (row : List Int) (out : List Sta) : Prop where
  ok : RowOk c ls.length row
  len : out.length = k
  le : k ≤ row.length
  zero : row[0]? = some 0
  at_ : ∀ j, j < k → ∃ r s br, row[j]? = some r ∧ ls[r.toNat]? = some s ∧ out[j]? = some (s.1, br) ∧ BrR (RR c row) s.2 br
theorem NInv.next {c : Int → Nat} {ls : List Sta} (hw : WF ls) (hc : ∀ n : Int, 0 ≤ n → n < ls.length → c n < ls.length) {k : Nat} {row : List Int} {out : List Sta} (h : NInv c ls k row out) {r : Int} {s : Sta} (hr : row[k]? = some r) (hs : ls[r.toNat]? = some s) : NInv c ls (k + 1) (nB c s.2 row []).1 (out ++ [(s.1, (nB c s.2 row []).2)]) := by
  obtain ⟨g1, ⟨suf, g2⟩, g3⟩ := nB_ok hc s.2 row [] [] h.ok (wf_in hw (List.mem_of_getElem? hs) rfl) trivial
  have hk := (List.getElem?_eq_some_iff.1 hr).1
  have hkeep : ∀ j x, row[j]? = some x → (nB c s.2 row []).1[j]? = some x := fun j x hj => by
    rw [g2, List.getElem?_append_left (List.getElem?_eq_some_iff.1 hj).1]; exact hj
  refine ⟨g1, by simp [h.len], ?_, hkeep _ _ h.zero, fun j hj => ?_⟩
  · rw [g2]; simp; omega
  · by_cases hjk : j < k
    · obtain ⟨r', s', br, e1, e2, e3, e4⟩ := h.at_ j hjk
      refine ⟨r', s', br, hkeep _ _ e1, e2, by rw [List.getElem?_append_left (by rw [h.len]; exact hjk)]; exact e3, e4.mono fun i p hp => by rw [g2]; exact hp.more suf⟩
    · have : j = k := by omega
      subst this
      exact ⟨r, s, (nB c s.2 row []).2, hkeep _ _ hr, hs, by rw [List.getElem?_append_right (by rw [h.len]; exact Nat.le_refl _), h.len]; simp, by simpa using g3⟩
theorem nR_ok {c : Int → Nat} {ls : List Sta} (hw : WF ls) (hc : ∀ n : Int, 0 ≤ n → n < ls.length → c n < ls.length) : ∀ (f k : Nat) (row : List Int) (out : List Sta), 17 - k ≤ f → NInv c ls k row out → ∃ row', NInv c ls row'.length row' (nR c ls f k row out)
  | f, k, row, out, hf, h => by
    have hn := hw.n
    have hl := h.ok.len
    by_cases hk : k = row.length
    · refine ⟨row, ?_⟩
      have : nR c ls f k row out = out := by
        cases f with
        | zero => rfl
        | succ f => simp only [nR, List.getElem?_eq_none (show row.length ≤ k by omega)]
      rw [this, ← hk]
      exact h
    · have hle := h.le
      obtain ⟨r, hr⟩ : ∃ r, row[k]? = some r := ⟨_, List.getElem?_eq_getElem (by omega)⟩
      have hrr := h.ok.rng r (List.mem_of_getElem? hr)
      obtain ⟨s, hs, _⟩ := get_int (xs := ls) hrr.1 hrr.2
      cases f with
      | zero => omega
      | succ f =>
        obtain ⟨row', g⟩ := nR_ok hw hc f (k + 1) _ _ (by omega) (h.next hw hc hr hs)
        refine ⟨row', ?_⟩
        simp only [nR, hr, hs]
        exact g

/-- the states of ls, numbered anew -/
def numF (ls : List Sta) (cl : List Nat) : List Sta := nR (cOf cl) ls 17 0 [0] []
theorem inv_start {ls : List Sta} (hw : WF ls) {cl : List Nat} (hg : Good ls cl) : NInv (cOf cl) ls 0 [0] [] := by
  have hp := hw.pos
  refine ⟨⟨fun r hr => ?_, by simp, fun r hr => ?_⟩, rfl, by simp, rfl, fun j hj => by omega⟩
  · rw [List.mem_singleton.1 hr]; omega
  · rw [List.mem_singleton.1 hr]; exact hg.lt 0 hp
theorem good_c {ls : List Sta} {cl : List Nat} (hg : Good ls cl) : ∀ n : Int, 0 ≤ n → n < ls.length → cOf cl n < ls.length := fun n h1 h2 => hg.lt _ (by omega)
theorem good_eqv {ls : List Sta} {cl : List Nat} (hg : Good ls cl) {i k : Int} (hi : 0 ≤ i ∧ i < ls.length) (hk : 0 ≤ k ∧ k < ls.length) : cOf cl i = cOf cl k ↔ Eqv ls ls i k := by
  have := hg.eqv i.toNat k.toNat (by omega) (by omega)
  rw [Int.toNat_of_nonneg hi.1, Int.toNat_of_nonneg hk.1] at this
  exact this
theorem at_rng {a : List Sta} {i : Int} {x : Sta} (h : At a i x) : 0 ≤ i ∧ i < a.length := by
  have := h.lt
  have := h.1
  omega

theorem ckS_of {n : Int} : ∀ {l : List Sta}, (∀ s, s ∈ l → 1 ≤ s.1 ∧ s.1 ≤ 3 ∧ s.2.length ≤ 6 ∧ (s.1 = 3 ↔ s.2 = []) ∧ ckB n none s.2 = 0) → ckS n l = 0
  | [], _ => rfl
  | s :: l, h => by
    obtain ⟨h1, h2, h3, h4, h5⟩ := h s (by simp)
    simp only [ckS]
    rw [if_neg (by omega), if_neg (by omega), if_neg, if_neg (by omega), if_neg (by simp [h5])]
    · exact ckS_of fun t ht => h t (by simp [ht])
    · by_cases h6 : s.1 = 3
      · simp [h6, h4.1 h6]
      · have h7 : s.2 ≠ [] := fun e => h6 (h4.2 e)
        have h8 : ¬ s.2.length = 0 := fun e => h7 (List.eq_nil_of_length_eq_zero e)
        have h9 : ¬ ((s.2.length : Int) = 0) := by omega
        rw [beq_eq_false_iff_ne.2 h6, beq_eq_false_iff_ne.2 h9]
        simp

theorem num_ok {ls : List Sta} (h0 : chk ls = 0) {cl : List Nat} (hg : Good ls cl) : chk (numF ls cl) = 0 ∧ (numF ls cl).length ≤ ls.length ∧ Eqv ls (numF ls cl) 0 0 := by
  have hw := chk_ok h0
  have hn := hw.n
  obtain ⟨row, h⟩ := nR_ok hw (good_c hg) 17 0 [0] [] (by omega) (inv_start hw hg)
  have hlen : (numF ls cl).length = row.length := h.len
  have hrl := h.ok.len
  have hpos : 0 < row.length := (List.getElem?_eq_some_iff.1 h.zero).1
  have hfact : ∀ (j : Nat) (s' : Sta), (numF ls cl)[j]? = some s' → ∃ (r : Int) (s : Sta), row[j]? = some r ∧ ls[r.toNat]? = some s ∧ s'.1 = s.1 ∧ BrR (RR (cOf cl) row) s.2 s'.2 := fun j s' hj => by
    have hjl : j < row.length := by rw [← hlen]; exact (List.getElem?_eq_some_iff.1 hj).1
    obtain ⟨r, s, br, e1, e2, e3, e4⟩ := h.at_ j hjl
    have : some s' = some (s.1, br) := hj.symm.trans e3
    obtain rfl := Option.some.inj this
    exact ⟨r, s, e1, e2, rfl, e4⟩
  refine ⟨?_, by omega, ?_⟩
  · unfold chk
    rw [if_neg (by omega), if_neg (by omega)]
    refine ckS_of fun s' hs' => ?_
    obtain ⟨j, hj⟩ := List.mem_iff_getElem?.1 hs'
    obtain ⟨r, s, e1, e2, e3, e4⟩ := hfact j s' hj
    have hsm := List.mem_of_getElem? e2
    obtain ⟨w1, w2, w3, w4, _⟩ := hw.st s hsm
    have hl := e4.len
    refine ⟨by omega, by omega, by omega, ?_, ckB_turn (fun i p hp => ?_) e4 (chk_srt h0 hsm)⟩
    · rw [e3, w4]
      constructor
      · intro e; rw [e] at hl; exact List.eq_nil_of_length_eq_zero hl.symm
      · intro e; rw [e] at hl; exact List.eq_nil_of_length_eq_zero hl
    · obtain ⟨p0, r', hr', _⟩ := hp
      have := (List.getElem?_eq_some_iff.1 hr').1
      exact ⟨p0, by omega⟩
  · refine ⟨fun i p => 0 ≤ i ∧ i < ls.length ∧ RR (cOf cl) row i p, ?_, Int.le_refl _, by have := hw.pos; omega, Int.le_refl _, 0, h.zero, rfl⟩
    rintro i p ⟨i0, i1, p0, r, hr, hcr⟩
    have hpl : p.toNat < row.length := (List.getElem?_eq_some_iff.1 hr).1
    obtain ⟨s', hs'⟩ : ∃ s', (numF ls cl)[p.toNat]? = some s' := ⟨_, List.getElem?_eq_getElem (by omega)⟩
    obtain ⟨r2, s, e1, e2, e3, e4⟩ := hfact _ _ hs'
    rw [hr] at e1
    obtain rfl := Option.some.inj e1
    have hrr := h.ok.rng r (List.mem_of_getElem? hr)
    have hE : Eqv ls ls i r := (good_eqv hg ⟨i0, i1⟩ hrr).1 hcr.symm
    obtain ⟨x, y, x1, y1, hk, hB⟩ := hE.at1
    have : s = y := by have := y1.2; rw [e2] at this; exact Option.some.inj this
    subst this
    refine ⟨x, s', x1, ⟨p0, hs'⟩, hk.trans e3.symm, (hB.comp e4).mono fun n q hnq => ?_⟩
    obtain ⟨n', g1, g2, r', g3, g4⟩ := hnq
    obtain ⟨u, v, u1, v1, _⟩ := g1.at1
    have hu := at_rng u1
    have hv := at_rng v1
    exact ⟨hu.1, hu.2, g2, r', g3, g4.trans ((good_eqv hg hu hv).2 g1).symm⟩

/-! #### In step -/
def RowE (E : Int → Int → Prop) : List Int → List Int → Prop
  | [], [] => True
  | r :: l, s :: m => E r s ∧ RowE E l m
  | _, _ => False
theorem RowE.snoc {E : Int → Int → Prop} {x y : Int} (h : E x y) : ∀ {l m : List Int}, RowE E l m → RowE E (l ++ [x]) (m ++ [y])
  | [], [], _ => ⟨h, trivial⟩
  | _ :: _, [], k => k.elim
  | [], _ :: _, k => k.elim
  | _ :: _, _ :: _, ⟨a, b⟩ => ⟨a, RowE.snoc h b⟩
theorem RowE.len {E : Int → Int → Prop} : ∀ {l m : List Int}, RowE E l m → l.length = m.length
  | [], [], _ => rfl
  | _ :: _, [], k => k.elim
  | [], _ :: _, k => k.elim
  | _ :: _, _ :: _, ⟨_, b⟩ => by simp [RowE.len b]
theorem RowE.get {E : Int → Int → Prop} : ∀ {l m : List Int} {k : Nat}, RowE E l m → (l[k]? = none ∧ m[k]? = none) ∨ ∃ r s, l[k]? = some r ∧ m[k]? = some s ∧ E r s
  | [], [], k, _ => .inl ⟨rfl, rfl⟩
  | _ :: _, [], _, k => k.elim
  | [], _ :: _, _, k => k.elim
  | r :: l, s :: m, 0, ⟨a, b⟩ => .inr ⟨r, s, rfl, rfl, a⟩
  | r :: l, s :: m, k + 1, ⟨a, b⟩ => by
    have := RowE.get (k := k) b
    simpa using this
theorem pos_step {E : Int → Int → Prop} {c d : Int → Nat} {x y : Nat} (h : ∀ r s, E r s → (c r = x ↔ d s = y)) : ∀ {l m : List Int} {k : Nat}, RowE E l m → pos c x l k = pos d y m k
  | [], [], _, _ => rfl
  | _ :: _, [], _, k => k.elim
  | [], _ :: _, _, k => k.elim
  | r :: l, s :: m, k, ⟨a, b⟩ => by
    simp only [pos]
    have ih := pos_step h (k := k + 1) b
    by_cases hr : c r = x
    · rw [if_pos hr, if_pos ((h r s a).1 hr)]
    · rw [if_neg hr, if_neg (fun e => hr ((h r s a).2 e)), ih]
theorem nB_step {E : Int → Int → Prop} {c d : Int → Nat} (h : ∀ r s n n', E r s → E n n' → (c r = c n ↔ d s = d n')) : ∀ {l m : List Br} {ra rb : List Int} (acc : List Br), BrR E l m → RowE E ra rb → (nB c l ra acc).2 = (nB d m rb acc).2 ∧ RowE E (nB c l ra acc).1 (nB d m rb acc).1
  | [], [], ra, rb, acc, _, hr => ⟨rfl, hr⟩
  | _ :: _, [], _, _, _, k, _ => k.elim
  | [], _ :: _, _, _, _, k, _ => k.elim
  | b :: l, e :: m, ra, rb, acc, ⟨h1, h2, h3⟩, hr => by
    simp only [nB]
    rw [← pos_step (c := c) (d := d) (x := c b.2) (y := d e.2) (k := 0) (fun r s hrs => h r s _ _ hrs h2) hr]
    cases pos c (c b.2) ra 0 with
    | some p => rw [h1]; exact nB_step h _ h3 hr
    | none => rw [h1, hr.len]; exact nB_step h _ h3 (hr.snoc h2)
theorem nR_step {a b : List Sta} {c d : Int → Nat} (h : ∀ r s n n', Eqv a b r s → Eqv a b n n' → (c r = c n ↔ d s = d n')) : ∀ (f k : Nat) (ra rb : List Int) (out : List Sta), RowE (Eqv a b) ra rb → nR c a f k ra out = nR d b f k rb out
  | 0, k, ra, rb, out, _ => rfl
  | f + 1, k, ra, rb, out, hr => by
    rcases hr.get (k := k) with ⟨e1, e2⟩ | ⟨r, s, e1, e2, e3⟩
    · simp only [nR, e1, e2]
    · obtain ⟨x, y, x1, y1, hk, hB⟩ := e3.at1
      obtain ⟨g1, g2⟩ := nB_step h [] hB hr
      simp only [nR, e1, e2, x1.2, y1.2]
      rw [g1, hk]
      exact nR_step h f (k + 1) _ _ _ g2
theorem num_step {a b : List Sta} {ca cb : List Nat} (ga : Good a ca) (gb : Good b cb) (h : Eqv a b 0 0) : numF a ca = numF b cb := by
  refine nR_step (fun r s n n' h1 h2 => ?_) 17 0 [0] [0] [] ⟨h, trivial⟩
  obtain ⟨_, _, r1, s1, _⟩ := h1.at1
  obtain ⟨_, _, n1, n1', _⟩ := h2.at1
  rw [good_eqv ga (at_rng r1) (at_rng n1), good_eqv gb (at_rng s1) (at_rng n1')]
  exact ⟨fun e => (h1.symm.trans e).trans h2, fun e => (h1.trans e).trans h2.symm⟩
end Go.AL.S2.Se
