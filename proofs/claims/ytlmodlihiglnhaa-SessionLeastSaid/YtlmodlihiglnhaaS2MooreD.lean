/- Sessions: classes made finer: MOORE. -/
import Derived.Test.YtlmodlihiglnhaaS2MooreC
set_option linter.unusedVariables false
set_option linter.unusedSimpArgs false
namespace Go.AL.S2.Se
open Go Go.AL Go.AL.S2

/-! #### All rounds -/
structure Good (ls : List Sta) (cl : List Nat) : Prop where
  len : cl.length = ls.length
  lt : ∀ j, j < ls.length → cl.getD j 0 < ls.length
  eqv : ∀ i k : Nat, i < ls.length → k < ls.length → (cl.getD i 0 = cl.getD k 0 ↔ Eqv ls ls i k)

theorem brA_refl (cl : List Nat) : ∀ l, brA cl l l = true
  | [] => rfl
  | b :: l => by simp [brA, brA_refl cl l]
theorem brA_symm {cl : List Nat} : ∀ {l m : List Br}, brA cl l m = true → brA cl m l = true
  | [], [], _ => rfl
  | _ :: _, [], h => by cases h
  | [], _ :: _, h => by cases h
  | b :: l, c :: m, h => by
    simp only [brA, Bool.and_eq_true, beq_iff_eq] at h ⊢
    exact ⟨⟨h.1.1.symm, h.1.2.symm⟩, brA_symm h.2⟩
theorem brA_trans {cl : List Nat} : ∀ {l m n : List Br}, brA cl l m = true → brA cl m n = true → brA cl l n = true
  | [], [], [], _, _ => rfl
  | _ :: _, [], _, h, _ => by cases h
  | [], _ :: _, _, h, _ => by cases h
  | _ :: _, _ :: _, [], _, h => by cases h
  | [], [], _ :: _, _, h => by cases h
  | b :: l, c :: m, d :: n, h, k => by
    simp only [brA, Bool.and_eq_true, beq_iff_eq] at h k ⊢
    exact ⟨⟨h.1.1.trans k.1.1, h.1.2.trans k.1.2⟩, brA_trans h.2 k.2⟩
theorem alk_iff {ls : List Sta} {cl : List Nat} {i k : Nat} : alk ls cl i k = true ↔ ∃ x y, ls[i]? = some x ∧ ls[k]? = some y ∧ cl.getD i 0 = cl.getD k 0 ∧ x.1 = y.1 ∧ brA cl x.2 y.2 = true := by
  unfold alk
  constructor
  · intro h
    split at h
    · rename_i x y hx hy
      simp only [Bool.and_eq_true, beq_iff_eq] at h
      exact ⟨x, y, hx, hy, h.1, h.2.1, h.2.2⟩
    · cases h
  · rintro ⟨x, y, hx, hy, h1, h2, h3⟩
    rw [hx, hy]
    simp only [h1, h2, h3, beq_self_eq_true, Bool.and_self]
theorem alk_eqOn (ls : List Sta) (cl : List Nat) : EqOn (alk ls cl) ls.length := by
  refine ⟨fun i hi => alk_iff.2 ⟨_, _, List.getElem?_eq_getElem hi, List.getElem?_eq_getElem hi, rfl, rfl, brA_refl _ _⟩, fun i j h => ?_, fun i j k h h' => ?_⟩
  · obtain ⟨x, y, h1, h2, h3, h4, h5⟩ := alk_iff.1 h
    exact alk_iff.2 ⟨y, x, h2, h1, h3.symm, h4.symm, brA_symm h5⟩
  · obtain ⟨x, y, h1, h2, h3, h4, h5⟩ := alk_iff.1 h
    obtain ⟨y', z, k1, k2, k3, k4, k5⟩ := alk_iff.1 h'
    rw [h2] at k1
    obtain rfl := Option.some.inj k1
    exact alk_iff.2 ⟨x, z, h1, k2, h3.trans k3, h4.trans k4, brA_trans h5 k5⟩
theorem brA_rel {cl : List Nat} {R : Int → Int → Prop} : ∀ {l m : List Br}, (∀ b c : Br, b ∈ l → c ∈ m → cl.getD b.2.toNat 0 = cl.getD c.2.toNat 0 → R b.2 c.2) → brA cl l m = true → BrR R l m
  | [], [], _, _ => trivial
  | _ :: _, [], _, h => by cases h
  | [], _ :: _, _, h => by cases h
  | b :: l, c :: m, hR, h => by
    simp only [brA, Bool.and_eq_true, beq_iff_eq] at h
    exact ⟨h.1.1, hR b c (by simp) (by simp) h.1.2, brA_rel (fun d e hd he => hR d e (by simp [hd]) (by simp [he])) h.2⟩
theorem rel_brA {cl : List Nat} {R : Int → Int → Prop} (hR : ∀ i j, R i j → cl.getD i.toNat 0 = cl.getD j.toNat 0) : ∀ {l m : List Br}, BrR R l m → brA cl l m = true
  | [], [], _ => rfl
  | _ :: _, [], h => h.elim
  | [], _ :: _, h => h.elim
  | b :: l, c :: m, ⟨h1, h2, h3⟩ => by
    simp only [brA, Bool.and_eq_true, beq_iff_eq]
    exact ⟨⟨h1, hR _ _ h2⟩, rel_brA hR h3⟩

def pairs (n : Nat) (p : Nat → Nat → Bool) : Nat := (grid n n).countP fun q => p q.1.toNat q.2.toNat

theorem l10 {ls : List Sta} (hw : WF ls) : ∀ (f : Nat) (p : Nat → Nat → Bool), EqOn p ls.length → (∀ i k, Eqv ls ls i k → p i.toNat k.toNat = true) → pairs ls.length p ≤ f → ∃ cl', Good ls cl' ∧ L10_11104 (ls.map eSt) ((fineP p ls.length).1.map eN) = T31 ls cl' := by
  intro f
  induction f with
  | zero =>
    intro p hp _ hf
    -- there is a pair: the first state with itself
    have : 0 < pairs ls.length p := by
      unfold pairs
      refine List.countP_pos_iff.2 ⟨(0, 0), grid_mem.2 ⟨Int.le_refl _, by have := hw.pos; simp; omega, Int.le_refl _, by have := hw.pos; simp; omega⟩, hp.refl 0 hw.pos⟩
    omega
  | succ f ih =>
    intro p hp hE hf
    obtain ⟨c1, c2, c3⟩ := fineP_ok hp ls.length (Nat.le_refl _)
    have hcl := fineP_len p ls.length
    have hq := alk_eqOn ls (fineP p ls.length).1
    obtain ⟨d1, d2, d3⟩ := fineP_ok hq ls.length (Nat.le_refl _)
    have hsub : ∀ i k, alk ls (fineP p ls.length).1 i k = true → p i k = true := fun i k h => by
      obtain ⟨x, y, h1, h2, h3, _⟩ := alk_iff.1 h
      exact (c3 i k (List.getElem?_eq_some_iff.1 h1).1 (List.getElem?_eq_some_iff.1 h2).1).1 h3
    have hE' : ∀ i k, Eqv ls ls i k → alk ls (fineP p ls.length).1 i.toNat k.toNat = true := fun i k h => by
      have cE : ∀ i k, Eqv ls ls i k → (fineP p ls.length).1.getD i.toNat 0 = (fineP p ls.length).1.getD k.toNat 0 := fun i k h => by
        obtain ⟨x, y, h1, h2, _⟩ := h.at1
        exact (c3 _ _ h1.lt h2.lt).2 (hE i k h)
      obtain ⟨x, y, h1, h2, h3, h4⟩ := h.at1
      exact alk_iff.2 ⟨x, y, h1.2, h2.2, cE i k h, h3, rel_brA cE h4⟩
    rw [l10r hw hcl]
    by_cases heq : (fineP (alk ls (fineP p ls.length).1) ls.length).1 = (fineP p ls.length).1
    · rw [show ((fineP (alk ls (fineP p ls.length).1) ls.length).1 == (fineP p ls.length).1) = true from by simpa using heq]
      refine ⟨_, ⟨hcl, fun j hj => by have := c1 j hj; omega, fun i k hi hk => ⟨fun h => ?_, fun h => ?_⟩⟩, rfl⟩
      · have hst : ∀ i k, i < ls.length → k < ls.length → ((fineP p ls.length).1.getD i 0 = (fineP p ls.length).1.getD k 0) → alk ls (fineP p ls.length).1 i k = true := fun i k hi hk h => by
          rw [← heq] at h
          exact (d3 i k hi hk).1 h
        refine ⟨fun i k => 0 ≤ i ∧ 0 ≤ k ∧ alk ls (fineP p ls.length).1 i.toNat k.toNat = true, ?_, by omega, by omega, by simpa using hst i k hi hk h⟩
        rintro i k ⟨i0, k0, h⟩
        obtain ⟨x, y, h1, h2, h3, h4, h5⟩ := alk_iff.1 h
        refine ⟨x, y, ⟨i0, h1⟩, ⟨k0, h2⟩, h4, brA_rel (fun b c hb hc e => ?_) h5⟩
        have b1 := wf_in hw (List.mem_of_getElem? h1) rfl b hb
        have b2 := wf_in hw (List.mem_of_getElem? h2) rfl c hc
        exact ⟨b1.1, b2.1, hst _ _ (by omega) (by omega) e⟩
      · obtain ⟨x, y, h1, h2, _⟩ := h.at1
        have := (c3 _ _ h1.lt h2.lt).2 (hE i k h)
        simpa using this
    · rw [show ((fineP (alk ls (fineP p ls.length).1) ls.length).1 == (fineP p ls.length).1) = false from by simpa using heq]
      refine ih (alk ls (fineP p ls.length).1) hq hE' ?_
      have : ∃ j k, j < ls.length ∧ k < ls.length ∧ p j k = true ∧ alk ls (fineP p ls.length).1 j k = false := by
        apply Classical.byContradiction
        intro hno
        refine heq ?_
        rw [fineP_congr (p := alk ls (fineP p ls.length).1) (q := p) (m := ls.length) (fun j k hj hk => ?_) ls.length (Nat.le_refl _)]
        cases h1 : alk ls (fineP p ls.length).1 j k with
        | true => exact (hsub j k h1).symm
        | false =>
          cases h2 : p j k with
          | false => rfl
          | true => exact absurd ⟨j, k, hj, hk, h2, h1⟩ hno
      obtain ⟨j, k, hj, hk, h1, h2⟩ := this
      have := countP_lt (P := fun q : Pt => p q.1.toNat q.2.toNat) (Q := fun q : Pt => alk ls (fineP p ls.length).1 q.1.toNat q.2.toNat) (fun q hq => hsub _ _ hq) (l := grid ls.length ls.length) (p := ((j : Int), (k : Int))) (grid_mem.2 ⟨by simp, by simp; omega, by simp, by simp; omega⟩) (by simpa using h1) (by simpa using h2)
      unfold pairs at hf ⊢
      omega

theorem v10_ok {ls : List Sta} (hl : ls.length ≤ maxLen) (h : chk ls = 0) : ∃ cl, Good ls cl ∧ V 10 [.pv (.lst (ls.map eSt))] = T31 ls cl := by
  have hw := chk_ok h
  have hn := hw.n
  obtain ⟨cl, g, e⟩ := l10 hw _ (fun _ _ => true) ⟨fun _ _ => rfl, fun _ _ _ => rfl, fun _ _ _ _ _ => rfl⟩ (fun _ _ _ => rfl) (Nat.le_refl _)
  refine ⟨cl, g, ?_⟩
  rw [fineP_one] at e
  rw [e10, v28 hl, h]
  simp only [Option.bind_some, retPV_pv, fits_i64, cond_true, toInt_int, bne_self_eq_false, cond_false, List.length_map, dT (Int.natCast_nonneg _), dT (Int.le_refl _), dT (show (ls.length : Int) ≤ 2147483648 by omega), Bool.and_self, Bool.true_and, show Nat.ble 8 65536 = true from rfl, show Nat.blt 0 1 = true from rfl, Int.toNat_natCast, zeros]
  exact e
theorem v10_no {ls : List Sta} (hl : ls.length ≤ maxLen) (h : chk ls ≠ 0) : V 10 [.pv (.lst (ls.map eSt))] = some (.pv (.tup [.lst [], .int .i64 (chk ls)]), []) := by
  rw [e10, v28 hl]
  simp only [Option.bind_some, retPV_pv, fits_i64, cond_true, toInt_int]
  rw [show (chk ls != 0) = true from by simpa using h]
  rfl
end Go.AL.S2.Se
