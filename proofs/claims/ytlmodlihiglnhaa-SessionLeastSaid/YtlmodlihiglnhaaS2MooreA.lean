/- Sessions: classes: alike by what is known, numbers of classes. -/
import Derived.Test.YtlmodlihiglnhaaS2Bis
import Derived.Test.YtlmodlihiglnhaaS2ELeast
set_option linter.unusedVariables false
set_option linter.unusedSimpArgs false
namespace Go.AL.S2.Se
open Go Go.AL Go.AL.S2

def eN (n : Nat) : PV := .int .i64 n
theorem n_fits (n : Nat) : (Sh.int .i64).fits (eN n) = true := nrfl rfl
theorem n_i (n : Nat) : (eN n).toInt = n := nrfl rfl
theorem nc_fits (n : Nat) : (Nat.blt 0 (eN n).cells.length && (Sh.int .i64).fits ((eN n).cl 0)) = true := nrfl rfl
theorem nc_set (n : Nat) : (Nat.blt 0 (eN n).cells.length && true) = true := nrfl rfl
theorem nc_i (n : Nat) : ((eN n).cl 0).toInt = n := nrfl rfl
theorem nc_eta (m n : Nat) : (eN m).setc 0 (.int .i64 n) = eN n := nrfl rfl
theorem get_map {α β : Type} {f : α → β} {xs : List α} {i : Nat} {x : α} (h : xs[i]? = some x) : (xs.map f)[i]? = some (f x) := by simp [h]
theorem beq_cast (m n : Nat) : ((m : Int) == (n : Int)) = (m == n) := by
  by_cases h : m = n
  · subst h; rw [beq_self_eq_true, beq_self_eq_true]
  · rw [beq_eq_false_iff_ne.2 h, beq_eq_false_iff_ne.2 (show (m : Int) ≠ (n : Int) by omega)]
theorem getD_at {α : Type} {l : List α} {i : Nat} (d : α) (h : i < l.length) : l[i]? = some (l.getD i d) := by
  simp [List.getD, List.getElem?_eq_getElem h]

/-! #### Alike by what is known -/
def brA (cl : List Nat) : List Br → List Br → Bool
  | [], [] => true
  | b :: l, c :: m => (b.1 == c.1 && cl.getD b.2.toNat 0 == cl.getD c.2.toNat 0) && brA cl l m
  | _, _ => false
def alk (ls : List Sta) (cl : List Nat) (i k : Nat) : Bool := match ls[i]?, ls[k]? with
  | some x, some y => cl.getD i 0 == cl.getD k 0 && (x.1 == y.1 && brA cl x.2 y.2)
  | _, _ => false
def In (n : Nat) (l : List Br) : Prop := ∀ b, b ∈ l → 0 ≤ b.2 ∧ b.2 < n

theorem v72 {cl : List Nat} {b c : Br} (hb : 0 ≤ b.2 ∧ b.2 < cl.length) (hc : 0 ≤ c.2 ∧ c.2 < cl.length) : V 72 [.pv (eBr b), .pv (eBr c), .pv (.ptr [.lst (cl.map eN)])] = some (.pv (.bool (b.1 == c.1 && cl.getD b.2.toNat 0 == cl.getD c.2.toNat 0)), []) := by
  have h : V 72 [.pv (eBr b), .pv (eBr c), .pv (.ptr [.lst (cl.map eN)])] = _ := e72 b.1 b.2 c.1 c.2 (cl.map eN)
  rw [h]
  simp only [dT hb.1, dT hc.1, cond_true, get_map (f := eN) (getD_at 0 (show b.2.toNat < cl.length by omega)), get_map (f := eN) (getD_at 0 (show c.2.toNat < cl.length by omega)), Option.bind_some, n_fits, n_i, beq_cast]
  cases b.1 == c.1 <;> rfl
theorem br_eta (b : Br) : PV.agg [.int .i64 b.1, .int .i64 b.2] = eBr b := nrfl rfl

theorem l71 {cl : List Nat} {a b : List Br} (hl : a.length = b.length) (ha : a.length ≤ maxLen) (h1 : In cl.length a) (h2 : In cl.length b) : ∀ (l m : List Br) (k : Nat), a.drop k = l → b.drop k = m → L71_11014 (b.map eBr) 72 [.ptr [.lst (cl.map eN)]] (a.map eBr) k = some (.pv (.bool (brA cl l m)), [])
  | [], m, k, h, h2 => by
    have : m = [] := by
      have e1 := congrArg List.length h
      have e2 := congrArg List.length h2
      simp at e1 e2
      exact List.eq_nil_of_length_eq_zero (by omega)
    subst this
    rw [e71_11014, endK_map h]
    rfl
  | x :: l, [], k, h, h2 => by
    have e1 := congrArg List.length h
    have e2 := congrArg List.length h2
    simp at e1 e2
    omega
  | x :: l, y :: m, k, h, hb => by
    have A := atK_map (f := eBr) h ha
    have B := atK_map (f := eBr) hb (by omega)
    have A' := atK h ha
    have B' := atK hb (by omega)
    have ih := l71 hl ha h1 h2 l m (k + 1) A'.drop B'.drop
    rw [e71_11014]
    simp only [A.lt, A.ge, A.get, A.next, B.get, cond_true, Option.bind_some]
    simp only [br_fits, br_m, br_n, cond_true, br_eta, List.cons_append, List.nil_append, List.map_cons, List.map_nil, v72 (h1 x (List.mem_of_getElem? A'.get')) (h2 y (List.mem_of_getElem? B'.get')), Option.bind_some, retPV_pv, fits_bool, toBool_bool, brA]
    cases (x.1 == y.1 && cl.getD x.2.toNat 0 == cl.getD y.2.toNat 0) with
    | false => rfl
    | true => exact ih
theorem v71 {cl : List Nat} (a b : List Br) (ha : a.length ≤ maxLen) (h1 : In cl.length a) (h2 : In cl.length b) : V 71 [.pv (.lst (a.map eBr)), .pv (.lst (b.map eBr)), .pv (.fn 72 [.ptr [.lst (cl.map eN)]])] = some (.pv (.bool (brA cl a b)), []) := by
  rw [e71]
  simp only [List.length_map]
  by_cases h : a.length = b.length
  · rw [show ((a.length : Int) != (b.length : Int)) = false from by simp [h]]
    exact l71 h ha h1 h2 a b 0 rfl rfl
  · rw [show ((a.length : Int) != (b.length : Int)) = true from by simp; omega]
    simp only [cond_true]
    have : ∀ (a b : List Br), a.length ≠ b.length → brA cl a b = false := by
      intro a
      induction a with
      | nil => intro b hb; cases b with | nil => exact absurd rfl hb | cons _ _ => rfl
      | cons x a ih =>
        intro b hb
        cases b with
        | nil => rfl
        | cons y b => simp only [brA, ih b (by simpa using hb), Bool.and_false]
    rw [this a b h]

theorem wf_in {ls : List Sta} (hw : WF ls) {s : Sta} (hs : s ∈ ls) {n : Nat} (hn : n = ls.length) : In n s.2 := fun b hb => by
  obtain ⟨_, _, _, _, h⟩ := hw.st s hs
  subst hn
  exact ⟨(h b hb).2.2.1, (h b hb).2.2.2⟩

theorem v29 {ls : List Sta} (hw : WF ls) {cl : List Nat} (hcl : cl.length = ls.length) {i k : Nat} (hi : i < ls.length) (hk : k < ls.length) : V 29 [.pv (.lst (ls.map eSt)), .pv (.lst (cl.map eN)), .pv (.int .i64 i), .pv (.int .i64 k)] = some (.pv (.bool (alk ls cl i k)), []) := by
  obtain ⟨x, hx⟩ : ∃ x, ls[i]? = some x := ⟨_, List.getElem?_eq_getElem hi⟩
  obtain ⟨y, hy⟩ : ∃ x, ls[k]? = some x := ⟨_, List.getElem?_eq_getElem hk⟩
  have hxm := List.mem_of_getElem? hx
  have hym := List.mem_of_getElem? hy
  have h6 := (hw.st x hxm).2.2.1
  rw [e29]
  simp only [dT (Int.natCast_nonneg i), dT (Int.natCast_nonneg k), cond_true, Int.toNat_natCast, get_map (f := eSt) hx, get_map (f := eSt) hy, Option.bind_some, st_fits, st_k, st_b, get_map (f := eN) (getD_at 0 (show i < cl.length by omega)), get_map (f := eN) (getD_at 0 (show k < cl.length by omega)), n_fits, n_i, beq_cast, v71 x.2 y.2 (by simp [maxLen]; omega) (wf_in hw hxm hcl) (wf_in hw hym hcl), retPV_pv, fits_bool, toBool_bool]
  simp only [alk, hx, hy]
  cases cl.getD i 0 == cl.getD k 0 with
  | false => rfl
  | true => cases x.1 == y.1 <;> rfl

theorem l30 {a b : List Nat} (hl : a.length = b.length) (ha : a.length ≤ maxLen) : ∀ (l m : List Nat) (k : Nat), a.drop k = l → b.drop k = m → L30_11014 (a.map eN) (b.map eN) k = some (.pv (.bool (l == m)), [])
  | [], m, k, h, h2 => by
    have : m = [] := by
      have e1 := congrArg List.length h
      have e2 := congrArg List.length h2
      simp at e1 e2
      exact List.eq_nil_of_length_eq_zero (by omega)
    subst this
    rw [e30_11014, endK_map h]
    rfl
  | x :: l, [], k, h, h2 => by
    have e1 := congrArg List.length h
    have e2 := congrArg List.length h2
    simp at e1 e2
    omega
  | x :: l, y :: m, k, h, h2 => by
    have A := atK_map (f := eN) h ha
    have B := atK_map (f := eN) h2 (by omega)
    have ih := l30 hl ha l m (k + 1) (atK h ha).drop (atK h2 (by omega)).drop
    rw [e30_11014]
    simp only [A.lt, A.ge, A.get, A.next, B.get, cond_true, Option.bind_some, n_fits, n_i]
    by_cases hxy : x = y
    · subst hxy
      rw [show ((x : Int) != (x : Int)) = false from by simp]
      simp only [cond_false]
      rw [ih]
      simp
    · rw [show ((x : Int) != (y : Int)) = true from by simp; omega]
      simp [hxy]
theorem v30 (a b : List Nat) (hab : a.length = b.length) (ha : a.length ≤ maxLen) : V 30 [.pv (.lst (a.map eN)), .pv (.lst (b.map eN))] = some (.pv (.bool (a == b)), []) := by
  rw [e30]
  simp only [List.length_map]
  rw [show ((a.length : Int) != (b.length : Int)) = false from by simp [hab]]
  exact l30 hab ha a b 0 rfl rfl

/-! #### Numbers of classes -/
def fst1 (p : Nat → Bool) : Nat → Nat → Option Nat
  | 0, _ => none
  | n + 1, k => if p k = true then some k else fst1 p n (k + 1)
theorem fst1_some {p : Nat → Bool} : ∀ {n k j : Nat}, fst1 p n k = some j → k ≤ j ∧ j < k + n ∧ p j = true
  | 0, k, j, h => by cases h
  | n + 1, k, j, h => by
    simp only [fst1] at h
    split at h
    · rename_i hp
      obtain rfl := Option.some.inj h
      exact ⟨Nat.le_refl _, by omega, hp⟩
    · have := fst1_some h
      exact ⟨by omega, by omega, this.2.2⟩
theorem fst1_none {p : Nat → Bool} : ∀ {n k : Nat}, fst1 p n k = none → ∀ j, k ≤ j → j < k + n → p j = false
  | 0, k, h, j, h1, h2 => by omega
  | n + 1, k, h, j, h1, h2 => by
    simp only [fst1] at h
    split at h
    · cases h
    · rename_i hp
      by_cases hj : j = k
      · subst hj; simpa using hp
      · exact fst1_none h j (by omega) (by omega)
theorem fst1_congr {p q : Nat → Bool} : ∀ {n k : Nat}, (∀ j, k ≤ j → j < k + n → p j = q j) → fst1 p n k = fst1 q n k
  | 0, k, h => rfl
  | n + 1, k, h => by
    simp only [fst1]
    rw [h k (Nat.le_refl _) (by omega), fst1_congr (n := n) (k := k + 1) fun j h1 h2 => h j (by omega) (by omega)]

def nxtV (p : Nat → Nat → Bool) (i : Nat) (r : List Nat × Nat) : Nat := match fst1 (p i) i 0 with | some k => r.1.getD k 0 | none => r.2
def fineP (p : Nat → Nat → Bool) : Nat → List Nat × Nat
  | 0 => ([], 0)
  | i + 1 => ((fineP p i).1 ++ [nxtV p i (fineP p i)], if nxtV p i (fineP p i) = (fineP p i).2 then (fineP p i).2 + 1 else (fineP p i).2)
theorem fineP_len (p : Nat → Nat → Bool) : ∀ i, (fineP p i).1.length = i
  | 0 => rfl
  | i + 1 => by simp [fineP, fineP_len p i]
structure EqOn (p : Nat → Nat → Bool) (m : Nat) : Prop where
  refl : ∀ i, i < m → p i i = true
  symm : ∀ i j, p i j = true → p j i = true
  trans : ∀ i j k, p i j = true → p j k = true → p i k = true
theorem getD_left {l : List Nat} {v j : Nat} (h : j < l.length) : (l ++ [v]).getD j 0 = l.getD j 0 := by
  simp [List.getD, List.getElem?_append_left h]
theorem getD_last {l : List Nat} {v : Nat} : (l ++ [v]).getD l.length 0 = v := by
  simp [List.getD]

theorem fineP_ok {p : Nat → Nat → Bool} {m : Nat} (h : EqOn p m) : ∀ i, i ≤ m → (∀ j, j < i → (fineP p i).1.getD j 0 < (fineP p i).2) ∧ (fineP p i).2 ≤ i ∧ ∀ j k, j < i → k < i → ((fineP p i).1.getD j 0 = (fineP p i).1.getD k 0 ↔ p j k = true)
  | 0, _ => ⟨fun j hj => by omega, Nat.le_refl _, fun j k hj => by omega⟩
  | i + 1, hi => by
    obtain ⟨g1, g2, g3⟩ := fineP_ok h i (by omega)
    have hlen := fineP_len p i
    have hl : ∀ j, j < i → ((fineP p i).1 ++ [nxtV p i (fineP p i)]).getD j 0 = (fineP p i).1.getD j 0 := fun j hj => getD_left (by omega)
    have hz : ((fineP p i).1 ++ [nxtV p i (fineP p i)]).getD i 0 = nxtV p i (fineP p i) := by
      have := getD_last (l := (fineP p i).1) (v := nxtV p i (fineP p i))
      rw [hlen] at this; exact this
    -- the new one
    have hnew : (nxtV p i (fineP p i) < (fineP p i).2 ∨ nxtV p i (fineP p i) = (fineP p i).2) ∧ ∀ j, j < i → ((fineP p i).1.getD j 0 = nxtV p i (fineP p i) ↔ p j i = true) := by
      unfold nxtV
      cases hf : fst1 (p i) i 0 with
      | none =>
        refine ⟨.inr rfl, fun j hj => ?_⟩
        have h1 := g1 j hj
        have h2 := fst1_none hf j (Nat.zero_le _) (by omega)
        constructor
        · intro e; simp only at e; omega
        · intro e
          rw [h.symm _ _ e] at h2; cases h2
      | some k =>
        obtain ⟨_, k2, k3⟩ := fst1_some hf
        refine ⟨.inl (g1 k (by omega)), fun j hj => ?_⟩
        rw [show (match some k with | some k => (fineP p i).1.getD k 0 | none => (fineP p i).2) = (fineP p i).1.getD k 0 from rfl, g3 j k hj (by omega)]
        exact ⟨fun e => h.trans _ _ _ e (h.symm _ _ k3), fun e => h.trans _ _ _ e k3⟩
    obtain ⟨n1, n2⟩ := hnew
    refine ⟨fun j hj => ?_, ?_, fun j k hj hk => ?_⟩
    · simp only [fineP]
      by_cases hji : j < i
      · rw [hl j hji]
        have := g1 j hji
        split <;> omega
      · rw [show j = i by omega, hz]
        split <;> omega
    · simp only [fineP]
      split <;> omega
    · simp only [fineP]
      by_cases hji : j < i
      · rw [hl j hji]
        by_cases hki : k < i
        · rw [hl k hki]; exact g3 j k hji hki
        · rw [show k = i by omega, hz]; exact n2 j hji
      · rw [show j = i by omega, hz]
        by_cases hki : k < i
        · rw [hl k hki]
          constructor
          · intro e; exact h.symm _ _ ((n2 k hki).1 e.symm)
          · intro e; exact ((n2 k hki).2 (h.symm _ _ e)).symm
        · rw [show k = i by omega, hz]
          simp only [true_iff]
          exact h.refl i (by omega)
theorem fineP_congr {p q : Nat → Nat → Bool} {m : Nat} (h : ∀ j k, j < m → k < m → p j k = q j k) : ∀ i, i ≤ m → fineP p i = fineP q i
  | 0, _ => rfl
  | i + 1, hi => by
    have ih := fineP_congr h i (by omega)
    have e : nxtV p i (fineP q i) = nxtV q i (fineP q i) := by
      unfold nxtV
      rw [fst1_congr (p := p i) (q := q i) (n := i) (k := 0) fun j h1 h2 => h i j (by omega) (by omega)]
    simp only [fineP, ih, e]
theorem fineP_one : ∀ i, fineP (fun _ _ => true) i = (List.replicate i 0, if i = 0 then 0 else 1)
  | 0 => rfl
  | 1 => rfl
  | i + 2 => by
    have ih := fineP_one (i + 1)
    have hs : fineP (fun _ _ => true) (i + 2) = ((fineP (fun _ _ => true) (i + 1)).1 ++ [nxtV (fun _ _ => true) (i + 1) (fineP (fun _ _ => true) (i + 1))], if nxtV (fun _ _ => true) (i + 1) (fineP (fun _ _ => true) (i + 1)) = (fineP (fun _ _ => true) (i + 1)).2 then (fineP (fun _ _ => true) (i + 1)).2 + 1 else (fineP (fun _ _ => true) (i + 1)).2) := rfl
    rw [hs, ih]
    have : nxtV (fun _ _ => true) (i + 1) (List.replicate (i + 1) 0, if i + 1 = 0 then 0 else 1) = 0 := by
      simp [nxtV, fst1]
    rw [this]
    simp [List.replicate_succ']

/-! #### One round -/
noncomputable def T31 (ls : List Sta) (cl : List Nat) : Option Out := (V 31 [.pv (.lst (ls.map eSt)), .pv (.lst (cl.map eN))]).bind fun r2 => (retB 2 r2).bind fun l2 => some (.pv (.tup [.lst l2, .int .i64 0]), [])

end Go.AL.S2.Se
