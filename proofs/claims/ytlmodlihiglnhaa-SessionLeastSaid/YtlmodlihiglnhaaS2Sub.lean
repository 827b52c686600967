/- Sessions: what can be used for what: a simulation. -/
import Derived.Test.YtlmodlihiglnhaaS2Sess
import Derived.Test.YtlmodlihiglnhaaS2ESub
set_option linter.unusedVariables false
set_option linter.unusedSimpArgs false
namespace Go.AL.S2.Se
open Go Go.AL Go.AL.S2

abbrev Pt := Int × Int
def eP (p : Pt) : PV := .agg [.int .i64 p.1, .int .i64 p.2]
def eM (l : List Pt) : List (PV × PV) := l.map fun p => (eP p, .bool true)
theorem p_fits (p : Pt) : (Sh.agg [Sh.int .i64, Sh.int .i64]).fits (eP p) = true := nrfl rfl
theorem p_0 (p : Pt) : ((eP p).c 0).toInt = p.1 := nrfl rfl
theorem p_1 (p : Pt) : ((eP p).c 1).toInt = p.2 := nrfl rfl
theorem p_eta (p : Pt) : PV.agg [.int .i64 p.1, .int .i64 p.2] = eP p := nrfl rfl
theorem p_eta2 (i k : Int) : PV.agg [.int .i64 i, .int .i64 k] = eP (i, k) := nrfl rfl
theorem key_pp (p q : Pt) : keyEq (.agg [.int, .int]) (eP p) (eP q) = some ((p.1 == q.1) && ((p.2 == q.2) && true)) := nrfl rfl
theorem key_dec (p q : Pt) : ((p.1 == q.1) && ((p.2 == q.2) && true)) = decide (p = q) := by
  obtain ⟨a, b⟩ := p
  obtain ⟨c, d⟩ := q
  by_cases h1 : a = c <;> by_cases h2 : b = d <;> simp [h1, h2]

theorem mget_eM (p : Pt) : ∀ l : List Pt, mget (.agg [.int, .int]) (eM l) (eP p) = some (if p ∈ l then some (.bool true) else none)
  | [] => by simp [eM, mget]
  | q :: l => by
    have ih := mget_eM p l
    simp only [eM, List.map_cons, mget, key_pp, key_dec] at ih ⊢
    by_cases h : p = q
    · subst h; simp
    · rw [show decide (p = q) = false from dF h]
      simp only [cond_false, ih, List.mem_cons, h, false_or]
theorem mset_eM {p : Pt} : ∀ {l : List Pt}, p ∉ l → mset (.agg [.int, .int]) (eM l) (eP p) (.bool true) = some (eM (l ++ [p]))
  | [], _ => rfl
  | q :: l, h => by
    have h1 : p ≠ q := fun e => h (by simp [e])
    have h2 : p ∉ l := fun e => h (by simp [e])
    have ih := mset_eM h2
    simp only [eM, List.map_cons, mset, key_pp, key_dec, List.cons_append] at ih ⊢
    rw [show decide (p = q) = false from dF h1]
    simp only [cond_false, ih]

def sucL (x y many : List Br) : List Br → Option (List Pt)
  | [] => some []
  | c :: l => match nxt c.1 many with
    | none => none
    | some _ => match sucL x y many l with
      | none => none
      | some r => some (((nxt c.1 x).getD 0, (nxt c.1 y).getD 0) :: r)
def stepXY (x y : Sta) : Option (List Pt) := if x.1 ≠ y.1 then none else if x.1 = 2 then sucL x.2 y.2 x.2 y.2 else sucL x.2 y.2 y.2 x.2
def step (a b : List Sta) (p : Pt) : Option (List Pt) := match a[p.1.toNat]?, b[p.2.toNat]? with
  | some x, some y => stepXY x y
  | _, _ => none

theorem sucL_len {x y many : List Br} : ∀ {l : List Br} {r : List Pt}, sucL x y many l = some r → r.length = l.length
  | [], r, h => by obtain rfl := Option.some.inj h; rfl
  | c :: l, r, h => by
    simp only [sucL] at h
    split at h
    · cases h
    split at h
    · cases h
    · rename_i r' h'
      obtain rfl := Option.some.inj h
      simp [sucL_len h']
theorem sucL_mem {x y many : List Br} : ∀ {l : List Br} {r : List Pt}, sucL x y many l = some r → ∀ q, q ∈ r → ∃ c, c ∈ l ∧ (∃ n, nxt c.1 many = some n) ∧ q = ((nxt c.1 x).getD 0, (nxt c.1 y).getD 0)
  | [], r, h, q, hq => by obtain rfl := Option.some.inj h; cases hq
  | c :: l, r, h, q, hq => by
    simp only [sucL] at h
    split at h
    · cases h
    rename_i n hn
    split at h
    · cases h
    · rename_i r' h'
      obtain rfl := Option.some.inj h
      rcases List.mem_cons.1 hq with rfl | hq
      · exact ⟨c, by simp, ⟨n, hn⟩, rfl⟩
      · obtain ⟨c', g1, g2, g3⟩ := sucL_mem h' q hq
        exact ⟨c', by simp [g1], g2, g3⟩
theorem sucL_all {x y many : List Br} : ∀ {l : List Br}, (∀ c, c ∈ l → ∃ n, nxt c.1 many = some n) → ∃ r, sucL x y many l = some r ∧ ∀ c, c ∈ l → ((nxt c.1 x).getD 0, (nxt c.1 y).getD 0) ∈ r
  | [], _ => ⟨[], rfl, fun c hc => by cases hc⟩
  | c :: l, h => by
    obtain ⟨n, hn⟩ := h c (by simp)
    obtain ⟨r, h1, h2⟩ := sucL_all (x := x) (y := y) (many := many) (l := l) fun c hc => h c (by simp [hc])
    refine ⟨_, by simp only [sucL, hn, h1]; rfl, fun c' hc' => ?_⟩
    rcases List.mem_cons.1 hc' with rfl | hc'
    · simp
    · exact List.mem_cons_of_mem _ (h2 c' hc')
theorem sucL_need {x y many : List Br} : ∀ {l : List Br} {r : List Pt}, sucL x y many l = some r → ∀ c, c ∈ l → (∃ n, nxt c.1 many = some n) ∧ ((nxt c.1 x).getD 0, (nxt c.1 y).getD 0) ∈ r
  | [], r, h, c, hc => by cases hc
  | d :: l, r, h, c, hc => by
    simp only [sucL] at h
    split at h
    · cases h
    rename_i n hn
    split at h
    · cases h
    · rename_i r' h'
      obtain rfl := Option.some.inj h
      rcases List.mem_cons.1 hc with rfl | hc
      · exact ⟨⟨n, hn⟩, by simp⟩
      · obtain ⟨g1, g2⟩ := sucL_need h' c hc
        exact ⟨g1, by simp [g2]⟩

theorem l32b {A B : List PV} {M : List (PV × PV)} {x y many few : Sta} (hx : x.2.length ≤ 6) (hy : y.2.length ≤ 6) (hm : many.2.length ≤ 6) (hf : few.2.length ≤ 6) (i2 i3 i : Int) : ∀ (l : List Br) (k : Nat) (st : List Pt), few.2.drop k = l → st.length + l.length ≤ 100000 →
    L32_1111045141111111114 A B (few.2.map eBr) k M i2 i3 x.1 (x.2.map eBr) y.1 (y.2.map eBr) i many.1 (many.2.map eBr) (st.map eP) =
      match sucL x.2 y.2 many.2 l with | none => some (.pv (.tup [.bool false, .int .i64 0]), []) | some r => L32_111104 A B M ((st ++ r).map eP)
  | [], k, st, h, _ => by
    rw [e32_1111045141111111114, endK_map h]
    simp [sucL]
  | c :: l, k, st, h, hs => by
    have A0 := atK_map (f := eBr) h (by simp [maxLen]; omega)
    have A' := atK h (by simp [maxLen]; omega)
    have hsm : small (st.map eP).length 1 16 = true := small_of (by simp at hs ⊢; omega)
    rw [e32_1111045141111111114]
    simp only [A0.lt, A0.ge, A0.get, A0.next, cond_true, Option.bind_some]
    simp only [br_fits, br_m, cond_true, st_eta]
    rw [v74 (s := many) (by simp [maxLen]; omega), v74 (s := x) (by simp [maxLen]; omega), v74 (s := y) (by simp [maxLen]; omega)]
    simp only [Option.bind_some, retPV_pv, fits_tup, fitsL_cons, fitsL_nil, fits_i64, fits_bool, Bool.not_false, Bool.true_or, Bool.and_self, cond_true, r_succ, r_zero, toInt_int, toBool_bool, hsm, sucL]
    cases hn : nxt c.1 many.2 with
    | none => simp
    | some n =>
      simp only [Option.isSome_some, Bool.not_true, cond_false]
      have ih := l32b (A := A) (B := B) (M := M) (x := x) (y := y) (many := many) (few := few) hx hy hm hf i2 i3 i l (k + 1) (st ++ [((nxt c.1 x.2).getD 0, (nxt c.1 y.2).getD 0)]) A'.drop (by simp at hs ⊢; omega)
      rw [p_eta2, show st.map eP ++ [eP ((nxt c.1 x.2).getD 0, (nxt c.1 y.2).getD 0)] = (st ++ [((nxt c.1 x.2).getD 0, (nxt c.1 y.2).getD 0)]).map eP by simp, ih]
      cases sucL x.2 y.2 many.2 l with
      | none => rfl
      | some r => simp

def grid (m n : Nat) : List Pt := (List.range m).flatMap fun (i : Nat) => (List.range n).map fun (k : Nat) => ((i : Int), (k : Int))
theorem grid_mem {m n : Nat} {p : Pt} : p ∈ grid m n ↔ 0 ≤ p.1 ∧ p.1 < m ∧ 0 ≤ p.2 ∧ p.2 < n := by
  simp only [grid, List.mem_flatMap, List.mem_range, List.mem_map]
  constructor
  · rintro ⟨i, hi, k, hk, rfl⟩; simp; omega
  · rintro ⟨h1, h2, h3, h4⟩
    exact ⟨p.1.toNat, by omega, p.2.toNat, by omega, by ext <;> simp <;> omega⟩
theorem countP_lt {α : Type} {P Q : α → Bool} (h : ∀ q, Q q = true → P q = true) : ∀ {l : List α} {p : α}, p ∈ l → P p = true → Q p = false → l.countP Q < l.countP P
  | a :: l, p, hm, h1, h2 => by
    have mono : ∀ l : List α, l.countP Q ≤ l.countP P := fun l => List.countP_mono_left fun x _ hx => h x hx
    rw [List.countP_cons, List.countP_cons]
    rcases List.mem_cons.1 hm with rfl | hm
    · rw [h1, h2]; have := mono l; simp; omega
    · have := countP_lt h hm h1 h2
      cases hq : Q a with
      | true => rw [h a hq]; omega
      | false => cases P a <;> simp <;> omega
def left (m n : Nat) (seen : List Pt) : Nat := (grid m n).countP fun q => !decide (q ∈ seen)
theorem left_lt {m n : Nat} {seen : List Pt} {p : Pt} (hp : p ∈ grid m n) (hn : p ∉ seen) : left m n (seen ++ [p]) < left m n seen := by
  refine countP_lt (fun q hq => ?_) hp (by simp [hn]) (by simp)
  simp at hq ⊢
  exact hq.1
theorem sum_const (n : Nat) : ∀ l : List Nat, (l.map fun _ => n).sum = l.length * n
  | [] => by simp
  | a :: l => by simp [sum_const n l, Nat.succ_mul]; omega
theorem left_le {m n : Nat} {seen : List Pt} : left m n seen ≤ m * n := by
  refine Nat.le_trans List.countP_le_length ?_
  simp [grid, List.length_flatMap, sum_const]

def Sim (a b : List Sta) (R : Pt → Prop) : Prop := ∀ p, R p → ∃ l, step a b p = some l ∧ ∀ q, q ∈ l → R q

theorem nxt_mem' {m : Int} : ∀ {l : List Br} {n : Int}, nxt m l = some n → ∃ b, b ∈ l ∧ b.2 = n := fun h => nxt_mem h
theorem getD_in {ls : List Sta} (hw : WF ls) {s : Sta} (hs : s ∈ ls) (m : Int) : 0 ≤ (nxt m s.2).getD 0 ∧ (nxt m s.2).getD 0 < ls.length := by
  cases hn : nxt m s.2 with
  | none => exact ⟨Int.le_refl _, by have := hw.pos; simp; omega⟩
  | some n =>
    obtain ⟨b, hb, rfl⟩ := nxt_mem hn
    obtain ⟨_, _, f3, f4⟩ := (hw.st s hs).2.2.2.2 b hb
    exact ⟨f3, f4⟩

theorem step_in {a b : List Sta} (ha : WF a) (hb : WF b) {p : Pt} {l : List Pt} (h : step a b p = some l) : ∀ q, q ∈ l → q ∈ grid a.length b.length := by
  unfold step at h
  split at h
  · rename_i x y hx hy
    have hxa := List.mem_of_getElem? hx
    have hyb := List.mem_of_getElem? hy
    have key : ∀ many few, sucL x.2 y.2 many few = some l → ∀ q, q ∈ l → q ∈ grid a.length b.length := fun many few h q hq => by
      obtain ⟨c, _, _, rfl⟩ := sucL_mem h q hq
      have h1 := getD_in ha hxa c.1
      have h2 := getD_in hb hyb c.1
      exact grid_mem.2 ⟨h1.1, h1.2, h2.1, h2.2⟩
    unfold stepXY at h
    split at h
    · cases h
    split at h
    · exact key _ _ h
    · exact key _ _ h
  · cases h
theorem step_len {a b : List Sta} (ha : WF a) (hb : WF b) {p : Pt} {l : List Pt} (h : step a b p = some l) : l.length ≤ 6 := by
  unfold step at h
  split at h
  · rename_i x y hx hy
    have h1 := (ha.st x (List.mem_of_getElem? hx)).2.2.1
    have h2 := (hb.st y (List.mem_of_getElem? hy)).2.2.1
    unfold stepXY at h
    split at h
    · cases h
    split at h
    · rw [sucL_len h]; exact h2
    · rw [sucL_len h]; exact h1
  · cases h

theorem nil_or_last {α : Type} : ∀ l : List α, l = [] ∨ ∃ st p, l = st ++ [p]
  | [] => .inl rfl
  | a :: l => by
    rcases nil_or_last l with rfl | ⟨st, p, rfl⟩
    · exact .inr ⟨[], a, rfl⟩
    · exact .inr ⟨a :: st, p, rfl⟩

theorem l32 {a b : List Sta} (ha : WF a) (hb : WF b) : ∀ (n : Nat) (seen stack : List Pt), 8 * left a.length b.length seen + stack.length ≤ n → n ≤ 10000 → (∀ p, p ∈ stack → p ∈ grid a.length b.length) →
    (∀ p, p ∈ seen → ∃ l, step a b p = some l ∧ ∀ q, q ∈ l → q ∈ seen ∨ q ∈ stack) →
    ∃ r, L32_111104 (a.map eSt) (b.map eSt) (eM seen) (stack.map eP) = some (.pv (.tup [.bool r, .int .i64 0]), []) ∧
      (r = true → ∃ R : Pt → Prop, Sim a b R ∧ ∀ p, p ∈ stack → R p) ∧ (r = false → ∀ R : Pt → Prop, Sim a b R → ¬ ∀ p, p ∈ stack → R p) := by
  intro n
  induction n using Nat.strongRecOn with
  | _ n ih =>
    intro seen stack hn hle hin hinv
    rcases nil_or_last stack with rfl | ⟨st, p, rfl⟩
    · rw [e32_111104]
      refine ⟨true, rfl, fun _ => ⟨fun p => p ∈ seen, fun p hp => ?_, fun p hp => by cases hp⟩, fun h => by cases h⟩
      obtain ⟨l, h1, h2⟩ := hinv p hp
      exact ⟨l, h1, fun q hq => (h2 q hq).resolve_right (by simp)⟩
    · have hlen : ((st ++ [p]).map eP).length = st.length + 1 := by simp
      simp only [List.length_append, List.length_cons, List.length_nil] at hn
      have hw : IntKind.i64.wrap (((st.length + 1 : Nat) : Int) - 1) = (st.length : Int) := by
        rw [wrap_i64 (by omega) (by omega)]; omega
      have hg : ((st ++ [p]).map eP)[(st.length : Int).toNat]? = some (eP p) := by simp
      have ht : ((st ++ [p]).map eP).take (st.length : Int).toNat = st.map eP := by simp
      have hpg := hin p (by simp)
      obtain ⟨g1, g2, g3, g4⟩ := grid_mem.1 hpg
      obtain ⟨x, hx, hxa⟩ := get_int (xs := a) g1 g2
      obtain ⟨y, hy, hyb⟩ := get_int (xs := b) g3 g4
      obtain ⟨_, _, hx6, _⟩ := ha.st x hxa
      obtain ⟨_, _, hy6, _⟩ := hb.st y hyb
      have hx' : (a.map eSt)[p.1.toNat]? = some (eSt x) := by simp [hx]
      have hy' : (b.map eSt)[p.2.toNat]? = some (eSt y) := by simp [hy]
      have hstep : step a b p = stepXY x y := by simp only [step, hx, hy]
      rw [e32_111104]
      simp only [hlen, hw, hg, ht]
      have d1 : decide (((st.length + 1 : Nat) : Int) > 0) = true := dT (by omega)
      have d2 : decide (0 ≤ (st.length : Int)) = true := dT (by omega)
      have d3 : decide ((st.length : Int) < ((st.length + 1 : Nat) : Int)) = true := dT (by omega)
      have d4 : decide ((st.length : Int) ≤ ((st.length + 1 : Nat) : Int)) = true := dT (by omega)
      simp only [d1, d2, d3, d4, Bool.and_self, cond_true, Option.bind_some, p_fits, p_0, p_1, p_eta, mget_eM]
      by_cases hs : p ∈ seen
      · simp only [if_pos hs, Option.getD_some, fits_bool, cond_true, toBool_bool]
        obtain ⟨r, e1, e2, e3⟩ := ih (n - 1) (by omega) seen st (by omega) (by omega) (fun q hq => hin q (by simp [hq])) (fun q hq => by
          obtain ⟨l, h1, h2⟩ := hinv q hq
          refine ⟨l, h1, fun q' hq' => ?_⟩
          rcases h2 q' hq' with h | h
          · exact .inl h
          · rcases List.mem_append.1 h with h | h
            · exact .inr h
            · simp at h; subst h; exact .inl hs)
        obtain ⟨l0, h1, h2⟩ := hinv p hs
        refine ⟨r, e1, fun hr => ?_, fun hr R hR hall => e3 hr R hR fun q hq => hall q (by simp [hq])⟩
        obtain ⟨R, hR, hall⟩ := e2 hr
        -- what is seen, too
        refine ⟨fun q => R q ∨ q ∈ seen, fun q hq => ?_, fun q hq => ?_⟩
        · rcases hq with hq | hq
          · obtain ⟨l, k1, k2⟩ := hR q hq
            exact ⟨l, k1, fun q' hq' => .inl (k2 q' hq')⟩
          · obtain ⟨l, k1, k2⟩ := hinv q hq
            refine ⟨l, k1, fun q' hq' => ?_⟩
            rcases k2 q' hq' with h | h
            · exact .inr h
            · rcases List.mem_append.1 h with h | h
              · exact .inl (hall q' h)
              · simp at h; subst h; exact .inr hs
        · rcases List.mem_append.1 hq with h | h
          · exact .inl (hall q h)
          · simp at h; subst h; exact .inr hs
      · simp only [if_neg hs, Option.getD_none, fits_bool, cond_true, toBool_bool, cond_false, mset_eM hs, Option.bind_some, dT g1, dT g3, hx', hy', st_fits, st_k, st_b]
        have bad : step a b p = none → ∃ r, some (Arg.pv (.tup [.bool false, .int .i64 0]), ([] : List Ref)) = some (.pv (.tup [.bool r, .int .i64 0]), []) ∧
            (r = true → ∃ R : Pt → Prop, Sim a b R ∧ ∀ q, q ∈ st ++ [p] → R q) ∧ (r = false → ∀ R : Pt → Prop, Sim a b R → ¬ ∀ q, q ∈ st ++ [p] → R q) := fun hb => by
          refine ⟨false, rfl, fun h => (by cases h), fun _ R hR hall => ?_⟩
          obtain ⟨l, k1, _⟩ := hR p (hall p (by simp))
          rw [hb] at k1; cases k1
        have good : ∀ l, step a b p = some l → ∃ r, L32_111104 (a.map eSt) (b.map eSt) (eM (seen ++ [p])) ((st ++ l).map eP) = some (.pv (.tup [.bool r, .int .i64 0]), []) ∧
            (r = true → ∃ R : Pt → Prop, Sim a b R ∧ ∀ q, q ∈ st ++ [p] → R q) ∧ (r = false → ∀ R : Pt → Prop, Sim a b R → ¬ ∀ q, q ∈ st ++ [p] → R q) := fun l hl => by
          have h6 := step_len ha hb hl
          have hlt := left_lt hpg hs
          have hinv' : ∀ q, q ∈ seen ++ [p] → ∃ l', step a b q = some l' ∧ ∀ q', q' ∈ l' → q' ∈ seen ++ [p] ∨ q' ∈ st ++ l := fun q hq => by
            rcases List.mem_append.1 hq with hq | hq
            · obtain ⟨l', k1, k2⟩ := hinv q hq
              refine ⟨l', k1, fun q' hq' => ?_⟩
              rcases k2 q' hq' with h | h
              · exact .inl (by simp [h])
              · rcases List.mem_append.1 h with h | h
                · exact .inr (by simp [h])
                · exact .inl (by simp at h; simp [h])
            · simp at hq; subst hq
              exact ⟨l, hl, fun q' hq' => .inr (by simp [hq'])⟩
          obtain ⟨r, e1, e2, e3⟩ := ih (8 * left a.length b.length (seen ++ [p]) + (st ++ l).length) (by simp; omega) (seen ++ [p]) (st ++ l) (Nat.le_refl _) (by simp; omega) (fun q hq => by
            rcases List.mem_append.1 hq with hq | hq
            · exact hin q (by simp [hq])
            · exact step_in ha hb hl q hq) hinv'
          refine ⟨r, e1, fun hr => ?_, fun hr R hR hall => e3 hr R hR fun q hq => ?_⟩
          · obtain ⟨R, hR, hall⟩ := e2 hr
            refine ⟨fun q => R q ∨ q = p, fun q hq => ?_, fun q hq => ?_⟩
            · rcases hq with hq | rfl
              · obtain ⟨l', k1, k2⟩ := hR q hq
                exact ⟨l', k1, fun q' hq' => .inl (k2 q' hq')⟩
              · exact ⟨l, hl, fun q' hq' => .inl (hall q' (by simp [hq']))⟩
            · rcases List.mem_append.1 hq with h | h
              · exact .inl (hall q (by simp [h]))
              · simp at h; exact .inr h
          · rcases List.mem_append.1 hq with h | h
            · exact hall q (by simp [h])
            · obtain ⟨l', k1, k2⟩ := hR p (hall p (by simp))
              rw [hl] at k1
              obtain rfl := Option.some.inj k1
              exact k2 q h
        cases hk : (x.1 != y.1) with
        | true =>
          simp only [cond_true]
          exact bad (by rw [hstep, stepXY, if_pos (by simpa using hk)])
        | false =>
          have hk' : x.1 = y.1 := by simpa using hk
          simp only [cond_false]
          by_cases h2 : x.1 = 2
          · rw [show (x.1 == 2) = true from by simpa using h2]
            simp only [cond_true]
            rw [e32_111104514111111116]
            have hst : step a b p = sucL x.2 y.2 x.2 y.2 := by rw [hstep, stepXY, if_neg (by simpa using hk'), if_pos h2]
            have := l32b (A := a.map eSt) (B := b.map eSt) (M := eM (seen ++ [p])) (x := x) (y := y) (many := x) (few := y) hx6 hy6 hx6 hy6 p.1 p.2 y.1 y.2 0 st rfl (by omega)
            rw [show ((0 : Nat) : Int) = 0 from rfl] at this
            rw [this, ← hst]
            cases hc : step a b p with
            | none => exact bad hc
            | some l => exact good l hc
          · rw [show (x.1 == 2) = false from by simpa using h2]
            simp only [cond_false]
            rw [e32_111104514111111116]
            have hst : step a b p = sucL x.2 y.2 y.2 x.2 := by rw [hstep, stepXY, if_neg (by simpa using hk'), if_neg h2]
            have := l32b (A := a.map eSt) (B := b.map eSt) (M := eM (seen ++ [p])) (x := x) (y := y) (many := y) (few := x) hx6 hy6 hy6 hx6 p.1 p.2 x.1 x.2 0 st rfl (by omega)
            rw [show ((0 : Nat) : Int) = 0 from rfl] at this
            rw [this, ← hst]
            cases hc : step a b p with
            | none => exact bad hc
            | some l => exact good l hc

def Subs (a b : List Sta) : Prop := ∃ R : Pt → Prop, Sim a b R ∧ R (0, 0)

theorem v73 {a b : List Sta} (ha : a.length ≤ maxLen) (hb : b.length ≤ maxLen) : V 73 [.pv (.lst (a.map eSt)), .pv (.lst (b.map eSt))] = some (.pv (.int .i64 (if chk a ≠ 0 then chk a else chk b)), []) := by
  rw [e73, v28 ha, v28 hb]
  simp only [Option.bind_some, retPV_pv, fits_i64, cond_true, toInt_int]
  by_cases h : chk a = 0
  · simp [h]
  · rw [show (chk a != 0) = true from by simpa using h]; simp [h]

theorem v32_ok {a b : List Sta} (ha : a.length ≤ maxLen) (hb : b.length ≤ maxLen) (h1 : chk a = 0) (h2 : chk b = 0) : ∃ r, V 32 [.pv (.lst (a.map eSt)), .pv (.lst (b.map eSt))] = some (.pv (.tup [.bool r, .int .i64 0]), []) ∧ (r = true ↔ Subs a b) := by
  have wa := chk_ok h1
  have wb := chk_ok h2
  have hl := left_le (m := a.length) (n := b.length) (seen := [])
  have hab : a.length * b.length ≤ 16 * 16 := Nat.mul_le_mul wa.n wb.n
  obtain ⟨r, e1, e2, e3⟩ := l32 wa wb (8 * left a.length b.length [] + 1) [] [(0, 0)] (by simp) (by omega) (fun p hp => by
    simp at hp; subst hp
    exact grid_mem.2 ⟨Int.le_refl _, by have := wa.pos; simp; omega, Int.le_refl _, by have := wb.pos; simp; omega⟩) (fun p hp => by cases hp)
  refine ⟨r, ?_, fun hr => ?_, fun hS => ?_⟩
  · rw [e32, v73 ha hb, h1, h2]
    exact e1
  · obtain ⟨R, g1, g2⟩ := e2 hr
    exact ⟨R, g1, g2 _ (by simp)⟩
  · cases r with
    | true => rfl
    | false =>
      obtain ⟨R, g1, g2⟩ := hS
      exact absurd (fun p hp => by simp at hp; subst hp; exact g2) (e3 rfl R g1)
theorem v32_no {a b : List Sta} (ha : a.length ≤ maxLen) (hb : b.length ≤ maxLen) (h : ¬ (chk a = 0 ∧ chk b = 0)) : ∃ e : Int, e ≠ 0 ∧ V 32 [.pv (.lst (a.map eSt)), .pv (.lst (b.map eSt))] = some (.pv (.tup [.bool false, .int .i64 e]), []) := by
  refine ⟨if chk a ≠ 0 then chk a else chk b, ?_, ?_⟩
  · by_cases h1 : chk a = 0
    · simp [h1]; exact fun h2 => h ⟨h1, h2⟩
    · simp [h1]
  · rw [e32, v73 ha hb]
    simp only [Option.bind_some, retPV_pv, fits_i64, cond_true, toInt_int]
    have : (if chk a ≠ 0 then chk a else chk b) ≠ 0 := by
      by_cases h1 : chk a = 0
      · simp [h1]; exact fun h2 => h ⟨h1, h2⟩
      · simp [h1]
    rw [show ((if chk a ≠ 0 then chk a else chk b) != 0) = true from by simpa using this]
    rfl

/-! #### The plain law: reflexive, transitive, turned round by duality -/
theorem nxt_self : ∀ {l : List Br} {c : Br}, c ∈ l → ∃ n, nxt c.1 l = some n
  | b :: l, c, h => by
    simp only [nxt]
    by_cases hb : b.1 = c.1
    · exact ⟨b.2, by simp [hb]⟩
    · rw [if_neg hb]
      rcases List.mem_cons.1 h with rfl | h
      · exact absurd rfl hb
      · exact nxt_self h
theorem nxt_in : ∀ {l : List Br} {m n : Int}, nxt m l = some n → ∃ c, c ∈ l ∧ c.1 = m
  | b :: l, m, n, h => by
    simp only [nxt] at h
    split at h
    · rename_i hb; exact ⟨b, by simp, hb⟩
    · obtain ⟨c, h1, h2⟩ := nxt_in h
      exact ⟨c, by simp [h1], h2⟩

theorem subs_refl {a : List Sta} (ha : WF a) : Subs a a := by
  refine ⟨fun p => p.1 = p.2 ∧ 0 ≤ p.1 ∧ p.1 < a.length, fun p hp => ?_, rfl, Int.le_refl _, by have := ha.pos; simp; omega⟩
  obtain ⟨h1, h2, h3⟩ := hp
  obtain ⟨x, hx, hxa⟩ := get_int (xs := a) h2 h3
  have hs : step a a p = stepXY x x := by simp only [step, ← h1, hx]
  have hc : stepXY x x = sucL x.2 x.2 x.2 x.2 := by unfold stepXY; simp
  obtain ⟨r, e1, _⟩ := sucL_all (x := x.2) (y := x.2) (many := x.2) (l := x.2) fun c hc => nxt_self hc
  refine ⟨r, by rw [hs, hc, e1], fun q hq => ?_⟩
  obtain ⟨c, _, _, rfl⟩ := sucL_mem e1 q hq
  have := getD_in ha hxa c.1
  exact ⟨rfl, this.1, this.2⟩

theorem step_of {a b : List Sta} {p : Pt} {l : List Pt} (h : step a b p = some l) : ∃ x y, a[p.1.toNat]? = some x ∧ b[p.2.toNat]? = some y ∧ x.1 = y.1 ∧ stepXY x y = some l := by
  unfold step at h
  split at h
  · rename_i x y hx hy
    refine ⟨x, y, hx, hy, ?_, h⟩
    unfold stepXY at h
    split at h
    · cases h
    · rename_i hk; exact Decidable.not_not.1 hk
  · cases h

theorem subs_trans {a b c : List Sta} (h1 : Subs a b) (h2 : Subs b c) : Subs a c := by
  obtain ⟨R, hR, r0⟩ := h1
  obtain ⟨S, hS, s0⟩ := h2
  refine ⟨fun p => ∃ j, R (p.1, j) ∧ S (j, p.2), fun p hp => ?_, 0, r0, s0⟩
  obtain ⟨j, p1, p2⟩ := hp
  obtain ⟨l1, q1, t1⟩ := hR _ p1
  obtain ⟨l2, q2, t2⟩ := hS _ p2
  obtain ⟨x, y, x1, x2, x3, x4⟩ := step_of q1
  obtain ⟨y', z, y1, y2, y3, y4⟩ := step_of q2
  simp only at x1 x2 y1 y2
  rw [x2] at y1
  obtain rfl := Option.some.inj y1
  have hst : step a c p = stepXY x z := by simp only [step, x1, y2]
  have hk : x.1 = z.1 := x3.trans y3
  unfold stepXY at x4 y4 hst
  rw [if_neg (by simpa using x3)] at x4
  rw [if_neg (by simpa using y3)] at y4
  rw [if_neg (by simpa using hk)] at hst
  by_cases h2 : x.1 = 2
  · rw [if_pos h2] at x4 hst
    rw [if_pos (x3 ▸ h2)] at y4
    -- few: the right one
    obtain ⟨r, e1, _⟩ := sucL_all (x := x.2) (y := z.2) (many := x.2) (l := z.2) fun d hd => by
      obtain ⟨⟨n, hn⟩, _⟩ := sucL_need y4 d hd
      obtain ⟨d', g1, g2⟩ := nxt_in hn
      obtain ⟨g3, _⟩ := sucL_need x4 d' g1
      rw [g2] at g3; exact g3
    refine ⟨r, by rw [hst]; exact e1, fun q hq => ?_⟩
    obtain ⟨d, hd, _, rfl⟩ := sucL_mem e1 q hq
    obtain ⟨⟨n, hn⟩, m2⟩ := sucL_need y4 d hd
    obtain ⟨d', g1, g2⟩ := nxt_in hn
    obtain ⟨_, m1⟩ := sucL_need x4 d' g1
    rw [g2] at m1
    exact ⟨_, t1 _ m1, t2 _ m2⟩
  · rw [if_neg h2] at x4 hst
    rw [if_neg (fun e => h2 (x3.trans e))] at y4
    obtain ⟨r, e1, _⟩ := sucL_all (x := x.2) (y := z.2) (many := z.2) (l := x.2) fun d hd => by
      obtain ⟨⟨n, hn⟩, _⟩ := sucL_need x4 d hd
      obtain ⟨d', g1, g2⟩ := nxt_in hn
      obtain ⟨g3, _⟩ := sucL_need y4 d' g1
      rw [g2] at g3; exact g3
    refine ⟨r, by rw [hst]; exact e1, fun q hq => ?_⟩
    obtain ⟨d, hd, _, rfl⟩ := sucL_mem e1 q hq
    obtain ⟨⟨n, hn⟩, m1⟩ := sucL_need x4 d hd
    obtain ⟨d', g1, g2⟩ := nxt_in hn
    obtain ⟨_, m2⟩ := sucL_need y4 d' g1
    rw [g2] at m2
    exact ⟨_, t1 _ m1, t2 _ m2⟩

def sw (p : Pt) : Pt := (p.2, p.1)
theorem sucL_sw {x y many : List Br} : ∀ l : List Br, sucL y x many l = (sucL x y many l).map (List.map sw)
  | [] => rfl
  | c :: l => by
    simp only [sucL]
    rw [sucL_sw l]
    cases nxt c.1 many with
    | none => rfl
    | some n => cases sucL x y many l <;> rfl
theorem tk_inj {m n : Int} : tk m = tk n ↔ m = n := by
  unfold tk
  by_cases h1 : m = 1 <;> by_cases h2 : m = 2 <;> by_cases h3 : n = 1 <;> by_cases h4 : n = 2 <;> simp_all <;> omega
theorem stepXY_dual {x y : Sta} (hx : 1 ≤ x.1 ∧ x.1 ≤ 3 ∧ (x.1 = 3 ↔ x.2 = [])) (hy : y.1 = 3 ↔ y.2 = []) : stepXY (tk y.1, y.2) (tk x.1, x.2) = (stepXY x y).map (List.map sw) := by
  by_cases hk : x.1 = y.1
  · have A1 : stepXY (tk y.1, y.2) (tk x.1, x.2) = if tk y.1 = 2 then sucL y.2 x.2 y.2 x.2 else sucL y.2 x.2 x.2 y.2 := if_neg (by simp [tk_inj, hk])
    have A2 : stepXY x y = if x.1 = 2 then sucL x.2 y.2 x.2 y.2 else sucL x.2 y.2 y.2 x.2 := if_neg (by simpa using hk)
    rw [A1, A2]
    by_cases h2 : x.1 = 2
    · have e1 : tk y.1 = 1 := by rw [← hk, h2]; rfl
      rw [if_pos h2, e1, if_neg (by decide)]
      exact sucL_sw _
    · rw [if_neg h2]
      by_cases h1 : x.1 = 1
      · have e1 : tk y.1 = 2 := by rw [← hk, h1]; rfl
        rw [if_pos e1]
        exact sucL_sw _
      · have h3 : x.1 = 3 := by omega
        have e1 : tk y.1 = 3 := by rw [← hk, h3]; rfl
        rw [e1, if_neg (by decide), hx.2.2.1 h3, hy.1 (hk ▸ h3)]
        rfl
  · have A1 : stepXY (tk y.1, y.2) (tk x.1, x.2) = none := if_pos (by simp [tk_inj]; exact fun e => hk e.symm)
    have A2 : stepXY x y = none := if_pos hk
    rw [A1, A2]
    rfl
theorem step_dual {a b : List Sta} (ha : WF a) (hb : WF b) (p : Pt) : step (dual b) (dual a) (sw p) = (step a b p).map (List.map sw) := by
  unfold step
  have e1 : (dual b)[(sw p).1.toNat]? = (b[p.2.toNat]?).map fun s => (tk s.1, s.2) := by simp [dual, sw]
  have e2 : (dual a)[(sw p).2.toNat]? = (a[p.1.toNat]?).map fun s => (tk s.1, s.2) := by simp [dual, sw]
  rw [e1, e2]
  cases hx : a[p.1.toNat]? with
  | none => cases b[p.2.toNat]? <;> rfl
  | some x =>
    cases hy : b[p.2.toNat]? with
    | none => rfl
    | some y =>
      obtain ⟨x1, x2, _, x4, _⟩ := ha.st x (List.mem_of_getElem? hx)
      obtain ⟨_, _, _, y4, _⟩ := hb.st y (List.mem_of_getElem? hy)
      exact stepXY_dual ⟨x1, x2, x4⟩ y4
theorem sw_sw (p : Pt) : sw (sw p) = p := rfl
theorem subs_dual1 {a b : List Sta} (ha : WF a) (hb : WF b) (h : Subs a b) : Subs (dual b) (dual a) := by
  obtain ⟨R, hR, r0⟩ := h
  refine ⟨fun p => R (sw p), fun p hp => ?_, r0⟩
  obtain ⟨l, h1, h2⟩ := hR _ hp
  have := step_dual ha hb (sw p)
  rw [sw_sw, h1] at this
  refine ⟨_, this, fun q hq => ?_⟩
  obtain ⟨q', h3, rfl⟩ := List.mem_map.1 hq
  exact h2 q' h3
theorem tk_tk (k : Int) : tk (tk k) = k := by
  unfold tk
  by_cases h1 : k = 1
  · simp [h1]
  · by_cases h2 : k = 2
    · simp [h2]
    · simp [h1, h2]
theorem dual_dual (l : List Sta) : dual (dual l) = l := by
  simp [dual, List.map_map, Function.comp_def, tk_tk]
theorem subs_dual {a b : List Sta} (ha : chk a = 0) (hb : chk b = 0) : Subs a b ↔ Subs (dual b) (dual a) := by
  refine ⟨subs_dual1 (chk_ok ha) (chk_ok hb), fun h => ?_⟩
  have := subs_dual1 (chk_ok (by rw [chk_dual]; exact hb)) (chk_ok (by rw [chk_dual]; exact ha)) h
  rwa [dual_dual, dual_dual] at this

theorem v11 {a : List Sta} (ha : a.length ≤ maxLen) (h : chk a = 0) : V 11 [.pv (.lst (a.map eSt)), .pv (.lst (a.map eSt))] = some (.pv (.tup [.bool true, .int .i64 0]), []) := by
  obtain ⟨r, h1, h2⟩ := v32_ok ha ha h h
  have : r = true := h2.2 (subs_refl (chk_ok h))
  subst this
  rw [e11, h1]
  rfl
theorem v11_tot {a : List Sta} (ha : a.length ≤ maxLen) : ∃ r e, V 11 [.pv (.lst (a.map eSt)), .pv (.lst (a.map eSt))] = some (.pv (.tup [.bool r, .int .i64 e]), []) := by
  by_cases h : chk a = 0
  · exact ⟨_, _, v11 ha h⟩
  · obtain ⟨e, he, h1⟩ := v32_no ha ha (fun q => h q.1)
    refine ⟨false, e, ?_⟩
    rw [e11, h1]
    simp only [Option.bind_some, retPV_pv, fits_tup, fitsL_cons, fitsL_nil, fits_i64, fits_bool, Bool.not_false, Bool.true_or, Bool.and_self, cond_true, r_succ, r_zero, toInt_int]
    rw [show (e != 0) = true from by simpa using he]
    rfl
theorem v32_tot {a b : List Sta} (ha : a.length ≤ maxLen) (hb : b.length ≤ maxLen) : ∃ r e, V 32 [.pv (.lst (a.map eSt)), .pv (.lst (b.map eSt))] = some (.pv (.tup [.bool r, .int .i64 e]), []) ∧ (e ≠ 0 → r = false) ∧ (chk a = 0 → chk b = 0 → e = 0 ∧ (r = true ↔ Subs a b)) ∧ (e = 0 → chk a = 0 ∧ chk b = 0) := by
  by_cases h : chk a = 0 ∧ chk b = 0
  · obtain ⟨r, h1, h2⟩ := v32_ok ha hb h.1 h.2
    exact ⟨r, 0, h1, fun e => absurd rfl e, fun _ _ => ⟨rfl, h2⟩, fun _ => h⟩
  · obtain ⟨e, he, h1⟩ := v32_no ha hb h
    exact ⟨false, e, h1, fun _ => rfl, fun q1 q2 => absurd ⟨q1, q2⟩ h, fun e0 => absurd e0 he⟩

end Go.AL.S2.Se
