/- Uses of a name; the law. -/
import Derived.Test.YtlmodlihiglnhaaDoorS9Free3
set_option linter.unusedVariables false
set_option linter.unusedSimpArgs false
set_option maxRecDepth 20000
namespace Go.AL.S9.Fr
open Go Go.AL Go.AL.S9

/-- So often, at least never; never just where it isn't free. -/
def okU (nm : Str) (e : Ex) : Prop := ∃ n : Int, V 24 [.pv (.str nm), .pv e.enc] = some (.pv (.int .i64 n), []) ∧ 0 ≤ n ∧ n ≤ 2 * (bk e.enc : Int) ∧ (n = 0 ↔ ¬ Fv e nm)
theorem maxI (a b : Int) : (bif decide (a > b) then a else b) = max a b := by
  by_cases h : a > b
  · rw [decide_eq_true h]; simp only [cond_true]; omega
  · rw [decide_eq_false h]; simp only [cond_false]; omega
theorem l24a {nm : Str} {arms : List (Pa × Ex)} (hl : arms.length ≤ BIG) (hb : ∀ x, x ∈ arms → bk x.1.enc ≤ BIG) (hs : ∀ x, x ∈ arms → okU nm x.2) (k0 n0 : Int) (tx : Str) (ns tys args : List PV) (at_ : Int) : ∀ (l : List (Pa × Ex)) (k : Nat) (i : Int), arms.drop k = l → k ≤ arms.length → 0 ≤ i →
    ∃ j : Int, L24_11014 nm i (arms.map eArm) k k0 n0 tx ns tys args at_ = L24_11014 nm j (arms.map eArm) (arms.length : Nat) k0 n0 tx ns tys args at_ ∧ i ≤ j ∧ j ≤ i + 2 * (sumA l : Int) ∧ (j = 0 ↔ i = 0 ∧ ∀ p, p ∈ l.map armS → ¬ (Fv p.1 nm ∧ nm ∉ p.2))
  | [], k, i, h, hk, h0 => by
    have : k = arms.length := by have := congrArg List.length h; simp at this; omega
    subst this
    exact ⟨i, rfl, by omega, by simp [sumA], by simp⟩
  | x :: l, k, i, h, hk, h0 => by
    have A := atK_map (f := eArm) h (len_max hl)
    have A' := atK h (len_max hl)
    have p1 := v62 (hb x (mem_drop h))
    unfold NL at p1
    have p2 := bn_len x.1
    have hpb := hb x (mem_drop h)
    have p3 := v25 (xs := bn x.1) (s := nm) (len_max (by omega))
    have h1 := bk_arm x
    have h2 := bk_pos x.1
    rw [sumA_cons]
    have ev := e24_11014 nm i (arms.map eArm) k k0 n0 tx ns tys args at_
    simp only [A.lt, A.ge, A.get, A.next, cond_true, Option.bind_some] at ev
    simp only [arm_fits, arm_ex, arm_pa, cond_true, p1, Option.bind_some, fits_lstS, toLst_lst, p3, retPV_pv, fits_bool, toBool_bool] at ev
    by_cases hm : nm ∈ bn x.1
    · have : has (bn x.1) nm = true := decide_eq_true hm
      rw [this] at ev
      simp only [Bool.not_true, cond_false] at ev
      obtain ⟨j, g1, g2, g3, g4⟩ := l24a hl hb hs k0 n0 tx ns tys args at_ l (k + 1) i A'.drop A'.ltn h0
      refine ⟨j, ev.trans g1, g2, by omega, ?_⟩
      rw [g4]
      constructor
      · rintro ⟨h3, h4⟩
        refine ⟨h3, fun p hp => ?_⟩
        rcases List.mem_cons.1 hp with rfl | hp
        · exact fun h5 => h5.2 hm
        · exact h4 p hp
      · rintro ⟨h3, h4⟩
        exact ⟨h3, fun p hp => h4 p (List.mem_cons_of_mem _ hp)⟩
    · have : has (bn x.1) nm = false := decide_eq_false hm
      rw [this] at ev
      obtain ⟨n, u1, u2, u3, u4⟩ := hs x (mem_drop h)
      simp only [Bool.not_false, cond_true, u1, Option.bind_some, retPV_pv, fits_i64, toInt_int, maxI] at ev
      obtain ⟨j, g1, g2, g3, g4⟩ := l24a hl hb hs k0 n0 tx ns tys args at_ l (k + 1) (max n i) A'.drop A'.ltn (by omega)
      refine ⟨j, ev.trans g1, by omega, by omega, ?_⟩
      rw [g4]
      constructor
      · rintro ⟨h3, h4⟩
        have hn0 : n = 0 := by omega
        refine ⟨by omega, fun p hp => ?_⟩
        rcases List.mem_cons.1 hp with rfl | hp
        · exact fun h5 => (u4.1 hn0) h5.1
        · exact h4 p hp
      · rintro ⟨h3, h4⟩
        have hn0 : n = 0 := u4.2 fun h5 => h4 (armS x) (by simp) ⟨h5, hm⟩
        exact ⟨by omega, fun p hp => h4 p (List.mem_cons_of_mem _ hp)⟩
theorem l24b {nm : Str} {args : List Ex} (hl : args.length ≤ BIG) (hs : ∀ a, a ∈ args → okU nm a) : ∀ (l : List Ex) (k : Nat) (i : Int), args.drop k = l → 0 ≤ i → i + 2 * (sumE l : Int) ≤ 8 * (BIG : Int) →
    ∃ j : Int, L24_11111014 nm i (args.map Ex.enc) k = some (.pv (.int .i64 j), []) ∧ i ≤ j ∧ j ≤ i + 2 * (sumE l : Int) ∧ (j = 0 ↔ i = 0 ∧ ∀ a, a ∈ l → ¬ Fv a nm)
  | [], k, i, h, h0, hb => ⟨i, by rw [e24_11111014, endK_map h]; rfl, by omega, by simp [sumE], by simp⟩
  | x :: l, k, i, h, h0, hb => by
    have A := atK_map (f := Ex.enc) h (len_max hl)
    have A' := atK h (len_max hl)
    obtain ⟨n, u1, u2, u3, u4⟩ := hs x (mem_drop h)
    rw [sumE_cons] at hb ⊢
    have hw : IntKind.i64.wrap (i + n) = i + n := by simp only [BIG] at hb; exact wrap_i64 (by omega) (by omega)
    have ev := e24_11111014 nm i (args.map Ex.enc) k
    simp only [A.lt, A.ge, A.get, A.next, cond_true, Option.bind_some] at ev
    simp only [ex_fits, ex_eta, cond_true, u1, Option.bind_some, retPV_pv, fits_i64, toInt_int, hw] at ev
    obtain ⟨j, g1, g2, g3, g4⟩ := l24b hl hs l (k + 1) (i + n) A'.drop (by omega) (by omega)
    refine ⟨j, ev.trans g1, by omega, by omega, ?_⟩
    rw [g4]
    constructor
    · rintro ⟨h3, h4⟩
      have hn0 : n = 0 := by omega
      refine ⟨by omega, fun a ha => ?_⟩
      rcases List.mem_cons.1 ha with rfl | ha
      · exact u4.1 hn0
      · exact h4 a ha
    · rintro ⟨h3, h4⟩
      have hn0 : n = 0 := u4.2 (h4 x (by simp))
      exact ⟨by omega, fun a ha => h4 a (List.mem_cons_of_mem _ ha)⟩
theorem scs_plain {e : Ex} (h6 : e.kind ≠ 6) (h10 : e.kind ≠ 10) {nm : Str} : ∀ (l : List Ex) (i : Nat), (∀ p, p ∈ scs e l i → ¬ (Fv p.1 nm ∧ nm ∉ p.2)) ↔ ∀ a, a ∈ l → ¬ Fv a nm
  | [], _ => by simp [scs]
  | a :: l, i => by
    have hs : sc e i = [] := by unfold sc; rw [if_neg h10, if_neg (by omega)]
    have ih := scs_plain h6 h10 (nm := nm) l (i + 1)
    constructor
    · intro h x hx
      rcases List.mem_cons.1 hx with rfl | hx
      · intro hf
        exact h (x, sc e i) (by simp [scs]) ⟨hf, by rw [hs]; simp⟩
      · exact ih.1 (fun p hp => h p (by rw [scs]; exact List.mem_cons_of_mem _ hp)) x hx
    · intro h p hp
      rw [scs] at hp
      rcases List.mem_cons.1 hp with rfl | hp
      · exact fun hf => h a (by simp) hf.1
      · exact ih.2 (fun x hx => h x (List.mem_cons_of_mem _ hx)) p hp
theorem not_fv {e : Ex} (h5 : e.kind ≠ 5) (nm : Str) : ¬ Fv e nm ↔ (∀ p, p ∈ scs e e.args 0 → ¬ (Fv p.1 nm ∧ nm ∉ p.2)) ∧ ∀ p, p ∈ e.arms.map armS → ¬ (Fv p.1 nm ∧ nm ∉ p.2) := by
  rw [fv_part h5]
  unfold cnt
  constructor
  · intro h
    exact ⟨fun p hp hf => h ⟨p, List.mem_append.2 (.inl hp), hf⟩, fun p hp hf => h ⟨p, List.mem_append.2 (.inr hp), hf⟩⟩
  · rintro ⟨h1, h2⟩ ⟨p, hp, hf⟩
    rcases List.mem_append.1 hp with hp | hp
    · exact h1 p hp hf
    · exact h2 p hp hf
theorem nd_at {e : Ex} {k : Int} (h : e.kind = k) (hr : Rt e) : ndF k e.num (e.args.length : Int) = (e.args.length : Int) := by rw [← h]; exact rt_nd hr
theorem v24 (nm : Str) {e : Ex} : Rt e → bk e.enc ≤ BIG → okU nm e := by
  induction e using Ex.ind with
  | h e i1 i2 =>
    intro hr hb
    have hx := bk_ex' e
    have hE := len_sumE e.args
    have hA := len_sumA e.arms
    have sub : ∀ a, a ∈ e.args → okU nm a := fun a ha => i1 a ha (rt_sub hr a ha) (by have := bk_args ha; omega)
    have exs : ∀ x, x ∈ e.arms → okU nm x.2 := fun x hx' => i2 x hx' (rt_exs hr x hx') (by have := bk_arms' hx'; have := bk_arm x; have := bk_pos x.1; omega)
    have pas : ∀ x, x ∈ e.arms → bk x.1.enc ≤ BIG := fun x hx' => by have := bk_arms' hx'; have := bk_arm x; have := bkE_pos x.2; omega
    have ev := e24 nm e.kind e.num e.text (e.names.map .str) e.types (e.args.map Ex.enc) (e.arms.map eArm) e.at_
    rw [← ex_enc] at ev
    obtain ⟨m, g1, g2, g3, g4⟩ := l24a (nm := nm) (arms := e.arms) (by omega) pas exs e.kind e.num e.text (e.names.map .str) e.types (e.args.map Ex.enc) e.at_ e.arms 0 0 rfl (by omega) (by omega)
    have g1' : L24_11014 nm 0 (e.arms.map eArm) 0 e.kind e.num e.text (e.names.map .str) e.types (e.args.map Ex.enc) e.at_ = _ := g1
    rw [g1'] at ev
    have hend := e24_11014 nm m (e.arms.map eArm) (e.arms.length : Nat) e.kind e.num e.text (e.names.map .str) e.types (e.args.map Ex.enc) e.at_
    rw [endK_map (k := e.arms.length) (by simp)] at hend
    simp only [cond_false] at hend
    rw [hend] at ev
    clear hend g1 g1'
    unfold okU
    rw [ev]
    clear ev
    have noArms : e.kind ≠ 13 → e.kind ≠ 18 → e.arms = [] := fun h1 h2 => by
      rcases rt_arms hr with h | h | h
      · exact h
      · exact absurd h h1
      · exact absurd h h2
    have m0 : e.arms = [] → m = 0 := fun h => by rw [g4, h]; simp
    cases h5 : e.kind == 5 with
    | true =>
      have k5 : e.kind = 5 := by simpa using h5
      simp only [cond_true]
      by_cases ht : e.text = nm
      · rw [show (e.text == nm) = true from beq_iff_eq.2 ht]
        refine ⟨1, rfl, by omega, by omega, ?_⟩
        rw [fv_var k5]
        constructor
        · intro h; omega
        · intro h; exact absurd ht.symm h
      · rw [show (e.text == nm) = false from beq_eq_false_iff_ne.2 ht]
        refine ⟨0, rfl, by omega, by omega, ?_⟩
        rw [fv_var k5]
        exact ⟨fun _ h => ht h.symm, fun _ => rfl⟩
    | false =>
      have k5 : e.kind ≠ 5 := by simpa using h5
      simp only [cond_false]
      cases h10 : e.kind == 10 with
      | true =>
        have k10 : e.kind = 10 := by simpa using h10
        obtain ⟨r, r1, r2, r3⟩ := v32 hr hb
        have r25 := v25 (xs := r) (s := nm) (len_max (by omega))
        rw [← ex_enc, r1]
        simp only [cond_true, Option.bind_some]
        rw [show retPV (Arg.bld 1 (r.map .str), []) = some (.lst (r.map .str)) from rfl]
        simp only [Option.bind_some, fits_lstS, cond_true, toLst_lst, r25, retPV_pv, fits_bool, toBool_bool]
        by_cases hm : nm ∈ r
        · have : has r nm = true := decide_eq_true hm
          rw [this]
          refine ⟨2, rfl, by omega, by omega, ?_⟩
          rw [← r3]
          constructor
          · intro h; omega
          · intro h; exact absurd hm h
        · have : has r nm = false := decide_eq_false hm
          rw [this]
          refine ⟨0, rfl, by omega, by omega, ?_⟩
          rw [← r3]
          exact ⟨fun _ => hm, fun _ => rfl⟩
      | false =>
        have k10 : e.kind ≠ 10 := by simpa using h10
        simp only [cond_false]
        cases h7 : e.kind == 7 with
        | true =>
          have k7 : e.kind = 7 := by simpa using h7
          have hlen : e.args.length = 3 := by
            have : (3 : Int) = (e.args.length : Int) := nd_at k7 hr
            omega
          obtain ⟨a, b, c, ha⟩ : ∃ a b c, e.args = [a, b, c] := by
            match h : e.args, hlen with
            | [a, b, c], _ => exact ⟨a, b, c, rfl⟩
          obtain ⟨na, a1, a2, a3, a4⟩ := sub a (by rw [ha]; simp)
          obtain ⟨nb, b1, b2, b3, b4⟩ := sub b (by rw [ha]; simp)
          obtain ⟨nc, c1, c2, c3, c4⟩ := sub c (by rw [ha]; simp)
          have hsum : sumE e.args = bk a.enc + (bk b.enc + (bk c.enc + 0)) := by rw [ha]; simp [sumE]
          have hw : IntKind.i64.wrap (na + max nc nb) = na + max nc nb := by
            have : (bk e.enc : Int) ≤ (BIG : Int) := by omega
            simp only [BIG] at this
            exact wrap_i64 (by omega) (by omega)
          have q0 : (e.args.map Ex.enc)[(0 : Int).toNat]? = some a.enc := by rw [ha]; rfl
          have q1 : (e.args.map Ex.enc)[(1 : Int).toNat]? = some b.enc := by rw [ha]; rfl
          have q2 : (e.args.map Ex.enc)[(2 : Int).toNat]? = some c.enc := by rw [ha]; rfl
          simp only [cond_true, q0, q1, q2, Option.bind_some, ex_fits, ex_eta, a1, b1, c1, retPV_pv, fits_i64, toInt_int, maxI, hw]
          refine ⟨_, rfl, by omega, by omega, ?_⟩
          rw [not_fv k5, scs_plain (by omega) k10, noArms (by omega) (by omega), ha]
          simp only [List.map_nil, List.not_mem_nil, List.mem_cons, or_false]
          constructor
          · intro h
            have e1 : na = 0 := by omega
            have e2 : nb = 0 := by omega
            have e3 : nc = 0 := by omega
            refine ⟨?_, fun p hp => hp.elim⟩
            rintro x (rfl | rfl | rfl)
            · exact a4.1 e1
            · exact b4.1 e2
            · exact c4.1 e3
          · rintro ⟨h, _⟩
            have e1 := a4.2 (h a (.inl rfl))
            have e2 := b4.2 (h b (.inr (.inl rfl)))
            have e3 := c4.2 (h c (.inr (.inr rfl)))
            omega
        | false =>
          have k7 : e.kind ≠ 7 := by simpa using h7
          simp only [cond_false]
          cases h18 : e.kind == 18 with
          | true =>
            have k18 : e.kind = 18 := by simpa using h18
            simp only [cond_true]
            have hn18 : (bif decide (e.num < 0) then (0 : Int) else 1) = (e.args.length : Int) := nd_at k18 hr
            have hlen : e.args.length ≤ 1 := by
              cases h : decide (e.num < 0) with
              | true => rw [h] at hn18; simp only [cond_true] at hn18; omega
              | false => rw [h] at hn18; simp only [cond_false] at hn18; omega
            match ha : e.args, hlen with
            | [], _ =>
              rw [show decide (((((([] : List Ex).map Ex.enc).length : Nat)) : Int) > 0) = false from rfl]
              refine ⟨m, rfl, g2, by omega, ?_⟩
              rw [not_fv k5, ha, g4]
              simp [scs]
            | [a], _ =>
              obtain ⟨na, a1, a2, a3, a4⟩ := sub a (by rw [ha]; simp)
              have hsum : sumE e.args = bk a.enc := by rw [ha]; simp [sumE]
              have q0 : ([a].map Ex.enc)[(0 : Int).toNat]? = some a.enc := rfl
              rw [show decide ((((([a] : List Ex).map Ex.enc).length : Nat) : Int) > 0) = true from rfl]
              simp only [cond_true, q0, Option.bind_some, ex_fits, ex_eta, a1, retPV_pv, fits_i64, toInt_int, maxI]
              refine ⟨_, rfl, by omega, by omega, ?_⟩
              rw [not_fv k5, scs_plain (by omega) k10, ha]
              constructor
              · intro h
                have e1 : na = 0 := by omega
                have e2 : m = 0 := by omega
                refine ⟨fun x hx => ?_, (g4.1 e2).2⟩
                obtain rfl := List.mem_singleton.1 hx
                exact a4.1 e1
              · rintro ⟨h1, h2⟩
                have e1 := a4.2 (h1 a (by simp))
                have e2 := g4.2 ⟨rfl, h2⟩
                omega
          | false =>
            have k18 : e.kind ≠ 18 := by simpa using h18
            simp only [cond_false]
            cases h6 : e.kind == 6 with
            | true =>
              have k6 : e.kind = 6 := by simpa using h6
              have hlen : e.args.length = 2 := by
                have : (2 : Int) = (e.args.length : Int) := nd_at k6 hr
                omega
              obtain ⟨a, b, ha⟩ : ∃ a b, e.args = [a, b] := by
                match h : e.args, hlen with
                | [a, b], _ => exact ⟨a, b, rfl⟩
              obtain ⟨na, a1, a2, a3, a4⟩ := sub a (by rw [ha]; simp)
              obtain ⟨nb, b1, b2, b3, b4⟩ := sub b (by rw [ha]; simp)
              have hsum : sumE e.args = bk a.enc + (bk b.enc + 0) := by rw [ha]; simp [sumE]
              have hw : IntKind.i64.wrap (na + nb) = na + nb := by
                have : (bk e.enc : Int) ≤ (BIG : Int) := by omega
                simp only [BIG] at this
                exact wrap_i64 (by omega) (by omega)
              have q0 : (e.args.map Ex.enc)[(0 : Int).toNat]? = some a.enc := by rw [ha]; rfl
              have q1 : (e.args.map Ex.enc)[(1 : Int).toNat]? = some b.enc := by rw [ha]; rfl
              have s0 : sc e 0 = [] := by unfold sc; rw [if_neg k10, if_neg (by omega)]
              have s1 : sc e 1 = [e.text] := by unfold sc; rw [if_neg k10, if_pos ⟨k6, rfl⟩]
              have hnf : ¬ Fv e nm ↔ ¬ Fv a nm ∧ ¬ (Fv b nm ∧ nm ∉ [e.text]) := by
                rw [not_fv k5, noArms (by omega) (by omega), ha]
                simp only [scs, s0, s1, List.map_nil, List.not_mem_nil, List.mem_cons, or_false]
                constructor
                · rintro ⟨h, _⟩
                  exact ⟨fun hf => h (a, []) (.inl rfl) ⟨hf, by simp⟩, by simpa using h (b, [e.text]) (.inr rfl)⟩
                · rintro ⟨h1, h2⟩
                  refine ⟨?_, fun p hp => hp.elim⟩
                  rintro p (rfl | rfl)
                  · exact fun hf => h1 hf.1
                  · simpa using h2
              simp only [cond_true, q0, q1, Option.bind_some, ex_fits, ex_eta, a1, b1, retPV_pv, fits_i64, toInt_int, hw]
              by_cases ht : e.text = nm
              · rw [show (e.text == nm) = true from beq_iff_eq.2 ht]
                refine ⟨na, rfl, by omega, by omega, ?_⟩
                rw [hnf, a4]
                constructor
                · intro h; exact ⟨h, fun hf => hf.2 (by simp [ht])⟩
                · intro h; exact h.1
              · rw [show (e.text == nm) = false from beq_eq_false_iff_ne.2 ht]
                refine ⟨na + nb, rfl, by omega, by omega, ?_⟩
                rw [hnf]
                have hne : nm ∉ [e.text] := by simp; exact fun h => ht h.symm
                constructor
                · intro h
                  exact ⟨a4.1 (by omega), fun hf => b4.1 (by omega) hf.1⟩
                · rintro ⟨h1, h2⟩
                  have e1 := a4.2 h1
                  have e2 := b4.2 fun hf => h2 ⟨hf, hne⟩
                  omega
            | false =>
              have k6 : e.kind ≠ 6 := by simpa using h6
              simp only [cond_false]
              obtain ⟨j, q1, q2, q3, q4⟩ := l24b (nm := nm) (args := e.args) (by omega) sub e.args 0 m rfl g2 (by omega)
              refine ⟨j, q1, by omega, by omega, ?_⟩
              rw [q4, not_fv k5, scs_plain k6 k10, g4]
              constructor
              · rintro ⟨⟨_, h1⟩, h2⟩; exact ⟨h2, h1⟩
              · rintro ⟨h2, h1⟩; exact ⟨⟨rfl, h1⟩, h2⟩
end Go.AL.S9.Fr
