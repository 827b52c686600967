/- Patterns and values by number; what fits; what is the same; lists of numbers. -/
import Derived.Test.YtjfibflkfdpllaaGreatDoorS11Use
set_option linter.unusedVariables false
set_option linter.unusedSimpArgs false
set_option maxRecDepth 100000
namespace Go.AL.S11
open Go Go.AL

theorem v6 : V 6 [.pv (.str shapes)] = some (.pv shapesP, []) := (V_A pa 6 _).le 10 _ (by kernel_rfl)
theorem v7 : V 7 [] = some (.pv (.bool true), []) := (V_A pa 7 _).le 40 _ (by kernel_rfl)
theorem v20 (k : Int) {n : Int} (h0 : 0 < n) (h1 : n ≤ 1000) : ∃ r, V 20 [.pv (.int .i64 k), .pv (.int .i64 n)] = some (.pv (.int .i64 r), []) ∧ 0 ≤ r ∧ r < n := by
  have a1 := Int.tmod_lt_of_pos k h0
  have a2 := Int.lt_tmod_of_pos k h0
  rw [e20, e30, dF (by omega)]
  simp only [cond_false]
  by_cases h : k.tmod n < 0
  · rw [dT h]
    refine ⟨k.tmod n + n, ?_, by omega, by omega⟩
    rw [wrap_i64 (by omega) (by omega)]
    rfl
  · rw [dF h]
    exact ⟨k.tmod n, rfl, by omega, by omega⟩
theorem next_ok {q : Pa} (h : q.ok .nat) : (Pa.mk 6 0 sNext [q]).ok .nat := by
  unfold Pa.ok
  exact .inr ⟨rfl, rfl, .inr ⟨rfl, h, rfl⟩⟩
theorem next_vok {q : Pa} (h : q.vok .nat) : (Pa.mk 5 0 sNext [q]).vok .nat := by
  unfold Pa.vok
  exact ⟨rfl, rfl, .inr ⟨rfl, h, rfl⟩⟩
theorem l21 (v : Int) (hv : v < 100) : ∀ (j : Nat) (i : Int) (q : Pa), q.num = 0 → 0 ≤ i → v - i ≤ j → q.ok .nat → ∃ r : Pa, L21_111014 v i q.kind q.text (q.args.map Pa.enc) = some (.pv r.enc, []) ∧ r.ok .nat ∧ r.cnt ≤ q.cnt + j
  | 0, i, q, hn, h0, hj, hq => by
    refine ⟨q, ?_, hq, by omega⟩
    rw [e21_111014, dF (by omega), pa_enc q, hn]
    rfl
  | j + 1, i, q, hn, h0, hj, hq => by
    rw [e21_111014]
    by_cases h : i < v
    · have hw : IntKind.i64.wrap (i + 1) = i + 1 := wrap_i64 (by omega) (by omega)
      obtain ⟨r, g1, g2, g3⟩ := l21 v hv j (i + 1) (.mk 6 0 sNext [q]) rfl (by omega) (by omega) (next_ok hq)
      refine ⟨r, ?_, g2, ?_⟩
      · rw [dT h, hw]
        have := g1
        simp only [kind_mk, text_mk, args_mk, List.map_cons, List.map_nil, pa_enc q, hn] at this
        exact this
      · have hc : (Pa.mk 6 0 sNext [q]).cnt = 1 + (q.cnt + 0) := rfl
        omega
    · refine ⟨q, ?_, hq, by omega⟩
      rw [dF h, pa_enc q, hn]
      rfl
theorem v21 (k : Int) : ∃ q : Pa, V 21 [.pv (.int .i64 k)] = some (.pv q.enc, []) ∧ q.ok .nat ∧ q.cnt ≤ 5 := by
  have key : ∀ q : Pa, q.num = 0 → q.args = [] → q.ok .nat → q.cnt ≤ 1 → ∃ r : Pa, L21_1116 k q.kind q.text = some (.pv r.enc, []) ∧ r.ok .nat ∧ r.cnt ≤ 5 := fun q h1 h2 h3 h4 => by
    obtain ⟨r, g1, g2, g3⟩ := v20 (IntKind.i64.wrap (k.tdiv 2)) (n := 3) (by omega) (by omega)
    rw [e21_1116]
    simp only [g1, Option.bind_some, retPV_pv, fits_i64, toInt_int, cond_true]
    obtain ⟨z, k1, k2, k3⟩ := l21 r (by omega) 3 0 q h1 (by omega) (by omega) h3
    rw [h2] at k1
    exact ⟨z, k1, k2, by omega⟩
  rw [e21]
  cases (k.tmod 2 == 0) with
  | true => exact key (.mk 6 0 sZero []) rfl rfl (by unfold Pa.ok; exact .inr ⟨rfl, rfl, .inl ⟨rfl, rfl⟩⟩) (Nat.le_refl 1)
  | false => exact key (.mk 1 0 [] []) rfl rfl (by unfold Pa.ok; exact .inl ⟨.inl rfl, rfl⟩) (Nat.zero_le _)
theorem v8 (k : Int) : ∃ q : Pa, V 8 [.pv (.int .i64 k)] = some (.pv q.enc, []) ∧ q.ok .pair ∧ q.cnt ≤ 10 := by
  have key : ∀ f : Pa, f.ok .bool → f.cnt ≤ 1 → f.args = [] → ∃ q : Pa, L8_1116 k f.kind f.num f.text = some (.pv q.enc, []) ∧ q.ok .pair ∧ q.cnt ≤ 10 := fun f h1 h2 h3 => by
    obtain ⟨r, g1, g2, g3⟩ := v20 k (n := 5) (by omega) (by omega)
    obtain ⟨r1, k1, k2, k3⟩ := v20 (IntKind.i64.wrap (k.tdiv 5)) (n := 4) (by omega) (by omega)
    obtain ⟨r2, m1, m2, m3⟩ := v20 (IntKind.i64.wrap (k.tdiv 5)) (n := 12) (by omega) (by omega)
    obtain ⟨q, n1, n2, n3⟩ := v21 r2
    rw [e8_1116]
    simp only [g1, Option.bind_some, retPV_pv, fits_i64, toInt_int, cond_true]
    cases (r == 0) with
    | true => exact ⟨.mk 2 0 [120] [], rfl, by unfold Pa.ok; exact .inl ⟨.inr rfl, rfl⟩, Nat.zero_le _⟩
    | false =>
      simp only [cond_false]
      cases (r == 1) with
      | true =>
        simp only [cond_true, k1, Option.bind_some, retPV_pv, fits_i64, toInt_int]
        refine ⟨.mk 6 0 sOne [numP r1], rfl, ?_, (show 1 + ((1 + 0) + 0) ≤ 10 by omega)⟩
        unfold Pa.ok; refine .inr ⟨rfl, rfl, .inr ⟨rfl, ?_, rfl⟩⟩
        unfold numP Pa.ok; exact .inr ⟨rfl, rfl, rfl⟩
      | false =>
        simp only [cond_false]
        cases (r == 2) with
        | true =>
          refine ⟨.mk 6 0 sOne [anyP], rfl, ?_, by decide⟩
          unfold Pa.ok; refine .inr ⟨rfl, rfl, .inr ⟨rfl, ?_, rfl⟩⟩
          unfold Pa.ok; exact .inl ⟨.inl rfl, rfl⟩
        | false =>
          simp only [cond_false, m1, Option.bind_some, retPV_pv, fits_i64, toInt_int, cond_true, n1, pa_fits, pa_eta]
          refine ⟨.mk 6 0 sPair [q, f], ?_, ?_, ?_⟩
          · rw [pa_enc (.mk 6 0 sPair [q, f])]
            simp only [kind_mk, num_mk, text_mk, args_mk, List.map_cons, List.map_nil]
            rw [pa_enc f, h3]
            rfl
          · unfold Pa.ok; exact .inr ⟨rfl, rfl, .inl ⟨rfl, n2, h1, rfl⟩⟩
          · have hc : (Pa.mk 6 0 sPair [q, f]).cnt = 1 + (q.cnt + (f.cnt + 0)) := rfl
            omega
  obtain ⟨r, g1, g2, g3⟩ := v20 (IntKind.i64.wrap (k.tdiv 60)) (n := 2) (by omega) (by omega)
  obtain ⟨r1, k1, k2, k3⟩ := v20 (IntKind.i64.wrap (k.tdiv 60)) (n := 3) (by omega) (by omega)
  rw [e8]
  simp only [g1, k1, Option.bind_some, retPV_pv, fits_i64, toInt_int, cond_true]
  cases (r1 == 2) with
  | true => exact key (.mk 2 0 [120] []) (by unfold Pa.ok; exact .inl ⟨.inr rfl, rfl⟩) (Nat.zero_le _) rfl
  | false => exact key (.mk 4 r [] []) (by unfold Pa.ok; exact .inr ⟨rfl, by omega, rfl, rfl⟩) (Nat.le_refl 1) rfl
theorem l13 (k v : Int) (hv : v < 100) : ∀ (j : Nat) (i : Int) (q : Pa), q.num = 0 → q.kind = 5 → 0 ≤ i → v - i ≤ j → q.vok .nat → ∃ r : Pa, L13_111014 k v i q.text (q.args.map Pa.enc) = some (.pv r.enc, []) ∧ r.vok .pair
  | j, i, q, hn, hk, h0, hj, hq => by
    have fin : ¬ i < v → ∃ r : Pa, L13_111014 k v i q.text (q.args.map Pa.enc) = some (.pv r.enc, []) ∧ r.vok .pair := fun h => by
      obtain ⟨r, g1, g2, g3⟩ := v20 (IntKind.i64.wrap (k.tdiv 12)) (n := 2) (by omega) (by omega)
      rw [e13_111014, dF h]
      simp only [cond_false, g1, Option.bind_some, retPV_pv, fits_i64, toInt_int, cond_true]
      refine ⟨.mk 5 0 sPair [q, .mk 3 r [] []], ?_, ?_⟩
      · rw [pa_enc (.mk 5 0 sPair [q, .mk 3 r [] []])]
        simp only [kind_mk, num_mk, text_mk, args_mk, List.map_cons, List.map_nil]
        rw [pa_enc q, hn, hk]
        rfl
      · unfold Pa.vok; refine ⟨rfl, rfl, .inl ⟨rfl, hq, ?_, rfl⟩⟩
        unfold Pa.vok; exact ⟨rfl, by omega, rfl, rfl⟩
    cases j with
    | zero => exact fin (by omega)
    | succ j =>
      by_cases h : i < v
      · have hw : IntKind.i64.wrap (i + 1) = i + 1 := wrap_i64 (by omega) (by omega)
        obtain ⟨r, g1, g2⟩ := l13 k v hv j (i + 1) (.mk 5 0 sNext [q]) rfl rfl (by omega) (by omega) (next_vok hq)
        refine ⟨r, ?_, g2⟩
        rw [e13_111014, dT h, hw]
        have := g1
        simp only [kind_mk, text_mk, args_mk, List.map_cons, List.map_nil, pa_enc q, hn, hk] at this
        exact this
      · exact fin h
theorem v13 (k : Int) : ∃ v : Pa, V 13 [.pv (.int .i64 k)] = some (.pv v.enc, []) ∧ v.vok .pair := by
  obtain ⟨r, g1, g2, g3⟩ := v20 (IntKind.i64.wrap (k.tdiv 3)) (n := 4) (by omega) (by omega)
  rw [e13]
  simp only [g1, Option.bind_some, retPV_pv, fits_i64, toInt_int, cond_true]
  cases (k.tmod 3 == 0) with
  | true =>
    refine ⟨.mk 5 0 sOne [.mk 2 r [] []], rfl, ?_⟩
    unfold Pa.vok; refine ⟨rfl, rfl, .inr ⟨rfl, ?_, rfl⟩⟩
    unfold Pa.vok; exact ⟨rfl, rfl, rfl⟩
  | false =>
    simp only [cond_false]
    exact l13 k r (by omega) 4 0 (.mk 5 0 sZero []) rfl rfl (by omega) (by omega) (by unfold Pa.vok; exact ⟨rfl, rfl, .inl ⟨rfl, rfl⟩⟩)

/-! ### Fits -/
theorem ok_parts {τ : Ty4} {p : Pa} (h : p.ok τ) : ∀ a, a ∈ p.args → ∃ σ, a.ok σ := by
  have key : ∀ (l : List Pa) (σs : List Ty4), Pa.oks l σs → ∀ p, p ∈ l → ∃ σ, p.ok σ := by
    intro l
    induction l with
    | nil => intro σs _ p hp; exact absurd hp List.not_mem_nil
    | cons q qs ih =>
      intro σs ho p hp
      cases σs with
      | nil => simp [Pa.oks] at ho
      | cons σ σs =>
        rcases List.mem_cons.1 hp with rfl | hp
        · exact ⟨σ, ho.1⟩
        · exact ih σs ho.2 p hp
  intro a ha
  cases p with | mk k n t args =>
  unfold Pa.ok at h
  have ha : a ∈ args := ha
  rcases h with h | h
  · rw [h.2] at ha; exact absurd ha List.not_mem_nil
  · cases τ with
    | int => rw [h.2.2] at ha; exact absurd ha List.not_mem_nil
    | bool => rw [h.2.2.2] at ha; exact absurd ha List.not_mem_nil
    | nat => rcases h.2.2 with h | h
             · rw [h.2] at ha; exact absurd ha List.not_mem_nil
             · exact key _ _ h.2 a ha
    | pair => rcases h.2.2 with h | h
              · exact key _ _ h.2 a ha
              · exact key _ _ h.2 a ha
theorem l16 (P Q : Pa) (hl : P.args.length ≤ 1000) (hlen : P.args.length = Q.args.length) (ih : ∀ a, a ∈ P.args → ∀ v : Pa, V 16 [.pv a.enc, .pv v.enc] = some (.pv (.bool (a.fit v)), [])) :
    ∀ (rest rv : List Pa) (k : Nat), P.args.drop k = rest → Q.args.drop k = rv → L16_111014 (P.args.map Pa.enc) (k : Int) P.kind P.num P.text Q.kind Q.num Q.text (Q.args.map Pa.enc) = some (.pv (.bool (Pa.fits rest rv)), [])
  | [], rv, k, hk, hv => by rw [e16_111014, endK_map hk]; rfl
  | a :: rest, rv, k, hk, hv => by
    have A := atK_map (f := Pa.enc) hk (by simp [maxLen]; omega)
    have A' := atK hk (by simp [maxLen]; omega)
    cases rv with
    | nil =>
      have h1 := congrArg List.length hk
      have h2 := congrArg List.length hv
      simp at h1 h2; omega
    | cons v rv =>
      have B := atK_map (f := Pa.enc) hv (by simp [maxLen]; omega)
      have B' := atK hv (by simp [maxLen]; omega)
      have := l16 P Q hl hlen ih rest rv (k + 1) A'.drop B'.drop
      rw [e16_111014]
      simp only [A.lt, A.ge, A.get, B.get, A.next, cond_true, Option.bind_some, pa_fits, pa_eta, ih a (List.mem_of_getElem? A'.get') v, retPV_pv, fits_bool, toBool_bool]
      simp only [Pa.fits]
      cases a.fit v with
      | false => rfl
      | true => simp only [Bool.not_true, cond_false, Bool.true_and]; exact this
theorem v16 (p : Pa) : ∀ τ, p.ok τ → ∀ v : Pa, V 16 [.pv p.enc, .pv v.enc] = some (.pv (.bool (p.fit v)), []) := by
  refine Pa.indL (Q := fun p => ∀ τ, p.ok τ → ∀ v : Pa, V 16 [.pv p.enc, .pv v.enc] = some (.pv (.bool (p.fit v)), [])) (fun p ih τ hp v => ?_) p
  have ih' : ∀ a, a ∈ p.args → ∀ v : Pa, V 16 [.pv a.enc, .pv v.enc] = some (.pv (.bool (a.fit v)), []) := fun a ha v => by
    obtain ⟨σ, hσ⟩ := ok_parts hp a ha
    exact ih a ha σ hσ v
  have hargs := ok_args hp
  have hfit : p.fit v = (bif p.kind == 1 || p.kind == 2 then true else bif p.kind == 3 then v.kind == 2 && v.num == p.num else bif p.kind == 4 then v.kind == 3 && v.num == p.num else bif p.kind == 5 then v.kind == 4 && v.text == p.text
    else p.kind == 6 && (v.kind == 5 && (p.text == v.text && (p.args.length == v.args.length && Pa.fits p.args v.args)))) := by
    cases p; rw [Pa.fit]; rfl
  rw [hfit, pa_enc p, pa_enc v, e16]
  have step : ∀ b, L16_101416 p.kind b p.num p.text (p.args.map Pa.enc) v.kind v.num v.text (v.args.map Pa.enc) = some (.pv (.bool (bif b then true else bif p.kind == 3 then v.kind == 2 && v.num == p.num else bif p.kind == 4 then v.kind == 3 && v.num == p.num else bif p.kind == 5 then v.kind == 4 && v.text == p.text
    else p.kind == 6 && (v.kind == 5 && (p.text == v.text && (p.args.length == v.args.length && Pa.fits p.args v.args))))), []) := fun b => by
    rw [e16_101416]
    cases b with
    | true => rfl
    | false =>
      simp only [cond_false]
      cases (p.kind == 3) with
      | true => simp only [cond_true]; cases (v.kind == 2) <;> rfl
      | false =>
        simp only [cond_false]
        cases (p.kind == 4) with
        | true => simp only [cond_true]; cases (v.kind == 3) <;> rfl
        | false =>
          simp only [cond_false]
          cases (p.kind == 5) with
          | true => simp only [cond_true]; cases (v.kind == 4) <;> rfl
          | false =>
            simp only [cond_false, bne]
            cases (p.kind == 6) with
            | false => rfl
            | true =>
              cases (v.kind == 5) with
              | false => rfl
              | true =>
                simp only [Bool.not_true, cond_false, Bool.true_and]
                cases (p.text == v.text) with
                | false => rfl
                | true =>
                  simp only [Bool.not_true, cond_false, Bool.true_and]
                  have hlen : (((p.args.map Pa.enc).length : Int) == ((v.args.map Pa.enc).length : Int)) = (p.args.length == v.args.length) := by
                    have e : ((p.args.map Pa.enc).length : Int) == ((v.args.map Pa.enc).length : Int) ↔ p.args.length == v.args.length := by simp; omega
                    exact Bool.eq_iff_iff.2 e
                  rw [hlen]
                  cases hq : (p.args.length == v.args.length) with
                  | false => rfl
                  | true =>
                    simp only [Bool.not_true, cond_false, Bool.true_and]
                    exact l16 p v (by omega) (by simpa using hq) ih' p.args v.args 0 rfl rfl
  cases h1 : (p.kind == 1) with
  | true => simp only [cond_true, Bool.true_or]; exact step true
  | false => simp only [cond_false, Bool.false_or]; exact step _
theorem v15 (p : Pa) (τ : Ty4) (hp : p.ok τ) (v : Pa) : V 15 ((([p.enc] : List PV) ++ ([.ptr [.int .i64 v.kind, .int .i64 v.num, .str v.text, .lst (v.args.map Pa.enc)]] : List PV)).map .pv) = some (.pv (.bool (p.fit v)), []) := by
  have h := v16 p τ hp v
  show V 15 [.pv p.enc, .pv (.ptr [.int .i64 v.kind, .int .i64 v.num, .str v.text, .lst (v.args.map Pa.enc)])] = _
  rw [pa_enc v, pa_enc p] at h
  rw [pa_enc p, e15, h]
  rfl
end Go.AL.S11
