/- missing: what it tells is missing, and nothing is where it tells nothing. -/
import Derived.Test.YtjfibflkfdpllaaGreatDoorS11Head
set_option linter.unusedVariables false
set_option linter.unusedSimpArgs false
namespace Go.AL.S11
open Go Go.AL

def TOk4 (t : List (List Pa)) (τs : List Ty4) : Prop := ∀ l, l ∈ t → Pa.oks l τs
/-- What is missing. -/
def MissS (t : List (List Pa)) (τs : List Ty4) (M : Nat) : Option (List Pa) → Prop
  | none => ∀ vs, Pa.voks vs τs → ∃ l, l ∈ t ∧ Pa.fits l vs = true
  | some ps => Pa.oks ps τs ∧ Pa.cntL ps ≤ M ∧ (∀ vs, Pa.voks vs τs → Pa.fits ps vs = true → ∀ l, l ∈ t → Pa.fits l vs = false) ∧ ∃ vs, Pa.voks vs τs ∧ Pa.fits ps vs = true
theorem short_of {t : List (List Pa)} {τ : Ty4} {τs : List Ty4} (h : TOk4 t (τ :: τs)) (hl : τs.length + 1 ≤ 1000) : ∀ l, l ∈ t → shortR l := by
  intro l hm
  have hl1 := oks_len (h l hm)
  refine ⟨fun e => by subst e; simp at hl1, by simp at hl1; omega, ?_⟩
  have key : ∀ (l : List Pa) (σs : List Ty4), Pa.oks l σs → ∀ p, p ∈ l → p.args.length ≤ 2 := by
    intro l
    induction l with
    | nil => intro σs _ p hp; exact absurd hp List.not_mem_nil
    | cons q qs ih =>
      intro σs ho p hp
      cases σs with
      | nil => simp [Pa.oks] at ho
      | cons σ σs =>
        rcases List.mem_cons.1 hp with rfl | hp
        · exact ok_args ho.1
        · exact ih σs ho.2 p hp
  intro p hp
  have := key l _ (h l hm) p hp
  omega
theorem col_ok {t : List (List Pa)} {τ : Ty4} {τs : List Ty4} (h : TOk4 t (τ :: τs)) : ∀ p, p ∈ colP t → p.ok τ := by
  intro p hp
  obtain ⟨l, hl, rfl⟩ := List.mem_map.1 hp
  obtain ⟨q, qs, rfl, h1, _⟩ := oks_cons.1 (h l hl)
  exact h1
theorem rows_ok {t : List (List Pa)} {τ : Ty4} {τs : List Ty4} {x : Pa × List Ty4} (hx : x ∈ sig τ) (h : TOk4 t (τ :: τs)) {bs : List Pa} (hb : bs.length = x.2.length) : TOk4 (rowsP t (patOf x.1 bs)) (x.2 ++ τs) := by
  intro m hm
  obtain ⟨l, hl, e⟩ := List.mem_filterMap.1 hm
  exact row_oks hx (h l hl) hb e
theorem rest_ok {t : List (List Pa)} {τ : Ty4} {τs : List Ty4} (h : TOk4 t (τ :: τs)) : TOk4 (restP t) τs := by
  intro m hm
  obtain ⟨l, hl, e⟩ := List.mem_filterMap.1 hm
  obtain ⟨q, qs, rfl, h1, h2⟩ := oks_cons.1 (h l hl)
  simp only [restR] at e
  cases ho : op q with
  | true => rw [ho] at e; obtain rfl := Option.some.inj e; exact h2
  | false => rw [ho] at e; cases e
theorem sig_self {τ : Ty4} {x : Pa × List Ty4} (hx : x ∈ sig τ) : x.1 = patOf x.1 x.1.args := by unfold patOf; exact Pa.eta _
/-- A table, at values of some head. -/
theorem rows_fit {t : List (List Pa)} {τ : Ty4} {τs : List Ty4} {x : Pa × List Ty4} (hx : x ∈ sig τ) (h : TOk4 t (τ :: τs)) {bs us vs : List Pa} (hb : bs.length = x.2.length) (ha : Pa.voks us x.2) :
    (∃ l, l ∈ t ∧ Pa.fits l (valOf x.1 us :: vs) = true) ↔ ∃ m, m ∈ rowsP t (patOf x.1 bs) ∧ Pa.fits m (us ++ vs) = true := by
  constructor
  · rintro ⟨l, hl, hf⟩
    obtain ⟨m, h1, h2⟩ := (row_fit hx (h l hl) hb ha).1 hf
    exact ⟨m, List.mem_filterMap.2 ⟨l, hl, h1⟩, h2⟩
  · rintro ⟨m, hm, hf⟩
    obtain ⟨l, hl, e⟩ := List.mem_filterMap.1 hm
    exact ⟨l, hl, (row_fit hx (h l hl) hb ha).2 ⟨m, e, hf⟩⟩
theorem not_all_false {t : List (List Pa)} {vs : List Pa} : (∀ l, l ∈ t → Pa.fits l vs = false) ↔ ¬ ∃ l, l ∈ t ∧ Pa.fits l vs = true := by
  constructor
  · rintro h ⟨l, hl, hf⟩; rw [h l hl] at hf; cases hf
  · intro h l hl
    cases hf : Pa.fits l vs with
    | false => rfl
    | true => exact absurd ⟨l, hl, hf⟩ h

/-- The loop over heads. -/
theorem l22 {t : List (List Pa)} {τ : Ty4} {τs : List Ty4} {M : Nat} (hn : τs.length ≤ 1000) (ht : t.length ≤ 1000) (hs : ∀ l, l ∈ t → shortR l)
    (IH : ∀ x, x ∈ sig τ → ∃ r, V 22 [.pv shapesP, .pv (.lst (tE (rowsP t x.1))), .pv (.int .i64 (((x.2 ++ τs).length : Nat) : Int))] = some (rowOut r) ∧ MissS (rowsP t x.1) (x.2 ++ τs) M r) :
    ∀ (rest : List (Pa × List Ty4)) (k : Nat), (sig τ).drop k = rest → ∃ r, L22_1111014 (tE t) ((τs.length + 1 : Nat) : Int) ((hds τ).map Pa.enc) (k : Int) [109] 1 [] sD [] [] [] sA = some (rowOut r) ∧
      match r with
      | none => ∀ x, x ∈ rest → MissS (rowsP t x.1) (x.2 ++ τs) M none
      | some ps => ∃ x, x ∈ rest ∧ ∃ m, MissS (rowsP t x.1) (x.2 ++ τs) M (some m) ∧ ps = patOf x.1 (m.take x.2.length) :: m.drop x.2.length
  | [], k, hk => by
    refine ⟨none, ?_, fun x hx => absurd hx List.not_mem_nil⟩
    have : ((hds τ).map Pa.enc) = (sig τ).map (fun x => x.1.enc) := by unfold hds; rw [List.map_map]; rfl
    rw [e22_1111014, this, endK_map hk]
    rfl
  | x :: rest, k, hk => by
    have hsl : (sig τ).length ≤ 2 := by cases τ <;> decide
    have A := atK_map (f := fun x : Pa × List Ty4 => x.1.enc) hk (by simp [maxLen]; omega)
    have A' := atK hk (by simp [maxLen]; omega)
    have hx : x ∈ sig τ := List.mem_of_getElem? A'.get'
    obtain ⟨h1, h2, h3, h4, h5⟩ := sig_len hx
    have hh : ((hds τ).map Pa.enc) = (sig τ).map (fun x => x.1.enc) := by unfold hds; rw [List.map_map]; rfl
    obtain ⟨r, i1, i2⟩ := IH x hx
    obtain ⟨r', j1, j2⟩ := l22 hn ht hs IH rest (k + 1) A'.drop
    have hv := v35 (h := x.1) (by omega) ht hs
    have hlen : (((x.1.args.map Pa.enc).length : Nat) : Int) = ((x.2.length : Nat) : Int) := by simp [h1]
    have hw : IntKind.i64.wrap (IntKind.i64.wrap (((x.2.length : Nat) : Int) + ((τs.length + 1 : Nat) : Int)) - 1) = (((x.2 ++ τs).length : Nat) : Int) := by
      rw [wrap_i64 (n := ((x.2.length : Nat) : Int) + ((τs.length + 1 : Nat) : Int)) (by omega) (by omega), wrap_i64 (by omega) (by omega)]; simp; omega
    rw [hh] at j1 ⊢
    rw [shapesP_eq] at i1
    rw [e22_1111014]
    simp only [A.lt, A.ge, A.get, A.next, cond_true, Option.bind_some]
    simp only [pa_fits, pa_eta, hv, cond_true, Option.bind_some, retPV_bld, fits_lstS, toLst_lst]
    simp only [pa_3, hlen, hw, retPV_bld, fits_lstS, toLst_lst, i1, cond_true, Option.bind_some, rowOut, retPV_pv, fits_tup, fitsL_cons, fitsL_nil, fits_bool, rE_fits, Bool.not_false, Bool.true_or, Bool.and_true, r_zero, r_succ, toBool_bool]
    cases r with
    | none =>
      simp only [Option.isSome_none, cond_false]
      refine ⟨r', j1, ?_⟩
      cases r' with
      | none => exact fun y hy => (List.mem_cons.1 hy).elim (fun e => e ▸ i2) (j2 y)
      | some ps => obtain ⟨y, hy, m, g1, g2⟩ := j2; exact ⟨y, List.mem_cons_of_mem _ hy, m, g1, g2⟩
    | some m =>
      have hml := oks_len i2.1
      have hmb : m.length ≤ 1002 := by rw [hml]; simp; omega
      have htk : (m.map Pa.enc).take ((x.2.length : Nat) : Int).toNat = (m.take x.2.length).map Pa.enc := by rw [List.map_take]; rfl
      have hdp : (m.map Pa.enc).drop ((x.2.length : Nat) : Int).toNat = (m.drop x.2.length).map Pa.enc := by rw [List.map_drop]; rfl
      have hbd : (decide (0 ≤ ((x.2.length : Nat) : Int)) && decide (((x.2.length : Nat) : Int) ≤ ((rE ((some m).getD [])).toLst.length : Int))) = true := by
        have : (rE ((some m).getD [])).toLst.length = x.2.length + τs.length := by simp [rE_toLst, hml]
        rw [Bool.and_eq_true]
        exact ⟨decide_eq_true (by omega), decide_eq_true (by rw [this]; omega)⟩
      have hvt := v10 (m.take x.2.length) (by simp; omega)
      have hsm : small 1 ((m.drop x.2.length).map Pa.enc).length 56 = true := small_of (by simp; omega)
      refine ⟨some (patOf x.1 (m.take x.2.length) :: m.drop x.2.length), ?_, x, List.mem_cons_self .., m, i2, rfl⟩
      simp only [Option.isSome_some, cond_true, hbd]
      simp only [Option.getD_some, cond_true, rE_toLst, headOk_pa, htk, hdp, hvt, Option.bind_some, retPV_bld, fits_lstS, toLst_lst, hsm, pa_0, pa_1, pa_2]
      unfold rE
      rw [List.map_cons, pa_enc (patOf x.1 _)]
      rfl

theorem v22_nil (t : List (List Pa)) (h : TOk4 t []) (M : Nat) : ∃ r, V 22 [.pv shapesP, .pv (.lst (tE t)), .pv (.int .i64 ((([] : List Ty4).length : Nat) : Int))] = some (rowOut r) ∧ MissS t [] M r := by
  rw [shapesP_eq, e22]
  cases t with
  | nil => exact ⟨some [], rfl, rfl, Nat.zero_le _, fun vs _ _ l hl => absurd hl List.not_mem_nil, [], rfl, rfl⟩
  | cons l t =>
    have hz : (((tE (l :: t)).length : Int) == 0) = false := by simp; omega
    refine ⟨none, by rw [hz]; rfl, fun vs hv => ⟨l, List.mem_cons_self .., ?_⟩⟩
    have := oks_nil.1 (h l (List.mem_cons_self ..))
    subst this
    rfl
theorem v22 : ∀ (M : Nat) (τs : List Ty4) (t : List (List Pa)), TOk4 t τs → 2 * cntT t + τs.length ≤ M → M ≤ 990 → t.length ≤ 1000 →
    ∃ r, V 22 [.pv shapesP, .pv (.lst (tE t)), .pv (.int .i64 ((τs.length : Nat) : Int))] = some (rowOut r) ∧ MissS t τs M r := by
  intro M
  induction M with
  | zero =>
    intro τs t h h1 h2 h3
    obtain rfl : τs = [] := List.length_eq_zero_iff.1 (by omega)
    exact v22_nil t h 0
  | succ M ih =>
    intro τs t h h1 h2 h3
    cases τs with
    | nil => exact v22_nil t h _
    | cons τ τs =>
      simp only [List.length_cons] at h1
      have hs := short_of h (by omega)
      have hc := col_ok h
      have hcl : (colP t).length ≤ 1000 := by simp [colP]; omega
      have hv32 := v32 h3 hs
      have hv31 := v31 hc hcl
      have hn : (((((τ :: τs).length : Nat) : Int)) == (0 : Int)) = false := by simp; omega
      rw [shapesP_eq, e22, hn]
      simp only [cond_false, hv32, Option.bind_some, retPV_bld, fits_lstS, toLst_lst, cond_true]
      rw [shapesP_eq] at hv31
      simp only [hv31, Option.bind_some, retPV_pv]
      cases hho : ((colP t).all op || match τ with | .int => true | _ => false) with
      | true =>
        have hh : (colP t).all op = true ∨ τ = .int := by
          cases ha : (colP t).all op with
          | true => exact .inl rfl
          | false => rw [ha] at hho; cases τ <;> first | exact .inr rfl | cases hho
        have hnil : hdO τ (colP t) = .nils := by
          unfold hdO
          rcases hh with h | rfl
          · rw [h]; rfl
          · cases (colP t).all op <;> rfl
        obtain ⟨r, g1, g2⟩ := ih τs (restP t) (rest_ok h) (by have := rest_cnt t; omega) (by omega) (by have := rest_len t; omega)
        have hw : IntKind.i64.wrap ((((τ :: τs).length : Nat) : Int) - 1) = ((τs.length : Nat) : Int) := by
          rw [wrap_i64 (by rw [List.length_cons]; omega) (by rw [List.length_cons]; omega)]; simp
        rw [shapesP_eq] at g1
        rw [hnil]
        simp only [show PV.nils.isNils = true from rfl, cond_true]
        rw [e22_1116]
        simp only [v33 h3 hs, Option.bind_some, retPV_bld, fits_lstS, toLst_lst, cond_true, hw, g1, rowOut, retPV_pv, fits_tup, fitsL_cons, fitsL_nil, fits_bool, rE_fits, Bool.not_false, Bool.true_or, Bool.and_true, r_zero, r_succ, toBool_bool]
        cases r with
        | none =>
          refine ⟨none, rfl, fun vs hv => ?_⟩
          obtain ⟨v, vs', rfl, hv1, hv2⟩ := voks_cons.1 hv
          obtain ⟨m, hm, hf⟩ := g2 vs' hv2
          obtain ⟨l, hl, e⟩ := List.mem_filterMap.1 hm
          refine ⟨l, hl, ?_⟩
          cases l with
          | nil => cases e
          | cons p ps =>
            simp only [restR] at e
            cases ho : op p with
            | false => rw [ho] at e; cases e
            | true => rw [ho] at e; obtain rfl := Option.some.inj e; simp only [Pa.fits, fit_op ho, hf, Bool.and_self]
        | some ps =>
          obtain ⟨q1, q2, q3, vs0, q4, q5⟩ := g2
          obtain ⟨o, o1, o2, o3, ⟨v0, o4, o5⟩, o6⟩ := v34 hc hcl hh
          have hpl := oks_len q1
          have hsm : small 1 (ps.map Pa.enc).length 56 = true := small_of (by simp; omega)
          refine ⟨some (o :: ps), ?_, ⟨o2, q1⟩, by simp only [Pa.cntL]; omega, ?_, v0 :: vs0, ⟨o4, q4⟩, by simp only [Pa.fits, o5, q5, Bool.and_self]⟩
          · simp only [Option.isSome_some, Option.getD_some, Bool.not_true, cond_false, hv32, Option.bind_some, retPV_bld, fits_lstS, toLst_lst, cond_true, o1, retPV_pv, pa_fits, pa_eta, rE_toLst, headOk_pa, hsm]
            rfl
          · intro vs hv hf l hl
            obtain ⟨v, vs', rfl, hv1, hv2⟩ := voks_cons.1 hv
            simp only [Pa.fits, Bool.and_eq_true] at hf
            obtain ⟨p, pp, rfl, hp1, hp2⟩ := oks_cons.1 (h l hl)
            cases ho : op p with
            | true =>
              have hm : pp ∈ restP t := List.mem_filterMap.2 ⟨p :: pp, hl, by simp [restR, ho]⟩
              simp only [Pa.fits, q3 vs' hv2 hf.2 pp hm, Bool.and_false]
            | false =>
              have := o6 v hv1 hf.1 p (List.mem_map.2 ⟨_, hl, rfl⟩) ho
              simp only [Pa.fits, this, Bool.false_and]
      | false =>
        have ha : (colP t).all op = false := by cases ha : (colP t).all op with | false => rfl | true => rw [ha] at hho; cases hho
        have hτ : sig τ ≠ [] ∧ hdO τ (colP t) = .lst ((hds τ).map Pa.enc) := by
          unfold hdO
          rw [ha]
          cases τ <;> first | exact ⟨by decide, rfl⟩ | exact ⟨List.cons_ne_nil .., rfl⟩ | (rw [ha] at hho; cases hho)
        have hne : ∃ p, p ∈ colP t ∧ op p = false := by
          rw [List.all_eq_false] at ha
          obtain ⟨p, hp, ho⟩ := ha
          exact ⟨p, hp, by simpa using ho⟩
        have IH : ∀ x, x ∈ sig τ → ∃ r, V 22 [.pv shapesP, .pv (.lst (tE (rowsP t x.1))), .pv (.int .i64 (((x.2 ++ τs).length : Nat) : Int))] = some (rowOut r) ∧ MissS (rowsP t x.1) (x.2 ++ τs) M r := fun x hx => by
          have h5 := sig_len hx
          have hr := rows_cnt t x.1 (fun l hl => (hs l hl).1)
          have := hr.2 hne
          refine ih _ _ ?_ (by simp; omega) (by omega) (by have := rows_len t x.1; omega)
          have := rows_ok hx h (bs := x.1.args) h5.1
          rw [← sig_self hx] at this
          exact this
        obtain ⟨r, g1, g2⟩ := l22 (by omega) h3 hs IH (sig τ) 0 rfl
        rw [hτ.2]
        have hni : (PV.lst ((hds τ).map Pa.enc)).isNils = false := rfl
        simp only [hni, cond_false, fits_lstS, toLst_lst, cond_true]
        rw [e22_1116v1]
        obtain ⟨z, zs, hz⟩ : ∃ z zs, (hds τ).map Pa.enc = z :: zs := by
          cases hh : (hds τ).map Pa.enc with
          | nil => exact absurd (by simpa [hds] using hh) hτ.1
          | cons z zs => exact ⟨z, zs, rfl⟩
        have hsome : some? ((hds τ).map Pa.enc) = some true := by rw [hz]; rfl
        rw [hsome]
        simp only [Option.bind_some]
        refine ⟨r, g1, ?_⟩
        cases r with
        | none =>
          intro vs hv
          obtain ⟨v, vs', rfl, hv1, hv2⟩ := voks_cons.1 hv
          obtain ⟨x, hx, e, hx2⟩ := vok_heads hτ.1 hv1
          have h5 := sig_len hx
          obtain ⟨m, hm, hf⟩ := g2 x hx (v.args ++ vs') (voks_append hx2 hv2)
          have := (rows_fit (t := t) hx h (bs := x.1.args) h5.1 (vs := vs') hx2).2 ⟨m, by rw [← sig_self hx]; exact hm, hf⟩
          rw [← e] at this
          exact this
        | some ps =>
          obtain ⟨x, hx, m, ⟨q1, q2, q3, vs0, q4, q5⟩, rfl⟩ := g2
          have h5 := sig_len hx
          obtain ⟨k1, k2⟩ := oks_split q1
          have hml := oks_len q1
          have hmt : (m.take x.2.length).length = x.2.length := oks_len k1
          have hcnt : Pa.cntL (m.take x.2.length) + Pa.cntL (m.drop x.2.length) = Pa.cntL m := by rw [← cntL_append, List.take_append_drop]
          have hpc : (patOf x.1 (m.take x.2.length)).cnt = 1 + Pa.cntL (m.take x.2.length) := cnt_op (op_pat hx _)
          refine ⟨⟨ok_pat hx k1, k2⟩, by simp only [Pa.cntL]; omega, ?_, ?_⟩
          · intro vs hv hf
            obtain ⟨v, vs', rfl, hv1, hv2⟩ := voks_cons.1 hv
            simp only [Pa.fits, Bool.and_eq_true] at hf
            obtain ⟨y, hy, e, hy2⟩ := vok_heads hτ.1 hv1
            rw [e] at hf
            obtain ⟨rfl, hf1⟩ := (fit_head hx hy hmt (voks_len hy2)).1 hf.1
            rw [not_all_false, e]
            intro hex
            obtain ⟨m', hm', hf'⟩ := (rows_fit (t := t) hx h (bs := x.1.args) h5.1 (vs := vs') hy2).1 hex
            rw [← sig_self hx] at hm'
            have := q3 (v.args ++ vs') (voks_append hy2 hv2) (by
              rw [← List.take_append_drop x.2.length m, fits_append (by rw [hmt, voks_len hy2]), hf1, hf.2]; rfl) m' hm'
            rw [this] at hf'; cases hf'
          · obtain ⟨a, b, rfl, ha1, hb1⟩ := voks_split q4
            rw [← List.take_append_drop x.2.length m, fits_append (by rw [hmt, voks_len ha1]), Bool.and_eq_true] at q5
            refine ⟨valOf x.1 a :: b, ⟨vok_val hx ha1, hb1⟩, ?_⟩
            simp only [Pa.fits, Bool.and_eq_true]
            exact ⟨(fit_head hx hx hmt (voks_len ha1)).2 ⟨rfl, q5.1⟩, q5.2⟩
end Go.AL.S11
