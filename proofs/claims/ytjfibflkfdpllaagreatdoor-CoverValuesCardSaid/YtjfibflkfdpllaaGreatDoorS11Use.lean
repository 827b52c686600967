/- useful: whether some value fits a row, and none of a table's. -/
import Derived.Test.YtjfibflkfdpllaaGreatDoorS11Miss
set_option linter.unusedVariables false
set_option linter.unusedSimpArgs false
namespace Go.AL.S11
open Go Go.AL

def numV (n : Int) : Pa := .mk 2 n [] []
theorem ok_int {p : Pa} (h : p.ok .int) (ho : op p = false) : p = numP p.num := by
  rcases ok_heads h ho with ⟨_, e⟩ | ⟨x, hx, _⟩
  · exact e
  · exact absurd hx List.not_mem_nil
theorem vok_int {v : Pa} (h : v.vok .int) : v = numV v.num := by
  cases v with | mk k n t args =>
  unfold Pa.vok at h
  obtain ⟨rfl, rfl, rfl⟩ := h
  rfl
theorem vok_num (n : Int) : (numV n).vok .int := by unfold numV Pa.vok; exact ⟨rfl, rfl, rfl⟩
theorem fit_num (k n : Int) : (numP k).fit (numV n) = (n == k) := by simp [numP, numV, Pa.fit, kind_mk, num_mk]
theorem alk_numP (k n : Int) : alk (numP k) (numP n) = (k == n) := by simp [alk, numP, kind_mk, num_mk, text_mk, args_mk]
theorem rowi_fit {τs : List Ty4} {l : List Pa} (hl : Pa.oks l (.int :: τs)) (k : Int) {vs : List Pa} : Pa.fits l (numV k :: vs) = true ↔ ∃ m, rowP l (numP k) = some m ∧ Pa.fits m vs = true := by
  obtain ⟨p, ps, rfl, h1, h2⟩ := oks_cons.1 hl
  simp only [Pa.fits, rowP]
  cases ho : op p with
  | true => simp only [fit_op ho, Bool.true_and, cond_true, Option.some.injEq, exists_eq_left']; rfl
  | false =>
    rw [ok_int h1 ho]
    simp only [cond_false, fit_num, alk_numP, Bool.and_eq_true]
    cases hk : (p.num == k) with
    | true => have : p.num = k := by simpa using hk
              simp [this, numP, args_mk]
    | false => have : ¬ p.num = k := by simpa using hk
               simp [Ne.symm this]
theorem rowi_oks {τs : List Ty4} {l m : List Pa} (hl : Pa.oks l (.int :: τs)) {k : Int} (h : rowP l (numP k) = some m) : Pa.oks m τs := by
  obtain ⟨p, ps, rfl, h1, h2⟩ := oks_cons.1 hl
  simp only [rowP] at h
  cases ho : op p with
  | true => rw [ho] at h; obtain rfl := Option.some.inj h; exact h2
  | false =>
    rw [ho, ok_int h1 ho] at h
    simp only [cond_false] at h
    cases ha : alk (numP p.num) (numP k) with
    | false => rw [ha] at h; cases h
    | true => rw [ha] at h; obtain rfl := Option.some.inj h; exact h2

/-- Some value fits the row, and none of the table's. -/
def UseS (t : List (List Pa)) (l : List Pa) (τs : List Ty4) : Prop := ∃ vs, Pa.voks vs τs ∧ Pa.fits l vs = true ∧ ∀ m, m ∈ t → Pa.fits m vs = false
theorem use_row {t : List (List Pa)} {τ : Ty4} {τs : List Ty4} {x : Pa × List Ty4} (hx : x ∈ sig τ) (h : TOk4 t (τ :: τs)) {l m : List Pa} (hl : Pa.oks l (τ :: τs)) {bs : List Pa} (hb : bs.length = x.2.length) (hm : rowP l (patOf x.1 bs) = some m) :
    UseS (rowsP t (patOf x.1 bs)) m (x.2 ++ τs) ↔ ∃ us vs, Pa.voks us x.2 ∧ Pa.voks vs τs ∧ Pa.fits l (valOf x.1 us :: vs) = true ∧ ∀ m, m ∈ t → Pa.fits m (valOf x.1 us :: vs) = false := by
  constructor
  · rintro ⟨ws, h1, h2, h3⟩
    obtain ⟨us, vs, rfl, k1, k2⟩ := voks_split h1
    refine ⟨us, vs, k1, k2, (row_fit hx hl hb k1).2 ⟨m, hm, h2⟩, ?_⟩
    rw [not_all_false] at h3 ⊢
    exact fun he => h3 ((rows_fit hx h hb k1).1 he)
  · rintro ⟨us, vs, k1, k2, k3, k4⟩
    refine ⟨us ++ vs, voks_append k1 k2, ?_, ?_⟩
    · obtain ⟨m', e, hf⟩ := (row_fit hx hl hb k1).1 k3
      rw [hm] at e
      obtain rfl := Option.some.inj e
      exact hf
    · rw [not_all_false] at k4 ⊢
      exact fun he => k4 ((rows_fit hx h hb k1).2 he)
/-- The loop over heads: the first pattern of the row is open. -/
theorem l23 {t : List (List Pa)} {p : Pa} {ps : List Pa} {τ : Ty4} {τs : List Ty4} (hn : τs.length ≤ 1000) (ht : t.length ≤ 1000) (hps : ps.length ≤ 1000) (hpa : p.args.length ≤ 1000) (ho : op p = true) (hs : ∀ l, l ∈ t → shortR l)
    (IH : ∀ x, x ∈ sig τ → ∃ b, V 23 [.pv shapesP, .pv (.lst (tE (rowsP t x.1))), .pv (.lst ((List.replicate x.2.length anyP ++ ps).map Pa.enc))] = some (.pv (.bool b), []) ∧ (b = true ↔ UseS (rowsP t x.1) (List.replicate x.2.length anyP ++ ps) (x.2 ++ τs))) :
    ∀ (rest : List (Pa × List Ty4)) (k : Nat), (sig τ).drop k = rest → ∃ b, L23_11111014 (tE t) ((p :: ps).map Pa.enc) ((hds τ).map Pa.enc) (k : Int) [109] 1 [] sD [] [] [] sA = some (.pv (.bool b), []) ∧
      (b = true ↔ ∃ x, x ∈ rest ∧ UseS (rowsP t x.1) (List.replicate x.2.length anyP ++ ps) (x.2 ++ τs))
  | [], k, hk => by
    refine ⟨false, ?_, by simp⟩
    have : ((hds τ).map Pa.enc) = (sig τ).map (fun x => x.1.enc) := by unfold hds; rw [List.map_map]; rfl
    rw [e23_11111014, this, endK_map hk]
    rfl
  | x :: rest, k, hk => by
    have hsl : (sig τ).length ≤ 2 := by cases τ <;> decide
    have A := atK_map (f := fun x : Pa × List Ty4 => x.1.enc) hk (by simp [maxLen]; omega)
    have A' := atK hk (by simp [maxLen]; omega)
    have hx : x ∈ sig τ := List.mem_of_getElem? A'.get'
    obtain ⟨h1, h2, h3, h4, h5⟩ := sig_len hx
    have hh : ((hds τ).map Pa.enc) = (sig τ).map (fun x => x.1.enc) := by unfold hds; rw [List.map_map]; rfl
    obtain ⟨b, i1, i2⟩ := IH x hx
    obtain ⟨b', j1, j2⟩ := l23 hn ht hps hpa ho hs IH rest (k + 1) A'.drop
    have hv := v35 (h := x.1) (by omega) ht hs
    have hr := v37 p ps x.1 (by omega) hps hpa
    have hrow : rowP (p :: ps) x.1 = some (List.replicate x.2.length anyP ++ ps) := by simp only [rowP, ho, cond_true, h1]
    rw [hrow] at hr
    rw [hh] at j1 ⊢
    rw [shapesP_eq] at i1
    rw [e23_11111014]
    simp only [A.lt, A.ge, A.get, A.next, cond_true, Option.bind_some]
    simp only [pa_fits, pa_eta, hv, hr, cond_true, Option.bind_some, retPV_bld, fits_lstS, toLst_lst, rowOut, retPV_pv, fits_tup, fitsL_cons, fitsL_nil, fits_bool, rE_fits, Bool.not_false, Bool.true_or, Bool.and_true, r_zero, r_succ, toBool_bool, Option.getD_some, rE_toLst, i1]
    cases b with
    | true => exact ⟨true, rfl, by simp only [true_iff]; exact ⟨x, List.mem_cons_self .., i2.1 rfl⟩⟩
    | false =>
      refine ⟨b', j1, j2.trans ⟨fun ⟨y, hy, h⟩ => ⟨y, List.mem_cons_of_mem _ hy, h⟩, fun ⟨y, hy, h⟩ => ?_⟩⟩
      rcases List.mem_cons.1 hy with rfl | hy
      · exact absurd (i2.2 h) (by simp)
      · exact ⟨y, hy, h⟩
theorem v23_nil (t : List (List Pa)) (h : TOk4 t []) (l : List Pa) (hl : Pa.oks l []) : ∃ b, V 23 [.pv shapesP, .pv (.lst (tE t)), .pv (.lst (l.map Pa.enc))] = some (.pv (.bool b), []) ∧ (b = true ↔ UseS t l []) := by
  obtain rfl := oks_nil.1 hl
  rw [shapesP_eq, e23]
  cases t with
  | nil => exact ⟨true, rfl, by simp only [true_iff]; exact ⟨[], rfl, rfl, fun m hm => absurd hm List.not_mem_nil⟩⟩
  | cons r t =>
    have hz : (((tE (r :: t)).length : Int) == 0) = false := by simp; omega
    refine ⟨false, by rw [hz]; rfl, by simp only [Bool.false_eq_true, false_iff]; rintro ⟨vs, _, _, h3⟩; have := oks_nil.1 (h r (List.mem_cons_self ..)); subst this; have := h3 [] (List.mem_cons_self ..); cases this⟩
theorem v23 : ∀ (M : Nat) (τs : List Ty4) (t : List (List Pa)) (l : List Pa), TOk4 t τs → Pa.oks l τs → 2 * (cntT t + Pa.cntL l) + τs.length ≤ M → M ≤ 990 → t.length ≤ 1000 →
    ∃ b, V 23 [.pv shapesP, .pv (.lst (tE t)), .pv (.lst (l.map Pa.enc))] = some (.pv (.bool b), []) ∧ (b = true ↔ UseS t l τs) := by
  intro M
  induction M with
  | zero =>
    intro τs t l h hl h1 h2 h3
    obtain rfl : τs = [] := List.length_eq_zero_iff.1 (by omega)
    exact v23_nil t h l hl
  | succ M ih =>
    intro τs t l h hl h1 h2 h3
    cases τs with
    | nil => exact v23_nil t h l hl
    | cons τ τs =>
      obtain ⟨p, ps, rfl, hp, hps⟩ := oks_cons.1 hl
      simp only [List.length_cons, Pa.cntL] at h1
      have hs := short_of h (by omega)
      have hc := col_ok h
      have hcl : (colP t).length ≤ 1000 := by simp [colP]; omega
      have hpsl := oks_len hps
      have hpa := ok_args hp
      have hv32 := v32 h3 hs
      have hv31 := v31 hc hcl
      have hn : (((((p :: ps).map Pa.enc).length : Nat) : Int) == (0 : Int)) = false := by simp; omega
      have hz : ((p :: ps).map Pa.enc)[(0 : Int).toNat]? = some p.enc := rfl
      rw [shapesP_eq, e23, hn]
      simp only [cond_false, hz, Option.bind_some, pa_fits, cond_true, pa_eta, v36, retPV_pv, fits_bool, toBool_bool]
      cases ho : op p with
      | false =>
        have hv := v35 (h := p) (by omega) h3 hs
        have hr := v37 p ps p (by omega) (by omega) (by omega)
        have hself : alk p p = true := by simp [alk]
        have hrow : rowP (p :: ps) p = some (p.args ++ ps) := by simp only [rowP, ho, cond_false, hself, cond_true]
        rw [hrow] at hr
        have hcp := cnt_op ho
        simp only [Bool.not_false, cond_true, hr, rowOut, Option.bind_some, retPV_pv, fits_tup, fitsL_cons, fitsL_nil, fits_bool, rE_fits, Bool.not_false, Bool.true_or, Bool.and_true, r_zero, r_succ, toBool_bool, Option.getD_some, rE_toLst, hv, retPV_bld, fits_lstS, toLst_lst]
        rcases ok_heads hp ho with ⟨rfl, e⟩ | ⟨x, hx, e, hx2⟩
        · have hti : TOk4 (rowsP t p) τs := by
            intro m hm
            obtain ⟨r, hr, er⟩ := List.mem_filterMap.1 hm
            rw [e] at er
            exact rowi_oks (h r hr) er
          have hargs : p.args = [] := by rw [e]; rfl
          obtain ⟨b, g1, g2⟩ := ih τs (rowsP t p) (p.args ++ ps) hti (by rw [hargs]; exact hps) (by have := (rows_cnt t p (fun l hl => (hs l hl).1)).1; rw [cntL_append]; omega) (by omega) (by have := rows_len t p; omega)
          rw [shapesP_eq] at g1
          refine ⟨b, by rw [g1]; rfl, g2.trans ?_⟩
          rw [hargs]
          constructor
          · rintro ⟨vs, k1, k2, k3⟩
            refine ⟨numV p.num :: vs, ⟨vok_num _, k1⟩, ?_, ?_⟩
            · have : p.fit (numV p.num) = true := by rw [e]; exact (fit_num _ _).trans (by simp [num_mk])
              simp only [Pa.fits, this, Bool.true_and]; exact k2
            · rw [not_all_false] at k3 ⊢
              rintro ⟨m, hm, hf⟩
              obtain ⟨m', e1, e2⟩ := (rowi_fit (h m hm) p.num).1 hf
              refine k3 ⟨m', List.mem_filterMap.2 ⟨m, hm, ?_⟩, e2⟩
              rw [e]; exact e1
          · rintro ⟨ws, k1, k2, k3⟩
            obtain ⟨v, vs, rfl, w1, w2⟩ := voks_cons.1 k1
            simp only [Pa.fits, Bool.and_eq_true] at k2
            have hvn : v.num = p.num := by
              have := k2.1
              rw [e, vok_int w1] at this
              have := (fit_num _ _).symm.trans this
              simpa [num_mk] using this
            have hv' : v = numV p.num := by rw [← hvn]; exact vok_int w1
            refine ⟨vs, w2, k2.2, ?_⟩
            rw [not_all_false] at k3 ⊢
            rintro ⟨m', hm', hf⟩
            obtain ⟨m, hm, em⟩ := List.mem_filterMap.1 hm'
            rw [e] at em
            exact k3 ⟨m, hm, by rw [hv']; exact (rowi_fit (h m hm) p.num).2 ⟨m', em, hf⟩⟩
        · have hxl := oks_len hx2
          have h5 := sig_len hx
          have ht' : TOk4 (rowsP t p) (x.2 ++ τs) := by rw [e]; exact rows_ok hx h hxl
          obtain ⟨b, g1, g2⟩ := ih (x.2 ++ τs) (rowsP t p) (p.args ++ ps) ht' (oks_append hx2 hps) (by have := (rows_cnt t p (fun l hl => (hs l hl).1)).1; rw [cntL_append]; simp; omega) (by omega) (by have := rows_len t p; omega)
          rw [shapesP_eq] at g1
          refine ⟨b, by rw [g1]; rfl, g2.trans ?_⟩
          have hu := use_row hx h hl hxl (m := p.args ++ ps) (by rw [← e]; exact hrow)
          rw [← e] at hu
          rw [hu]
          constructor
          · rintro ⟨us, vs, k1, k2, k3, k4⟩
            exact ⟨valOf x.1 us :: vs, ⟨vok_val hx k1, k2⟩, k3, k4⟩
          · rintro ⟨ws, k1, k2, k3⟩
            obtain ⟨v, vs, rfl, w1, w2⟩ := voks_cons.1 k1
            have hτ : sig τ ≠ [] := List.ne_nil_of_mem hx
            obtain ⟨y, hy, ev, hy2⟩ := vok_heads hτ w1
            have hf : p.fit v = true := by simp only [Pa.fits, Bool.and_eq_true] at k2; exact k2.1
            rw [e, ev] at hf
            obtain ⟨rfl, _⟩ := (fit_head hx hy hxl (voks_len hy2)).1 hf
            rw [ev] at k2 k3
            exact ⟨v.args, vs, hy2, w2, k2, k3⟩
      | true =>
        rw [shapesP_eq] at hv31
        simp only [Bool.not_true, cond_false, hv32, Option.bind_some, retPV_bld, fits_lstS, toLst_lst, cond_true, hv31, retPV_pv]
        have hcp : p.cnt = 0 := by
          cases p with | mk k n t args =>
          have h' : (k == 1 || k == 2) = true := ho
          unfold Pa.cnt
          rw [h']
          rfl
        cases hho : ((colP t).all op || match τ with | .int => true | _ => false) with
        | true =>
          have hh : (colP t).all op = true ∨ τ = .int := by
            cases ha : (colP t).all op with
            | true => exact .inl rfl
            | false => rw [ha] at hho; cases τ <;> first | exact .inr rfl | cases hho
          have hnil : hdO τ (colP t) = .nils := by
            unfold hdO
            rcases hh with h | rfl
            · rw [h]; rfl
            · cases (colP t).all op <;> rfl
          obtain ⟨b, g1, g2⟩ := ih τs (restP t) ps (rest_ok h) hps (by have := rest_cnt t; omega) (by omega) (by have := rest_len t; omega)
          have hbd : (decide (0 ≤ (1 : Int)) && decide ((1 : Int) ≤ (((p :: ps).map Pa.enc).length : Int))) = true := by simp; omega
          have hd : ((p :: ps).map Pa.enc).drop (1 : Int).toNat = ps.map Pa.enc := rfl
          rw [shapesP_eq] at g1
          rw [hnil]
          simp only [show PV.nils.isNils = true from rfl, cond_true]
          rw [e23_11116]
          simp only [v33 h3 hs, Option.bind_some, retPV_bld, fits_lstS, toLst_lst, cond_true, headOk_pa, hbd, hd, g1, retPV_pv, fits_bool, toBool_bool]
          refine ⟨b, rfl, g2.trans ?_⟩
          constructor
          · rintro ⟨vs, k1, k2, k3⟩
            obtain ⟨o, o1, o2, o3, ⟨v0, o4, o5⟩, o6⟩ := v34 hc hcl hh
            refine ⟨v0 :: vs, ⟨o4, k1⟩, by simp only [Pa.fits, fit_op ho, Bool.true_and]; exact k2, fun m hm => ?_⟩
            obtain ⟨q, qq, rfl, hq1, hq2⟩ := oks_cons.1 (h m hm)
            cases hoq : op q with
            | true =>
              have hmm : qq ∈ restP t := List.mem_filterMap.2 ⟨q :: qq, hm, by simp [restR, hoq]⟩
              simp only [Pa.fits, k3 qq hmm, Bool.and_false]
            | false =>
              have := o6 v0 o4 o5 q (List.mem_map.2 ⟨_, hm, rfl⟩) hoq
              simp only [Pa.fits, this, Bool.false_and]
          · rintro ⟨ws, k1, k2, k3⟩
            obtain ⟨v, vs, rfl, w1, w2⟩ := voks_cons.1 k1
            simp only [Pa.fits, Bool.and_eq_true] at k2
            refine ⟨vs, w2, k2.2, fun m' hm' => ?_⟩
            obtain ⟨m, hm, em⟩ := List.mem_filterMap.1 hm'
            have := k3 m hm
            cases m with
            | nil => cases em
            | cons q qq =>
              simp only [restR] at em
              cases hoq : op q with
              | false => rw [hoq] at em; cases em
              | true =>
                rw [hoq] at em
                obtain rfl := Option.some.inj em
                simp only [Pa.fits, fit_op hoq, Bool.true_and] at this
                exact this
        | false =>
          have ha : (colP t).all op = false := by cases ha : (colP t).all op with | false => rfl | true => rw [ha] at hho; cases hho
          have hτ : sig τ ≠ [] ∧ hdO τ (colP t) = .lst ((hds τ).map Pa.enc) := by
            unfold hdO
            rw [ha]
            cases τ <;> first | exact ⟨by decide, rfl⟩ | exact ⟨List.cons_ne_nil .., rfl⟩ | (rw [ha] at hho; cases hho)
          have hne : ∃ p, p ∈ colP t ∧ op p = false := by
            rw [List.all_eq_false] at ha
            obtain ⟨p, hp, ho⟩ := ha
            exact ⟨p, hp, by simpa using ho⟩
          have IH : ∀ x, x ∈ sig τ → ∃ b, V 23 [.pv shapesP, .pv (.lst (tE (rowsP t x.1))), .pv (.lst ((List.replicate x.2.length anyP ++ ps).map Pa.enc))] = some (.pv (.bool b), []) ∧ (b = true ↔ UseS (rowsP t x.1) (List.replicate x.2.length anyP ++ ps) (x.2 ++ τs)) := fun x hx => by
            have h5 := sig_len hx
            have hr := rows_cnt t x.1 (fun l hl => (hs l hl).1)
            have := hr.2 hne
            refine ih _ _ _ ?_ (oks_append (oks_any _) hps) (by rw [cntL_append, cntL_any]; simp; omega) (by omega) (by have := rows_len t x.1; omega)
            have := rows_ok hx h (bs := x.1.args) h5.1
            rw [← sig_self hx] at this
            exact this
          obtain ⟨b, g1, g2⟩ := l23 (by omega) h3 (by omega) (by omega) ho hs IH (sig τ) 0 rfl
          rw [hτ.2]
          have hni : (PV.lst ((hds τ).map Pa.enc)).isNils = false := rfl
          simp only [hni, cond_false, fits_lstS, toLst_lst, cond_true]
          rw [e23_11116v1]
          obtain ⟨z, zs, hz'⟩ : ∃ z zs, (hds τ).map Pa.enc = z :: zs := by
            cases hh : (hds τ).map Pa.enc with
            | nil => exact absurd (by simpa [hds] using hh) hτ.1
            | cons z zs => exact ⟨z, zs, rfl⟩
          have hsome : some? ((hds τ).map Pa.enc) = some true := by rw [hz']; rfl
          rw [hsome]
          simp only [Option.bind_some]
          refine ⟨b, g1, g2.trans ?_⟩
          have key : ∀ x, x ∈ sig τ → (UseS (rowsP t x.1) (List.replicate x.2.length anyP ++ ps) (x.2 ++ τs) ↔ ∃ us vs, Pa.voks us x.2 ∧ Pa.voks vs τs ∧ Pa.fits (p :: ps) (valOf x.1 us :: vs) = true ∧ ∀ m, m ∈ t → Pa.fits m (valOf x.1 us :: vs) = false) := fun x hx => by
            have h5 := sig_len hx
            have := use_row hx h hl (bs := x.1.args) h5.1 (m := List.replicate x.2.length anyP ++ ps) (by rw [← sig_self hx]; simp only [rowP, ho, cond_true, h5.1])
            rw [← sig_self hx] at this
            exact this
          constructor
          · rintro ⟨x, hx, hu⟩
            obtain ⟨us, vs, k1, k2, k3, k4⟩ := (key x hx).1 hu
            exact ⟨valOf x.1 us :: vs, ⟨vok_val hx k1, k2⟩, k3, k4⟩
          · rintro ⟨ws, k1, k2, k3⟩
            obtain ⟨v, vs, rfl, w1, w2⟩ := voks_cons.1 k1
            obtain ⟨y, hy, ev, hy2⟩ := vok_heads hτ.1 w1
            rw [ev] at k2 k3
            exact ⟨y, hy, (key y hy).2 ⟨v.args, vs, hy2, w2, k2, k3⟩⟩
end Go.AL.S11
