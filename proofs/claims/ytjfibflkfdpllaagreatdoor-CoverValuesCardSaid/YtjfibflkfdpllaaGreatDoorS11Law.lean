/- The three laws of coverage, as the program asks for them. -/
import Derived.Test.YtjfibflkfdpllaaGreatDoorS11Laws
set_option linter.unusedVariables false
set_option linter.unusedSimpArgs false
set_option maxRecDepth 100000
namespace Go.AL.S11
open Go Go.AL

theorem headOk_iE (l : List Int) : headOk 1 (iE l) = true := by cases l <;> rfl
/-- A list of patterns that were made by number. -/
def Made (L : List Pa) : Prop := ∀ q, q ∈ L → q.ok .pair ∧ q.cnt ≤ 10
theorem made_cnt : ∀ {L : List Pa}, Made L → cntS L ≤ 10 * L.length
  | [], _ => Nat.le_refl _
  | q :: L, h => by
    have h1 := (h q (List.mem_cons_self ..)).2
    have h2 := made_cnt (L := L) fun p hp => h p (List.mem_cons_of_mem _ hp)
    rw [cntS_cons, List.length_cons]; omega
def cut (m : Int) (l : List PV) : Nat := (bif decide (m < (l.length : Int)) then m else (l.length : Int)).toNat
theorem cut_take (m : Nat) (ks : List Int) : ((iE ks).take (cut m (iE ks))) = iE (ks.take m) := by
  unfold cut iE
  rw [List.length_map, ← List.map_take]
  by_cases h : (m : Int) < (ks.length : Int)
  · rw [dT h]; simp
  · rw [dF h]; simp only [cond_false, Int.toNat_natCast, List.take_length]; rw [List.take_of_length_le (by omega)]
theorem made_snoc {L : List Pa} {q : Pa} (h : Made L) (h1 : q.ok .pair) (h2 : q.cnt ≤ 10) : Made (L ++ [q]) := by
  intro p hp
  rcases List.mem_append.1 hp with hp | hp
  · exact h p hp
  · simp at hp; subst hp; exact ⟨h1, h2⟩

theorem v6' : V 6 [.pv (.str [109, 111, 100, 117, 108, 101, 32, 109, 32, 49, 59, 32, 100, 97, 116, 97, 32, 78, 97, 116, 32, 61, 32, 90, 101, 114, 111, 32, 124, 32, 78, 101, 120, 116, 40, 78, 97, 116, 41, 59, 32, 100, 97, 116, 97, 32, 80, 97, 105, 114, 32, 61, 32, 80, 97, 105, 114, 40, 78, 97, 116, 44, 32, 98, 111, 111, 108, 41, 32, 124, 32, 79, 110, 101, 40, 105, 110, 116, 41, 59, 32, 97, 99, 116, 111, 114, 32, 65, 40, 41, 58, 32, 105, 110, 116, 32, 61, 32, 40, 41, 59])] = some (.pv shapesP, []) := v6
theorem sh_fits : (Sh.agg [Sh.str, Sh.int .i64, Sh.lst, Sh.lst, Sh.lst, Sh.lst, Sh.lst, Sh.lst]).fits shapesP = true := rfl
theorem sh_0 : (shapesP.c 0).toStr = [109] := rfl
theorem sh_1 : (shapesP.c 1).toInt = 1 := rfl
theorem sh_2 : (shapesP.c 2).toLst = [] := rfl
theorem sh_3 : (shapesP.c 3).toLst = sD := rfl
theorem sh_4 : (shapesP.c 4).toLst = [] := rfl
theorem sh_5 : (shapesP.c 5).toLst = [] := rfl
theorem sh_6 : (shapesP.c 6).toLst = [] := rfl
theorem sh_7 : (shapesP.c 7).toLst = sA := rfl
theorem sD_len : ((sD.length : Int) != (2 : Int)) = false := rfl
def PP : PV := .agg [.str [109], .int .i64 1, .lst [], .lst sD, .lst [], .lst [], .lst [], .lst sA]

theorem cut_ok (m : Nat) (ks : List Int) : (decide (0 ≤ (bif decide ((m : Int) < ((iE ks).length : Int)) then (m : Int) else ((iE ks).length : Int))) && decide ((bif decide ((m : Int) < ((iE ks).length : Int)) then (m : Int) else ((iE ks).length : Int)) ≤ ((iE ks).length : Int))) = true := by
  by_cases h : (m : Int) < ((iE ks).length : Int)
  · rw [dT h, cond_true, Bool.and_eq_true]; exact ⟨decide_eq_true (by omega), decide_eq_true (by omega)⟩
  · rw [dF h, cond_false, Bool.and_eq_true]; exact ⟨decide_eq_true (by omega), decide_eq_true (by omega)⟩

theorem l4a (vs : List PV) (ks : List Int) : ∀ (rest : List Int) (k : Nat) (done : List Pa), (ks.take 7).drop k = rest → done.length = k → k ≤ (ks.take 7).length → Made done →
    ∃ L : List Pa, L4_1111014 vs (done.map Pa.enc) (iE ks) (k : Int) [109] 1 [] sD [] [] [] sA = L4_1111014 vs (L.map Pa.enc) (iE ks) ((ks.take 7).length : Int) [109] 1 [] sD [] [] [] sA ∧ L.length = (ks.take 7).length ∧ Made L
  | [], k, done, hk, hd, hle, hm => by
    have h1 := congrArg List.length hk
    rw [List.length_drop, List.length_nil] at h1
    have hkl : k = (ks.take 7).length := by omega
    exact ⟨done, by rw [← hkl], by rw [hd, hkl], hm⟩
  | a :: rest, k, done, hk, hd, hle, hm => by
    have A := atK_map (f := PV.int .i64) hk (by simp [maxLen]; omega)
    have A' := atK hk (by simp [maxLen]; omega)
    obtain ⟨q, g1, g2, g3⟩ := v8 a
    obtain ⟨L, k1, k2, k3⟩ := l4a vs ks rest (k + 1) (done ++ [q]) A'.drop (by simp [hd]) A'.ltn (made_snoc hm g2 g3)
    have hsm : small (done.map Pa.enc).length 1 56 = true := small_of (by have := A'.ltn; simp at this ⊢; omega)
    refine ⟨L, ?_, k2, k3⟩
    rw [e4_1111014]
    rw [show ((iE ks).take (bif decide ((7 : Int) < ((iE ks).length : Int)) then (7 : Int) else ((iE ks).length : Int)).toNat) = iE (ks.take 7) from cut_take 7 ks]
    unfold iE at k1 ⊢
    simp only [A.lt, A.ge, A.get, A.next, cond_true, Option.bind_some, fits_i64, toInt_int, g1, retPV_pv, pa_fits, pa_eta, hsm]
    rw [show done.map Pa.enc ++ [q.enc] = (done ++ [q]).map Pa.enc by simp]
    exact k1
theorem l3a (k0 more : Int) (ks : List Int) : ∀ (rest : List Int) (k : Nat) (done : List Pa), (ks.take 6).drop k = rest → done.length = k → k ≤ (ks.take 6).length → Made done →
    ∃ L : List Pa, L3_1111014 k0 more (done.map Pa.enc) (iE ks) (k : Int) [109] 1 [] sD [] [] [] sA = L3_1111014 k0 more (L.map Pa.enc) (iE ks) ((ks.take 6).length : Int) [109] 1 [] sD [] [] [] sA ∧ L.length = (ks.take 6).length ∧ Made L
  | [], k, done, hk, hd, hle, hm => by
    have h1 := congrArg List.length hk
    rw [List.length_drop, List.length_nil] at h1
    have hkl : k = (ks.take 6).length := by omega
    exact ⟨done, by rw [← hkl], by rw [hd, hkl], hm⟩
  | a :: rest, k, done, hk, hd, hle, hm => by
    have A := atK_map (f := PV.int .i64) hk (by simp [maxLen]; omega)
    have A' := atK hk (by simp [maxLen]; omega)
    obtain ⟨q, g1, g2, g3⟩ := v8 a
    obtain ⟨L, k1, k2, k3⟩ := l3a k0 more ks rest (k + 1) (done ++ [q]) A'.drop (by simp [hd]) A'.ltn (made_snoc hm g2 g3)
    have hsm : small (done.map Pa.enc).length 1 56 = true := small_of (by have := A'.ltn; simp at this ⊢; omega)
    refine ⟨L, ?_, k2, k3⟩
    rw [e3_1111014]
    rw [show ((iE ks).take (bif decide ((6 : Int) < ((iE ks).length : Int)) then (6 : Int) else ((iE ks).length : Int)).toNat) = iE (ks.take 6) from cut_take 6 ks]
    unfold iE at k1 ⊢
    simp only [A.lt, A.ge, A.get, A.next, cond_true, Option.bind_some, fits_i64, toInt_int, g1, retPV_pv, pa_fits, pa_eta, hsm]
    rw [show done.map Pa.enc ++ [q.enc] = (done ++ [q]).map Pa.enc by simp]
    exact k1
theorem l5a  (ks : List Int) : ∀ (rest : List Int) (k : Nat) (done : List Pa), (ks.take 6).drop k = rest → done.length = k → k ≤ (ks.take 6).length → Made done →
    ∃ L : List Pa, L5_1111014 (done.map Pa.enc) (iE ks) (k : Int) [109] 1 [] sD [] [] [] sA = L5_1111014 (L.map Pa.enc) (iE ks) ((ks.take 6).length : Int) [109] 1 [] sD [] [] [] sA ∧ L.length = (ks.take 6).length ∧ Made L
  | [], k, done, hk, hd, hle, hm => by
    have h1 := congrArg List.length hk
    rw [List.length_drop, List.length_nil] at h1
    have hkl : k = (ks.take 6).length := by omega
    exact ⟨done, by rw [← hkl], by rw [hd, hkl], hm⟩
  | a :: rest, k, done, hk, hd, hle, hm => by
    have A := atK_map (f := PV.int .i64) hk (by simp [maxLen]; omega)
    have A' := atK hk (by simp [maxLen]; omega)
    obtain ⟨q, g1, g2, g3⟩ := v8 a
    obtain ⟨L, k1, k2, k3⟩ := l5a  ks rest (k + 1) (done ++ [q]) A'.drop (by simp [hd]) A'.ltn (made_snoc hm g2 g3)
    have hsm : small (done.map Pa.enc).length 1 56 = true := small_of (by have := A'.ltn; simp at this ⊢; omega)
    refine ⟨L, ?_, k2, k3⟩
    rw [e5_1111014]
    rw [show ((iE ks).take (bif decide ((6 : Int) < ((iE ks).length : Int)) then (6 : Int) else ((iE ks).length : Int)).toNat) = iE (ks.take 6) from cut_take 6 ks]
    unfold iE at k1 ⊢
    simp only [A.lt, A.ge, A.get, A.next, cond_true, Option.bind_some, fits_i64, toInt_int, g1, retPV_pv, pa_fits, pa_eta, hsm]
    rw [show done.map Pa.enc ++ [q.enc] = (done ++ [q]).map Pa.enc by simp]
    exact k1

/-! ### CoverValues -/
theorem fit_first {L : List Pa} {v : Pa} {j : Nat} (h : L.findIdx? (fun q => q.fit v) = some j) : ∃ q, L[j]? = some q ∧ q.fit v = true ∧ ∀ p, p ∈ L.take j → p.fit v = false := by
  obtain ⟨h1, h2, h3⟩ := List.findIdx?_eq_some_iff_getElem.1 h
  refine ⟨L[j], List.getElem?_eq_getElem h1, h2, fun p hp => ?_⟩
  obtain ⟨i, hi, rfl⟩ := List.mem_iff_getElem.1 hp
  have hij : i < j := by simp at hi; omega
  have := h3 i hij
  rw [List.getElem_take]
  simpa using this
theorem l4b (L : List Pa) (hl : L.length ≤ 100) (hm : Made L) (miss : Bool) (hmiss : miss = true ↔ Lacks L) (vs : List Int) (hv : vs.length ≤ maxLen) : ∀ (rest : List Int) (k : Nat), vs.drop k = rest → L4_1111111014 (L.map Pa.enc) miss (iE (uz [] L)) (iE vs) (k : Int) = some (.pv (.bool true), [])
  | [], k, hk => by rw [e4_1111111014]; unfold iE; rw [endK_map hk]; rfl
  | a :: rest, k, hk => by
    have A := atK_map (f := PV.int .i64) hk hv
    have A' := atK hk hv
    have ih := l4b L hl hm miss hmiss vs hv rest (k + 1) A'.drop
    obtain ⟨v, g1, g2⟩ := v13 a
    have h14 := v14 (f := 15) (c := [.ptr [.int .i64 v.kind, .int .i64 v.num, .str v.text, .lst (v.args.map Pa.enc)]]) (pred := fun q => q.fit v) (col := L) (fun p hp => v15 p .pair (hm p hp).1 v) (by omega)
    have hul : (uz [] L).length ≤ 1000 := by
      have : ∀ (l pre : List Pa), (uz pre l).length ≤ l.length := fun l => by
        induction l with
        | nil => intro pre; simp [uz]
        | cons q l ih => intro pre; rw [uz]; have := ih (pre ++ [q]); split <;> simp <;> omega
      have := this L []
      omega
    rw [e4_1111111014]
    have Alt : decide ((k : Int) < ((iE vs).length : Int)) = true := A.lt
    have Aget : (iE vs)[(k : Int).toNat]? = some (.int .i64 a) := A.get
    simp only [Alt, A.ge, Aget, A.next, cond_true, Option.bind_some, fits_i64, toInt_int, g1, retPV_pv, pa_fits]
    simp only [pa_0, pa_1, pa_2, pa_3, h14, Option.bind_some, retPV_pv, fits_i64, toInt_int, cond_true]
    cases hf : L.findIdx? (fun q => q.fit v) with
    | none =>
      have hmt : miss = true := hmiss.2 ⟨v, g2, fun q hq => by
        rw [List.findIdx?_eq_none_iff] at hf
        simpa using hf q hq⟩
      rw [hmt] at ih ⊢
      have h1 : decide (idxI none < (0 : Int)) = true := rfl
      have h2 : decide (idxI none ≥ (0 : Int)) = false := rfl
      simp only [h1, h2, Bool.not_true, cond_true, cond_false]
      exact ih
    | some j =>
      obtain ⟨q, q1, q2, q3⟩ := fit_first hf
      have hnu : ¬ ((j : Nat) : Int) ∈ uz [] L := by
        rw [uz_mem L j q q1]
        exact fun h => h ⟨v, g2, q2, q3⟩
      have h1 : decide (idxI (some j) < (0 : Int)) = false := by unfold idxI; exact dF (by simp)
      have h2 : decide (idxI (some j) ≥ (0 : Int)) = true := by unfold idxI; exact dT (by simp)
      have h3 : V 17 [.pv (.lst (iE (uz [] L))), .pv (.int .i64 (idxI (some j)))] = some (.pv (.bool false), []) := by
        rw [v17 _ _ hul, decide_eq_false (show ¬ idxI (some j) ∈ uz [] L from hnu)]
      simp only [h1, h2, h3, cond_true, cond_false, Option.bind_some, retPV_pv, fits_bool, toBool_bool]
      exact ih
theorem PP_eq : PV.agg [.str [109], .int .i64 1, .lst [], .lst sD, .lst [], .lst [], .lst [], .lst sA] = shapesP := rfl
theorem bnd {L : List Pa} {m : Nat} (h : Made L) (hl : L.length ≤ m) (hm : m ≤ 9) : 2 * cntS L + 1 ≤ 181 := by
  have := made_cnt h; omega
theorem law4 (ks vs : List Int) (hv : vs.length ≤ maxLen) : V 4 [.pv (.lst (iE ks)), .pv (.lst (iE vs))] = some (.pv (.bool true), []) := by
  rw [e4]
  obtain ⟨L, k1, k2, k3⟩ := l4a (iE vs) ks (ks.take 7) 0 [] rfl rfl (Nat.zero_le _) (fun q hq => absurd hq List.not_mem_nil)
  have hl : L.length ≤ 7 := by rw [k2]; simp; omega
  simp only [v6', Option.bind_some, retPV_pv, sh_fits, cond_true, v7, fits_bool, toBool_bool, Bool.not_true, cond_false, sh_0, sh_1, sh_2, sh_3, sh_4, sh_5, sh_6, sh_7, sD_len, headOk_iE]
  have hco := cut_ok 7 ks
  rw [show ((7 : Nat) : Int) = 7 from rfl] at hco
  rw [hco, cond_true]
  rw [show L4_1111014 (iE vs) [] (iE ks) 0 [109] 1 [] sD [] [] [] sA = _ from k1, e4_1111014]
  rw [show ((iE ks).take (bif decide ((7 : Int) < ((iE ks).length : Int)) then (7 : Int) else ((iE ks).length : Int)).toNat) = iE (ks.take 7) from cut_take 7 ks]
  have hend : decide (((ks.take 7).length : Int) < ((iE (ks.take 7)).length : Int)) = false := endK_map (show (ks.take 7).drop (ks.take 7).length = [] by simp)
  rw [hend, cond_false]
  have hb := bnd k3 hl (by omega)
  obtain ⟨o, g1, g2, g3⟩ := v9 (l := L) (by omega) (fun q hq => (k3 q hq).1) (by omega)
  have h11 := v11 (l := L) (by omega) (fun q hq => (k3 q hq).1) (by omega)
  rw [PP_eq]
  simp only [g1, Option.bind_some, retPV_pv, fits_tup, fitsL_cons, fitsL_nil, pa_fits, fits_bool, Bool.not_false, Bool.true_or, Bool.and_true, cond_true, h11, retPV_bld, fits_lstS, toLst_lst, r_zero, r_succ, toBool_bool]
  exact l4b L (by omega) k3 o.isSome g2 vs hv vs 0 rfl

/-! ### CoverWhole -/
theorem uz_len : ∀ (l pre : List Pa), (uz pre l).length ≤ l.length
  | [], pre => by simp [uz]
  | q :: l, pre => by rw [uz]; have := uz_len l (pre ++ [q]); split <;> simp <;> omega
theorem snoc_mem {L : List Pa} {q : Pa} (h : ∀ p, p ∈ L → p.ok .pair) (hq : q.ok .pair) : ∀ p, p ∈ L ++ [q] → p.ok .pair := by
  intro p hp
  rcases List.mem_append.1 hp with hp | hp
  · exact h p hp
  · simp at hp; subst hp; exact hq
theorem uz_snoc (L : List Pa) (q : Pa) : ((L.length : Nat) : Int) ∈ uz [] (L ++ [q]) ↔ ¬ Use L q := by
  have := uz_mem (L ++ [q]) L.length q (by simp)
  rw [this]
  simp
theorem law5 (ks : List Int) : V 5 [.pv (.lst (iE ks))] = some (.pv (.bool true), []) := by
  rw [e5]
  obtain ⟨L, k1, k2, k3⟩ := l5a ks (ks.take 6) 0 [] rfl rfl (Nat.zero_le _) (fun q hq => absurd hq List.not_mem_nil)
  have hl : L.length ≤ 6 := by rw [k2]; simp; omega
  simp only [v6', Option.bind_some, retPV_pv, sh_fits, cond_true, v7, fits_bool, toBool_bool, Bool.not_true, cond_false, sh_0, sh_1, sh_2, sh_3, sh_4, sh_5, sh_6, sh_7, sD_len, headOk_iE]
  have hco := cut_ok 6 ks
  rw [show ((6 : Nat) : Int) = 6 from rfl] at hco
  rw [hco, cond_true]
  rw [show L5_1111014 [] (iE ks) 0 [109] 1 [] sD [] [] [] sA = _ from k1, e5_1111014]
  rw [show ((iE ks).take (bif decide ((6 : Int) < ((iE ks).length : Int)) then (6 : Int) else ((iE ks).length : Int)).toNat) = iE (ks.take 6) from cut_take 6 ks]
  have hend : decide (((ks.take 6).length : Int) < ((iE (ks.take 6)).length : Int)) = false := endK_map (show (ks.take 6).drop (ks.take 6).length = [] by simp)
  rw [hend, cond_false]
  have hb := bnd k3 hl (by omega)
  have hok : ∀ q, q ∈ L → q.ok .pair := fun q hq => (k3 q hq).1
  obtain ⟨o, g1, g2, g3⟩ := v9 (l := L) (by omega) hok (by omega)
  rw [PP_eq]
  have hlen : ((L.map Pa.enc).length : Int) = ((L.length : Nat) : Int) := by simp
  have hsm : small (L.map Pa.enc).length 1 56 = true := small_of (by simp; omega)
  simp only [g1, Option.bind_some, retPV_pv, fits_tup, fitsL_cons, fitsL_nil, pa_fits, fits_bool, Bool.not_false, Bool.true_or, Bool.and_true, cond_true, r_zero, r_succ, toBool_bool, hlen, v10 L (by omega), retB_bld, hsm, pa_eta]
  cases o with
  | none =>
    have hany : anyP.ok .pair := by unfold Pa.ok; exact .inl ⟨.inl rfl, rfl⟩
    have hc : cntS (L ++ [anyP]) = cntS L := by rw [cntS_append, cntS_cons]; show cntS L + (0 + 0) = _; omega
    have h11 := v11 (l := L ++ [anyP]) (by simp; omega) (snoc_mem hok hany) (by omega)
    rw [show (L ++ [anyP]).map Pa.enc = L.map Pa.enc ++ [.agg [.int .i64 1, .int .i64 0, .str [], .lst []]] by simp; rfl] at h11
    have hin : ((L.length : Nat) : Int) ∈ uz [] (L ++ [anyP]) := by
      rw [uz_snoc]
      rintro ⟨v, h1, h2, h3⟩
      have := g2.2 ⟨v, h1, h3⟩
      cases this
    have h17 := v17 ((L.length : Nat) : Int) (uz [] (L ++ [anyP])) (by have := uz_len (L ++ [anyP]) []; simp at this; omega)
    rw [decide_eq_true hin] at h17
    simp only [Option.isSome_none, Bool.not_false, cond_true, h11, Option.bind_some, retPV_bld, fits_lstS, toLst_lst, h17, retPV_pv, fits_bool, toBool_bool]
  | some q =>
    obtain ⟨o1, o2, o3, v0, o4, o5⟩ := g3 q rfl
    have hokm := snoc_mem hok o1
    have hc : cntS (L ++ [q]) = cntS L + q.cnt := by rw [cntS_append, cntS_cons]; show cntS L + (q.cnt + 0) = _; omega
    have hcc : 2 * cntS (L ++ [q]) + 1 ≤ 990 := by omega
    have h11 := v11 (l := L ++ [q]) (by simp; omega) hokm hcc
    obtain ⟨o', m1, m2, m3⟩ := v9 (l := L ++ [q]) (by simp; omega) hokm hcc
    rw [show (L ++ [q]).map Pa.enc = L.map Pa.enc ++ [q.enc] by simp] at h11 m1
    have hin : ¬ ((L.length : Nat) : Int) ∈ uz [] (L ++ [q]) := by
      rw [uz_snoc]
      exact fun h => h ⟨v0, o4, o5, o3 v0 o4 o5⟩
    have h17 := v17 ((L.length : Nat) : Int) (uz [] (L ++ [q])) (by have := uz_len (L ++ [q]) []; simp at this; omega)
    rw [decide_eq_false hin] at h17
    simp only [Option.isSome_some, Bool.not_true, cond_false, Option.getD_some, pa_eta, m1, h11, Option.bind_some, retPV_pv, retPV_bld, fits_lstS, toLst_lst, fits_tup, fitsL_cons, fitsL_nil, pa_fits, fits_bool, Bool.not_false, Bool.true_or, Bool.and_true, cond_true, r_zero, r_succ, toBool_bool, h17]
    cases o' with
    | none => rfl
    | some x =>
      obtain ⟨x1, x2, x3, v1, x4, x5⟩ := m3 x rfl
      obtain ⟨c, c1, c2⟩ := v18 x .pair x1 q
      have hcf : c = false := by
        cases c with
        | false => rfl
        | true =>
          have e := c2 rfl
          have := x3 v1 x4 x5 q (by simp)
          rw [← e, x5] at this
          cases this
      subst hcf
      simp only [Option.isSome_some, Bool.not_true, cond_false, Option.getD_some, pa_eta, c1, Option.bind_some, retPV_pv, fits_bool, cond_true, toBool_bool, Bool.not_false]

/-! ### CoverMore -/
theorem last_snoc (a : List Int) (n : Int) : (iE (a ++ [n])).length = a.length + 1 := by simp [iE]
theorem law3 (ks : List Int) (k0 more : Int) : V 3 [.pv (.lst (iE ks)), .pv (.int .i64 k0), .pv (.int .i64 more)] = some (.pv (.bool true), []) := by
  rw [e3]
  obtain ⟨L, k1, k2, k3⟩ := l3a k0 more ks (ks.take 6) 0 [] rfl rfl (Nat.zero_le _) (fun q hq => absurd hq List.not_mem_nil)
  have hl : L.length ≤ 6 := by rw [k2]; simp; omega
  simp only [v6', Option.bind_some, retPV_pv, sh_fits, cond_true, v7, fits_bool, toBool_bool, Bool.not_true, cond_false, sh_0, sh_1, sh_2, sh_3, sh_4, sh_5, sh_6, sh_7, sD_len, headOk_iE]
  have hco := cut_ok 6 ks
  rw [show ((6 : Nat) : Int) = 6 from rfl] at hco
  rw [hco, cond_true]
  rw [show L3_1111014 k0 more [] (iE ks) 0 [109] 1 [] sD [] [] [] sA = _ from k1, e3_1111014]
  rw [show ((iE ks).take (bif decide ((6 : Int) < ((iE ks).length : Int)) then (6 : Int) else ((iE ks).length : Int)).toNat) = iE (ks.take 6) from cut_take 6 ks]
  have hend : decide (((ks.take 6).length : Int) < ((iE (ks.take 6)).length : Int)) = false := endK_map (show (ks.take 6).drop (ks.take 6).length = [] by simp)
  rw [hend, cond_false]
  obtain ⟨q, q1, q2, q3⟩ := v8 k0
  obtain ⟨p, p1, p2, p3⟩ := v8 more
  have hm1 := made_snoc k3 q2 q3
  have hm2 := made_snoc hm1 p2 p3
  have hb := bnd k3 hl (by omega)
  have hb1 := bnd (m := 7) hm1 (by simp; omega) (by omega)
  have hb2 := bnd (m := 8) hm2 (by simp; omega) (by omega)
  obtain ⟨o, g1, g2, _⟩ := v9 (l := L) (by omega) (fun q hq => (k3 q hq).1) (by omega)
  obtain ⟨o', m1, m2, _⟩ := v9 (l := L ++ [q]) (by simp; omega) (fun q hq => (hm1 q hq).1) (by omega)
  have h11 := v11 (l := L ++ [q]) (by simp; omega) (fun q hq => (hm1 q hq).1) (by omega)
  have h11' := v11 (l := L ++ [q] ++ [p]) (by simp; omega) (fun q hq => (hm2 q hq).1) (by omega)
  have hc1 := v10 L (by omega)
  have hc2 := v10 (L ++ [q]) (by simp; omega)
  have hs1 : (L ++ [q]).map Pa.enc = L.map Pa.enc ++ [q.enc] := by simp
  have hs2 : (L ++ [q] ++ [p]).map Pa.enc = L.map Pa.enc ++ [q.enc] ++ [p.enc] := by simp
  rw [hs1] at m1 h11 hc2
  rw [hs2] at h11'
  have hsm : small (L.map Pa.enc).length 1 56 = true := small_of (by simp; omega)
  have hsm2 : small (L.map Pa.enc ++ [q.enc]).length 1 56 = true := small_of (by simp; omega)
  rw [PP_eq]
  simp only [g1, Option.bind_some, retPV_pv, fits_tup, fitsL_cons, fitsL_nil, pa_fits, fits_bool, Bool.not_false, Bool.true_or, Bool.and_true, cond_true, r_zero, r_succ, toBool_bool, hc1, retB_bld, q1, pa_eta, hsm, m1, h11, retPV_bld, fits_lstS, toLst_lst, hc2, p1, hsm2, h11']
  have fin : L3_111111111116 o.isSome o'.isSome (iE (uz [] (L ++ [q]))) (iE (uz [] (L ++ [q]))) = some (.pv (.bool true), []) := by
    have h12 := v12 (uz [] (L ++ [q])) (by have := uz_len (L ++ [q]) []; simp at this; omega)
    rw [e3_111111111116, h12]
    cases hom : o.isSome with
    | true => rfl
    | false =>
      have : o'.isSome = false := by
        cases ho' : o'.isSome with
        | false => rfl
        | true =>
          obtain ⟨v, w1, w2⟩ := m2.1 ho'
          have := g2.2 ⟨v, w1, fun r hr => w2 r (by simp [hr])⟩
          rw [hom] at this; cases this
      rw [this]
      rfl
  have hlenL : ((L.map Pa.enc ++ [q.enc]).length : Int) = ((L ++ [q]).length : Int) := by simp
  have huz : uz [] (L ++ [q] ++ [p]) = uz [] (L ++ [q]) ++ uz (L ++ [q]) [p] := by rw [uz_append]; rfl
  have hu1 : uz (L ++ [q]) [p] = [] ∨ uz (L ++ [q]) [p] = [((L ++ [q]).length : Int)] := by
    simp only [uz]
    split
    · exact .inl rfl
    · right; simp
  rw [huz, hlenL]
  have hulen : (uz [] (L ++ [q])).length ≤ 7 := by have := uz_len (L ++ [q]) []; simp at this; omega
  have hlt := uz_lt (L ++ [q]) []
  generalize uz [] (L ++ [q]) = a at fin hulen hlt ⊢
  have lastIs : ∀ (b : List Int) (n : Int), b.length ≤ 7 → L3_1111111111016 o.isSome o'.isSome (iE a) (iE (b ++ [n])) true = L3_111111111116 o.isSome o'.isSome (iE a) (iE b) := fun b n hbl => by
    have hw : IntKind.i64.wrap (((iE (b ++ [n])).length : Int) - 1) = ((b.length : Nat) : Int) := by
      rw [last_snoc, wrap_i64 (by omega) (by omega)]; simp
    rw [e3_1111111111016]
    rw [headOk_iE, hw]
    have hd : (decide (0 ≤ ((b.length : Nat) : Int)) && decide (((b.length : Nat) : Int) ≤ ((iE (b ++ [n])).length : Int))) = true := by
      rw [last_snoc, Bool.and_eq_true]; exact ⟨decide_eq_true (by omega), decide_eq_true (by omega)⟩
    rw [hd]
    simp only [cond_true]
    congr 1
    simp [iE]
  have getLast : ∀ (b : List Int) (n : Int), b.length ≤ 7 → (iE (b ++ [n]))[(IntKind.i64.wrap (((iE (b ++ [n])).length : Int) - 1)).toNat]? = some (.int .i64 n) ∧ decide (0 ≤ IntKind.i64.wrap (((iE (b ++ [n])).length : Int) - 1)) = true ∧ decide (((iE (b ++ [n])).length : Int) > 0) = true := fun b n hbl => by
    have hw : IntKind.i64.wrap (((iE (b ++ [n])).length : Int) - 1) = ((b.length : Nat) : Int) := by
      rw [last_snoc, wrap_i64 (by omega) (by omega)]; simp
    rw [hw]
    refine ⟨by simp [iE], decide_eq_true (by omega), decide_eq_true (by rw [last_snoc]; omega)⟩
  rcases hu1 with h | h
  · rw [h, List.append_nil]
    rcases List.eq_nil_or_concat a with rfl | ⟨b, n, rfl⟩
    · have h0 : decide (((iE ([] : List Int)).length : Int) > 0) = false := rfl
      rw [h0, cond_false, e3_1111111111016, cond_false]
      exact fin
    · rw [List.concat_eq_append] at *
      have hbl : b.length ≤ 7 := by simp at hulen; omega
      obtain ⟨x1, x2, x3⟩ := getLast b n hbl
      have hne : (n == ((L ++ [q]).length : Int)) = false := by
        have := (hlt n (by simp)).2
        simp at this ⊢; omega
      simp only [x3, x2, x1, cond_true, Option.bind_some, fits_i64, toInt_int, hne]
      rw [e3_1111111111016, cond_false]
      exact fin
  · rw [h]
    obtain ⟨x1, x2, x3⟩ := getLast a ((L ++ [q]).length : Int) hulen
    simp only [x3, x2, x1, cond_true, Option.bind_some, fits_i64, toInt_int, beq_self_eq_true]
    rw [lastIs a _ hulen]
    exact fin
end Go.AL.S11
