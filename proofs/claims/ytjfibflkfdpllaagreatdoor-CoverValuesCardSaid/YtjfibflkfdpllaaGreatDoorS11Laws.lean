/- Missing, Useless; the three laws of coverage. -/
import Derived.Test.YtjfibflkfdpllaaGreatDoorS11Pair
import Derived.Test.YtjfibflkfdpllaaGreatDoorS11ED
set_option linter.unusedVariables false
set_option linter.unusedSimpArgs false
set_option maxRecDepth 100000
namespace Go.AL.S11
open Go Go.AL

/-! ### The same pattern -/
theorem l25 (A B : List Pa) (hl : A.length ≤ 1000) (hlen : A.length = B.length) (ih : ∀ a, a ∈ A → ∀ v : Pa, ∃ c, V 18 [.pv a.enc, .pv v.enc] = some (.pv (.bool c), []) ∧ (c = true → a = v)) :
    ∀ (rest rv : List Pa) (k : Nat), A.drop k = rest → B.drop k = rv → ∃ c, L25_11014 (B.map Pa.enc) 18 [] (A.map Pa.enc) (k : Int) = some (.pv (.bool c), []) ∧ (c = true → rest = rv)
  | [], rv, k, hk, hv => by
    refine ⟨true, by rw [e25_11014, endK_map hk]; rfl, fun _ => ?_⟩
    have h1 := congrArg List.length hk
    have h2 := congrArg List.length hv
    simp at h1 h2
    exact (List.length_eq_zero_iff.1 (by omega)).symm
  | a :: rest, rv, k, hk, hv => by
    have A1 := atK_map (f := Pa.enc) hk (by simp [maxLen]; omega)
    have A' := atK hk (by simp [maxLen]; omega)
    cases rv with
    | nil =>
      have h1 := congrArg List.length hk
      have h2 := congrArg List.length hv
      simp at h1 h2; omega
    | cons v rv =>
      have B1 := atK_map (f := Pa.enc) hv (by simp [maxLen]; omega)
      have B' := atK hv (by simp [maxLen]; omega)
      obtain ⟨c, g1, g2⟩ := ih a (List.mem_of_getElem? A'.get') v
      obtain ⟨d, k1, k2⟩ := l25 A B hl hlen ih rest rv (k + 1) A'.drop B'.drop
      have g1' : V 18 ((([a.enc, v.enc] : List PV) ++ []).map .pv) = some (.pv (.bool c), []) := g1
      rw [e25_11014]
      simp only [A1.lt, A1.ge, A1.get, B1.get, A1.next, cond_true, Option.bind_some, pa_fits, pa_eta, g1', retPV_pv, fits_bool, toBool_bool]
      cases c with
      | false => exact ⟨false, rfl, fun h => by cases h⟩
      | true => simp only [Bool.not_true, cond_false]; exact ⟨d, k1, fun h => by rw [g2 rfl, k2 h]⟩
theorem v18 (p : Pa) : ∀ τ, p.ok τ → ∀ v : Pa, ∃ c, V 18 [.pv p.enc, .pv v.enc] = some (.pv (.bool c), []) ∧ (c = true → p = v) := by
  refine Pa.indL (Q := fun p => ∀ τ, p.ok τ → ∀ v : Pa, ∃ c, V 18 [.pv p.enc, .pv v.enc] = some (.pv (.bool c), []) ∧ (c = true → p = v)) (fun p ih τ hp v => ?_) p
  have ih' : ∀ a, a ∈ p.args → ∀ v : Pa, ∃ c, V 18 [.pv a.enc, .pv v.enc] = some (.pv (.bool c), []) ∧ (c = true → a = v) := fun a ha v => by
    obtain ⟨σ, hσ⟩ := ok_parts hp a ha
    exact ih a ha σ hσ v
  have hargs := ok_args hp
  rw [pa_enc p, pa_enc v, e18]
  cases h1 : (p.kind == v.kind) with
  | false => exact ⟨false, rfl, fun h => by cases h⟩
  | true =>
    cases h2 : (p.num == v.num) with
    | false => exact ⟨false, rfl, fun h => by cases h⟩
    | true =>
      cases h3 : (p.text == v.text) with
      | false => exact ⟨false, rfl, fun h => by cases h⟩
      | true =>
        simp only [cond_true, e25]
        have hlen : (((p.args.map Pa.enc).length : Int) == ((v.args.map Pa.enc).length : Int)) = (p.args.length == v.args.length) := by
          have e : ((p.args.map Pa.enc).length : Int) == ((v.args.map Pa.enc).length : Int) ↔ p.args.length == v.args.length := by simp; omega
          exact Bool.eq_iff_iff.2 e
        simp only [bne, hlen]
        cases h4 : (p.args.length == v.args.length) with
        | false => exact ⟨false, rfl, fun h => by cases h⟩
        | true =>
          obtain ⟨c, g1, g2⟩ := l25 p.args v.args (by omega) (by simpa using h4) ih' p.args v.args 0 rfl rfl
          have g1' : L25_11014 (v.args.map Pa.enc) 18 [] (p.args.map Pa.enc) 0 = some (.pv (.bool c), []) := g1
          simp only [Bool.not_true, cond_false, g1', Option.bind_some, retPV_pv, fits_bool, cond_true, toBool_bool]
          refine ⟨c, rfl, fun h => ?_⟩
          rw [Pa.eta p, Pa.eta v, g2 h, beq_iff_eq.1 h1, beq_iff_eq.1 h2, beq_iff_eq.1 h3]

/-! ### Missing -/
def tab (l : List Pa) : List (List Pa) := l.map fun q => [q]
theorem tab_enc (l : List Pa) (q : Pa) : tE (tab l) ++ [.lst [q.enc]] = tE (tab (l ++ [q])) := by simp [tab, rE]
theorem l9 (l : List Pa) (hl : l.length ≤ 100) : ∀ (rest : List Pa) (k : Nat), l.drop k = rest → L9_11014 (tE (tab (l.take k))) (l.map Pa.enc) (k : Int) [109] 1 [] sD [] [] [] sA = L9_11014 (tE (tab l)) (l.map Pa.enc) (l.length : Int) [109] 1 [] sD [] [] [] sA
  | [], k, hk => by
    have h1 := congrArg List.length hk
    simp at h1
    have : l.take k = l := List.take_of_length_le (by omega)
    rw [this, e9_11014, endK_map hk]
    conv => rhs; rw [e9_11014, endK_map (show l.drop l.length = [] by simp)]
    simp only [cond_false]
  | q :: rest, k, hk => by
    have A := atK_map (f := Pa.enc) hk (by simp [maxLen]; omega)
    have A' := atK hk (by simp [maxLen]; omega)
    have ih := l9 l hl rest (k + 1) A'.drop
    have htk : l.take (k + 1) = l.take k ++ [q] := by rw [List.take_add_one, A'.get']; rfl
    have hsm : small (tE (tab (l.take k))).length 1 24 = true := small_of (by simp [tab]; omega)
    rw [← ih, e9_11014 (tE (tab (l.take k)))]
    simp only [A.lt, A.ge, A.get, A.next, cond_true, Option.bind_some, pa_fits, pa_eta, hsm, tab_enc, htk]
def cntS (l : List Pa) : Nat := cntT (tab l)
theorem cntS_cons (q : Pa) (l : List Pa) : cntS (q :: l) = q.cnt + cntS l := by simp [cntS, tab, cntT, Pa.cntL]
theorem cntS_append (l m : List Pa) : cntS (l ++ m) = cntS l + cntS m := by
  induction l with
  | nil => simp [cntS, tab, cntT]
  | cons q l ih => rw [List.cons_append, cntS_cons, cntS_cons, ih]; omega
theorem tab_ok {l : List Pa} (h : ∀ q, q ∈ l → q.ok .pair) : TOk4 (tab l) [.pair] := by
  intro r hr
  obtain ⟨q, hq, rfl⟩ := List.mem_map.1 hr
  exact ⟨h q hq, rfl⟩
/-- Something is missing: a value that no pattern fits. -/
def Lacks (l : List Pa) : Prop := ∃ v : Pa, v.vok .pair ∧ ∀ q, q ∈ l → q.fit v = false
def zeroP : Pa := .mk 0 0 [] []
theorem v9 {l : List Pa} (hl : l.length ≤ 100) (ho : ∀ q, q ∈ l → q.ok .pair) (hc : 2 * cntS l + 1 ≤ 990) :
    ∃ o : Option Pa, V 9 [.pv shapesP, .pv (.lst (l.map Pa.enc))] = some (.pv (.tup [(o.getD zeroP).enc, .bool o.isSome]), []) ∧ (o.isSome = true ↔ Lacks l) ∧
      ∀ q, o = some q → q.ok .pair ∧ q.cnt ≤ 2 * cntS l + 1 ∧ (∀ v : Pa, v.vok .pair → q.fit v = true → ∀ p, p ∈ l → p.fit v = false) ∧ ∃ v : Pa, v.vok .pair ∧ q.fit v = true := by
  obtain ⟨r, g1, g2⟩ := v22 (2 * cntS l + 1) [.pair] (tab l) (tab_ok ho) (Nat.le_refl _) hc (by simp [tab]; omega)
  have h9 := l9 l hl l 0 rfl
  have g1' : V 22 [.pv (.agg [.str [109], .int .i64 1, .lst [], .lst sD, .lst [], .lst [], .lst [], .lst sA]), .pv (.lst (tE (tab l))), .pv (.int .i64 1)] = some (rowOut r) := g1
  rw [shapesP_eq, e9]
  have h9' : L9_11014 [] (l.map Pa.enc) 0 [109] 1 [] sD [] [] [] sA = _ := h9
  rw [h9', e9_11014, endK_map (show l.drop l.length = [] by simp)]
  simp only [cond_false, g1', rowOut, Option.bind_some, retPV_pv, fits_tup, fitsL_cons, fitsL_nil, fits_bool, rE_fits, Bool.not_false, Bool.true_or, Bool.and_true, cond_true, r_zero, r_succ, toBool_bool]
  cases r with
  | none =>
    refine ⟨none, rfl, ?_, fun q h => by cases h⟩
    simp only [Option.isSome_none, Bool.false_eq_true, false_iff]
    rintro ⟨v, hv, hf⟩
    obtain ⟨m, hm, hfm⟩ := g2 [v] ⟨hv, rfl⟩
    obtain ⟨q, hq, rfl⟩ := List.mem_map.1 hm
    simp only [Pa.fits, hf q hq] at hfm
    cases hfm
  | some ps =>
    obtain ⟨q1, q2, q3, vs, q4, q5⟩ := g2
    obtain ⟨q, qs, rfl, o1, o2⟩ := oks_cons.1 q1
    obtain rfl := oks_nil.1 o2
    obtain ⟨v, vs', rfl, w1, w2⟩ := voks_cons.1 q4
    have hfv : q.fit v = true := by simpa [Pa.fits] using q5
    have hno : ∀ v : Pa, v.vok .pair → q.fit v = true → ∀ p, p ∈ l → p.fit v = false := fun v hv hf p hp => by
      have := q3 [v] ⟨hv, rfl⟩ (by simp [Pa.fits, hf]) [p] (List.mem_map.2 ⟨p, hp, rfl⟩)
      simpa [Pa.fits] using this
    refine ⟨some q, ?_, ?_, fun q' e => ?_⟩
    · have hz : ((rE [q]).toLst)[(0 : Int).toNat]? = some q.enc := rfl
      simp only [Option.isSome_some, Option.getD_some, Bool.not_true, cond_false, hz, Option.bind_some, pa_fits, cond_true, pa_eta]
    · simp only [Option.isSome_some, true_iff]
      exact ⟨v, w1, hno v w1 hfv⟩
    · obtain rfl := Option.some.inj e
      exact ⟨o1, by simpa [Pa.cntL] using q2, hno, v, w1, hfv⟩

/-! ### Useless -/
/-- The pattern fits some value that none ahead of it fits. -/
def Use (pre : List Pa) (q : Pa) : Prop := ∃ v : Pa, v.vok .pair ∧ q.fit v = true ∧ ∀ p, p ∈ pre → p.fit v = false
open Classical in
noncomputable def uz : List Pa → List Pa → List Int
  | pre, [] => []
  | pre, q :: rest => (if Use pre q then [] else [(pre.length : Int)]) ++ uz (pre ++ [q]) rest
def iE (l : List Int) : List PV := l.map (.int .i64)
theorem use_iff {pre : List Pa} {q : Pa} : UseS (tab pre) [q] [.pair] ↔ Use pre q := by
  constructor
  · rintro ⟨vs, h1, h2, h3⟩
    obtain ⟨v, vs', rfl, w1, w2⟩ := voks_cons.1 h1
    refine ⟨v, w1, by simpa [Pa.fits] using h2, fun p hp => ?_⟩
    simpa [Pa.fits] using h3 [p] (List.mem_map.2 ⟨p, hp, rfl⟩)
  · rintro ⟨v, h1, h2, h3⟩
    refine ⟨[v], ⟨h1, rfl⟩, by simp [Pa.fits, h2], fun m hm => ?_⟩
    obtain ⟨p, hp, rfl⟩ := List.mem_map.1 hm
    simp [Pa.fits, h3 p hp]
theorem l11 (l : List Pa) (hl : l.length ≤ 100) (ho : ∀ q, q ∈ l → q.ok .pair) (hc : 2 * cntS l + 1 ≤ 990) : ∀ (rest : List Pa) (k : Nat) (out : List Int), out.length ≤ k → l.drop k = rest → L11_111014 (tE (tab (l.take k))) (iE out) (l.map Pa.enc) (k : Int) [109] 1 [] sD [] [] [] sA = some (.bld 1 (iE (out ++ uz (l.take k) rest)), [])
  | [], k, out, hout, hk => by rw [e11_111014, endK_map hk]; simp [uz]
  | q :: rest, k, out, hout, hk => by
    have A := atK_map (f := Pa.enc) hk (by simp [maxLen]; omega)
    have A' := atK hk (by simp [maxLen]; omega)
    have hq : q ∈ l := List.mem_of_getElem? A'.get'
    have hkl := A'.ltn
    have htk : l.take (k + 1) = l.take k ++ [q] := by rw [List.take_add_one, A'.get']; rfl
    have hlt : (l.take k).length = k := by simp; omega
    have hcs : cntS (l.take k) + q.cnt ≤ cntS l := by
      have : l = l.take k ++ q :: rest := by rw [← hk, List.take_append_drop]
      have h2 : cntS l = cntS (l.take k) + (q.cnt + cntS rest) := by
        conv => lhs; rw [this]
        rw [cntS_append, cntS_cons]
      omega
    obtain ⟨b, g1, g2⟩ := v23 (2 * cntS l + 1) [.pair] (tab (l.take k)) [q] (tab_ok fun p hp => ho p (List.mem_of_mem_take hp)) ⟨ho q hq, rfl⟩ (by simp only [Pa.cntL, List.length_cons, List.length_nil]; show 2 * (cntS (l.take k) + (q.cnt + 0)) + (0 + 1) ≤ _; omega) hc (by simp [tab]; omega)
    rw [use_iff] at g2
    have g1' : V 23 [.pv (.agg [.str [109], .int .i64 1, .lst [], .lst sD, .lst [], .lst [], .lst [], .lst sA]), .pv (.lst (tE (tab (l.take k)))), .pv (.lst [q.enc])] = some (.pv (.bool b), []) := g1
    have hsm : small (tE (tab (l.take k))).length 1 24 = true := small_of (by simp [tab]; omega)
    have hsm2 : small (iE out).length 1 8 = true := small_of (by simp [iE]; omega)
    have next : ∀ out', out'.length ≤ k + 1 → L11_11101451104116 (tE (tab (l.take k))) (iE out') (l.map Pa.enc) (k : Int) [109] 1 [] sD [] [] [] sA ((q.enc.c 0).toInt) ((q.enc.c 1).toInt) ((q.enc.c 2).toStr) ((q.enc.c 3).toLst) = some (.bld 1 (iE (out' ++ uz (l.take (k + 1)) rest)), []) := fun out' h' => by
      have ih := l11 l hl ho hc rest (k + 1) out' h' A'.drop
      rw [e11_11101451104116, hsm, cond_true, A.next, pa_eta, tab_enc, ← htk]
      exact ih
    rw [e11_111014]
    simp only [A.lt, A.ge, A.get, cond_true, Option.bind_some, pa_fits, pa_eta, g1', retPV_pv, fits_bool, toBool_bool]
    have huz : uz (l.take k) (q :: rest) = (bif b then [] else [(k : Int)]) ++ uz (l.take (k + 1)) rest := by
      rw [uz, htk, hlt]
      congr 1
      cases b with
      | true => rw [if_pos (g2.1 rfl)]; rfl
      | false => rw [if_neg (fun h => by have := g2.2 h; cases this)]; rfl
    rw [huz]
    cases b with
    | true => simp only [Bool.not_true, cond_false, cond_true, List.nil_append]; exact next out (by omega)
    | false =>
      simp only [Bool.not_false, cond_true, cond_false, hsm2]
      have : iE out ++ [.int .i64 (k : Int)] = iE (out ++ [(k : Int)]) := by simp [iE]
      rw [this, ← List.append_assoc]
      exact next (out ++ [(k : Int)]) (by simp; omega)
theorem v11 {l : List Pa} (hl : l.length ≤ 100) (ho : ∀ q, q ∈ l → q.ok .pair) (hc : 2 * cntS l + 1 ≤ 990) : V 11 [.pv shapesP, .pv (.lst (l.map Pa.enc))] = some (.bld 1 (iE (uz [] l)), []) := by
  rw [shapesP_eq, e11]
  exact l11 l hl ho hc l 0 [] (Nat.zero_le _) rfl
theorem uz_append : ∀ (l m pre : List Pa), uz pre (l ++ m) = uz pre l ++ uz (pre ++ l) m
  | [], m, pre => by simp [uz]
  | q :: l, m, pre => by
    rw [List.cons_append, uz, uz, uz_append l m]
    simp
theorem uz_lt : ∀ (l pre : List Pa) (n : Int), n ∈ uz pre l → (pre.length : Int) ≤ n ∧ n < ((pre.length + l.length : Nat) : Int)
  | [], pre, n, h => by simp [uz] at h
  | q :: l, pre, n, h => by
    rw [uz] at h
    rcases List.mem_append.1 h with h | h
    · split at h
      · exact absurd h List.not_mem_nil
      · simp at h; subst h; simp; omega
    · have := uz_lt l (pre ++ [q]) n h
      simp at this ⊢; omega
open Classical in
theorem uz_mem (l : List Pa) (i : Nat) (q : Pa) (hi : l[i]? = some q) : ((i : Nat) : Int) ∈ uz [] l ↔ ¬ Use (l.take i) q := by
  have hlt := (List.getElem?_eq_some_iff.1 hi).1
  have hsplit : l = l.take i ++ q :: l.drop (i + 1) := by
    have h1 : l.drop i = q :: l.drop (i + 1) := by
      rw [List.drop_eq_getElem_cons hlt]; congr 1; rw [List.getElem?_eq_getElem hlt] at hi; exact Option.some.inj hi
    rw [← h1, List.take_append_drop]
  have hl : (l.take i).length = i := by simp; omega
  have hu : uz [] l = uz [] (l.take i) ++ ((if Use (l.take i) q then [] else [(i : Int)]) ++ uz (l.take i ++ [q]) (l.drop (i + 1))) := by
    conv => lhs; rw [hsplit]
    rw [uz_append, uz]
    simp only [List.nil_append, hl]
  rw [hu, List.mem_append, List.mem_append]
  constructor
  · rintro (h | h | h)
    · have := (uz_lt _ _ _ h).2; simp [hl] at this
    · split at h
      · exact absurd h List.not_mem_nil
      · assumption
    · have := (uz_lt _ _ _ h).1; simp [hl] at this; omega
  · intro h
    right; left
    rw [if_neg h]; simp

/-! ### Lists of numbers -/
theorem l12 (xs : List Int) (hl : xs.length ≤ 1000) : ∀ (rest : List Int) (k : Nat), xs.drop k = rest → L12_11014 (iE xs) (iE xs) (k : Int) = some (.pv (.bool true), [])
  | [], k, hk => by rw [e12_11014]; unfold iE; rw [endK_map hk]; rfl
  | a :: rest, k, hk => by
    have A := atK_map (f := PV.int .i64) hk (by simp [maxLen]; omega)
    have A' := atK hk (by simp [maxLen]; omega)
    have ih := l12 xs hl rest (k + 1) A'.drop
    unfold iE at ih ⊢
    rw [e12_11014]
    simp only [A.lt, A.ge, A.get, A.next, cond_true, Option.bind_some, fits_i64, toInt_int, bne_self_eq_false, cond_false]
    exact ih
theorem v12 (xs : List Int) (hl : xs.length ≤ 1000) : V 12 [.pv (.lst (iE xs)), .pv (.lst (iE xs))] = some (.pv (.bool true), []) := by
  rw [e12, bne_self_eq_false, cond_false]
  exact l12 xs hl xs 0 rfl
theorem l24 (v : Int) (xs : List Int) (hl : xs.length ≤ 1000) : ∀ (rest : List Int) (k : Nat), xs.drop k = rest → ∃ r, L24_1014 (iE xs) v (k : Int) = some (.pv (.int .i64 r), []) ∧ (0 ≤ r ↔ v ∈ rest)
  | [], k, hk => ⟨-1, by rw [e24_1014]; unfold iE; rw [endK_map hk]; rfl, by simp⟩
  | a :: rest, k, hk => by
    have A := atK_map (f := PV.int .i64) hk (by simp [maxLen]; omega)
    have A' := atK hk (by simp [maxLen]; omega)
    obtain ⟨r, g1, g2⟩ := l24 v xs hl rest (k + 1) A'.drop
    unfold iE at g1 ⊢
    rw [e24_1014]
    simp only [A.lt, A.ge, A.get, A.next, cond_true, Option.bind_some, fits_i64, toInt_int]
    cases h : (v == a) with
    | true => exact ⟨k, rfl, by have : v = a := by simpa using h
                                simp [this]⟩
    | false => exact ⟨r, g1, by have : ¬ v = a := by simpa using h
                                rw [g2]; simp [this]⟩
theorem v17 (v : Int) (xs : List Int) (hl : xs.length ≤ 1000) : V 17 [.pv (.lst (iE xs)), .pv (.int .i64 v)] = some (.pv (.bool (decide (v ∈ xs))), []) := by
  obtain ⟨r, g1, g2⟩ := l24 v xs hl xs 0 rfl
  have g1' : L24_1014 (iE xs) v 0 = _ := g1
  rw [e17, e24, g1']
  simp only [Option.bind_some, retPV_pv, fits_i64, toInt_int, cond_true]
  congr 4
  exact decide_eq_decide.2 g2
end Go.AL.S11
