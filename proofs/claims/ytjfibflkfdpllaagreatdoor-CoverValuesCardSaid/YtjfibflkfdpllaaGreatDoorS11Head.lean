/- The heads of a column, and what no pattern of a column has. -/
import Derived.Test.YtjfibflkfdpllaaGreatDoorS11Row
import Derived.Test.YtjfibflkfdpllaaGreatDoorS11EA
import Derived.Test.YtjfibflkfdpllaaGreatDoorS11EC
set_option linter.unusedVariables false
set_option linter.unusedSimpArgs false
set_option maxRecDepth 100000
namespace Go.AL.S11
open Go Go.AL

def sD : List PV := (shapesP.c 3).toLst
def sA : List PV := (shapesP.c 7).toLst
theorem shapesP_eq : shapesP = .agg [.str [109], .int .i64 1, .lst [], .lst sD, .lst [], .lst [], .lst [], .lst sA] := rfl
def hds (τ : Ty4) : List Pa := (sig τ).map (·.1)
theorem v49_Zero : V 49 [.pv shapesP, .pv (.str sZero)] = some (.bld 4 ((hds .nat).map Pa.enc), []) := (V_A pa 49 _).le 40 _ (by kernel_rfl)
theorem v49_Next : V 49 [.pv shapesP, .pv (.str sNext)] = some (.bld 4 ((hds .nat).map Pa.enc), []) := (V_A pa 49 _).le 40 _ (by kernel_rfl)
theorem v49_Pair : V 49 [.pv shapesP, .pv (.str sPair)] = some (.bld 4 ((hds .pair).map Pa.enc), []) := (V_A pa 49 _).le 40 _ (by kernel_rfl)
theorem v49_One : V 49 [.pv shapesP, .pv (.str sOne)] = some (.bld 4 ((hds .pair).map Pa.enc), []) := (V_A pa 49 _).le 40 _ (by kernel_rfl)
theorem v49 {τ : Ty4} {x : Pa × List Ty4} (hx : x ∈ sig τ) (h6 : x.1.kind = 6) : V 49 [.pv shapesP, .pv (.str x.1.text)] = some (.bld 4 ((hds τ).map Pa.enc), []) := by
  cases τ <;> simp only [sig, List.mem_cons, List.not_mem_nil, or_false] at hx
  · rcases hx with rfl | rfl
    · exact v49_Zero
    · exact v49_Next
  · rcases hx with rfl | rfl
    · exact v49_Pair
    · exact v49_One
  · rcases hx with rfl | rfl <;> simp [kind_mk] at h6
theorem sig_bool {τ : Ty4} {x : Pa × List Ty4} (hx : x ∈ sig τ) (h4 : x.1.kind = 4) : τ = .bool := by
  cases τ <;> simp only [sig, List.mem_cons, List.not_mem_nil, or_false] at hx <;> first | rfl | (rcases hx with rfl | rfl <;> simp [kind_mk] at h4)
/-- Heads, if there are some. -/
def hdO (τ : Ty4) (col : List Pa) : PV := bif col.all op then .nils else match τ with | .int => .nils | τ => .lst ((hds τ).map Pa.enc)
theorem l31 (τ : Ty4) (col : List Pa) (hc : ∀ p, p ∈ col → p.ok τ) (hl : col.length ≤ 1000) : ∀ (rest : List Pa) (k : Nat), col.drop k = rest → L31_1014 (col.map Pa.enc) (k : Int) [109] 1 [] sD [] [] [] sA = (some (.pv (hdO τ rest), []) : Option Out)
  | [], k, hk => by
    rw [e31_1014, endK_map hk]
    rfl
  | p :: rest, k, hk => by
    have A := atK_map (f := Pa.enc) hk (by simp [maxLen]; omega)
    have A' := atK hk (by simp [maxLen]; omega)
    have ih := l31 τ col hc hl rest (k + 1) A'.drop
    have hp := hc p (List.mem_of_getElem? A'.get')
    rw [e31_1014]
    simp only [A.lt, A.ge, A.get, A.next, cond_true, Option.bind_some, pa_fits, pa_0, pa_2]
    cases ho : op p with
    | true =>
      have h4 : (p.kind == 4) = false := by
        have : p.kind = 1 ∨ p.kind = 2 := by simpa [op] using ho
        rcases this with h | h <;> rw [h] <;> rfl
      have h6 : (p.kind == 6) = false := by
        have : p.kind = 1 ∨ p.kind = 2 := by simpa [op] using ho
        rcases this with h | h <;> rw [h] <;> rfl
      rw [h4, h6]
      simp only [cond_false]
      rw [ih]
      simp [hdO, ho]
    | false =>
      have hall : (p :: rest).all op = false := by simp [ho]
      rcases ok_heads hp ho with ⟨rfl, e⟩ | ⟨x, hx, e, hx2⟩
      · have hk3 : p.kind = 3 := by rw [e]; rfl
        rw [hk3]
        simp only [show ((3 : Int) == 4) = false from rfl, show ((3 : Int) == 6) = false from rfl, cond_false]
        rw [ih]
        unfold hdO
        cases rest.all op <;> cases (p :: rest).all op <;> rfl
      · have hkx : p.kind = x.1.kind := by rw [e]; rfl
        have htx : p.text = x.1.text := by rw [e]; rfl
        rw [hkx, htx]
        rcases (sig_len hx).2.2.2.1 with h4 | h6
        · rw [h4]
          simp only [show ((4 : Int) == 4) = true from rfl, cond_true]
          have := sig_bool hx h4
          subst this
          unfold hdO
          rw [hall]
          rfl
        · rw [h6]
          simp only [show ((6 : Int) == 4) = false from rfl, show ((6 : Int) == 6) = true from rfl, cond_false, cond_true]
          have hv := v49 hx h6
          rw [shapesP_eq] at hv
          rw [hv]
          simp only [Option.bind_some, retPV_bld, fits_lstS, toLst_lst, cond_true]
          have hni : (PV.lst ((hds τ).map Pa.enc)).isNils = false := rfl
          rw [hni]
          simp only [cond_false]
          unfold hdO
          rw [hall]
          cases τ <;> first | rfl | exact absurd hx List.not_mem_nil
theorem v31 {τ : Ty4} {col : List Pa} (hc : ∀ p, p ∈ col → p.ok τ) (hl : col.length ≤ 1000) : V 31 [.pv shapesP, .pv (.lst (col.map Pa.enc))] = some (.pv (hdO τ col), []) := by
  rw [shapesP_eq, e31]
  exact l31 τ col hc hl col 0 rfl

/-! ### Where the first one is -/
def idxI (o : Option Nat) : Int := match o with | some j => (j : Int) | none => -1
theorem l14 (f : FuncId) (c : List PV) (pred : Pa → Bool) (col : List Pa) (hp : ∀ p : Pa, p ∈ col → V f ((([p.enc] : List PV) ++ c).map .pv) = some (.pv (.bool (pred p)), [])) (hl : col.length ≤ 1000) : ∀ (rest : List Pa) (k : Nat), col.drop k = rest →
    L14_1014 (col.map Pa.enc) f c (k : Int) = some (.pv (.int .i64 (idxI ((rest.findIdx? pred).map (k + ·)))), [])
  | [], k, hk => by rw [e14_1014, endK_map hk]; rfl
  | p :: rest, k, hk => by
    have A := atK_map (f := Pa.enc) hk (by simp [maxLen]; omega)
    have A' := atK hk (by simp [maxLen]; omega)
    have ih := l14 f c pred col hp hl rest (k + 1) A'.drop
    rw [e14_1014]
    simp only [A.lt, A.ge, A.get, A.next, cond_true, Option.bind_some, pa_fits, pa_eta, hp p (List.mem_of_getElem? A'.get'), retPV_pv, fits_bool, toBool_bool]
    rw [List.findIdx?_cons]
    cases hq : pred p with
    | true => simp [idxI]
    | false =>
      simp only [cond_false]
      rw [ih]
      congr 5
      simp only [Bool.false_eq_true, if_false, Option.map_map]
      congr 1
      funext j
      simp; omega
theorem v14 {f : FuncId} {c : List PV} {pred : Pa → Bool} {col : List Pa} (hp : ∀ p : Pa, p ∈ col → V f ((([p.enc] : List PV) ++ c).map .pv) = some (.pv (.bool (pred p)), [])) (hl : col.length ≤ 1000) : V 14 [.pv (.lst (col.map Pa.enc)), .pv (.fn f c)] = some (.pv (.int .i64 (idxI (col.findIdx? pred))), []) := by
  rw [e14]
  have := l14 f c pred col hp hl col 0 rfl
  simpa using this
theorem v51 {f : FuncId} {c : List PV} {pred : Pa → Bool} {col : List Pa} (hp : ∀ p : Pa, p ∈ col → V f ((([p.enc] : List PV) ++ c).map .pv) = some (.pv (.bool (pred p)), [])) (hl : col.length ≤ 1000) : V 51 [.pv (.lst (col.map Pa.enc)), .pv (.fn f c)] = some (.pv (.bool (col.any pred)), []) := by
  rw [e51, v14 hp hl]
  simp only [Option.bind_some, retPV_pv, fits_i64, toInt_int, cond_true]
  congr 4
  cases h : col.findIdx? pred with
  | none =>
    have : col.any pred = false := by
      rw [List.findIdx?_eq_none_iff] at h
      rw [List.any_eq_false]
      exact fun x hx => by simp [h x hx]
    rw [this]; rfl
  | some j =>
    have : col.any pred = true := by
      cases ha : col.any pred with
      | true => rfl
      | false =>
        rw [List.any_eq_false] at ha
        have : col.findIdx? pred = none := List.findIdx?_eq_none_iff.2 fun x hx => by simpa using ha x hx
        rw [this] at h; cases h
    rw [this]; exact dT (by simp [idxI])
def numP (n : Int) : Pa := .mk 3 n [] []
theorem v52 (n : Int) (p : Pa) : V 52 ((([p.enc] : List PV) ++ ([.ptr [.int .i64 3, .int .i64 n, .str [], .lst []]] : List PV)).map .pv) = some (.pv (.bool (alk p (numP n))), []) := by
  have h := v53 p (numP n)
  rw [pa_enc (numP n)] at h
  show V 52 [.pv p.enc, .pv (.ptr [.int .i64 3, .int .i64 n, .str [], .lst []])] = _
  rw [pa_enc p] at h ⊢
  rw [e52]
  rw [show (numP n).kind = 3 from rfl, show (numP n).num = n from rfl, show (numP n).text = [] from rfl, show ((numP n).args.map Pa.enc) = [] from rfl] at h
  rw [h]
  rfl

/-! ### What no pattern of a column has -/
theorem ltext (col : List Pa) (n : Nat) (hn : n ≤ 2000) : ∀ (j i : Nat) (s : List UInt8), i + j = n → s.length = i → ∃ s', L34_11450411014 (col.map Pa.enc) (n : Int) (i : Int) s = L34_1145041111014 (col.map Pa.enc) (n : Int) false false 0 s'
  | 0, i, s, h, hs => ⟨s, by rw [e34_11450411014, dF (by omega)]; rfl⟩
  | j + 1, i, s, h, hs => by
    obtain ⟨s', ih⟩ := ltext col n hn j (i + 1) (s ++ [97]) (by omega) (by simp [hs])
    refine ⟨s', ?_⟩
    have hw : IntKind.i64.wrap ((i : Int) + 1) = ((i + 1 : Nat) : Int) := by rw [wrap_i64 (by omega) (by omega)]; rfl
    have hd : decide (s.length + ([97] : List UInt8).length ≤ 2147483648) = true := decide_eq_true (by rw [hs]; simp; omega)
    rw [e34_11450411014, dT (by omega), hd, hw]
    exact ih
def ints (col : List Pa) : Bool := col.any fun p => p.kind == 3
theorem lflag (col : List Pa) (hc : ∀ p, p ∈ col → (p.kind == 5) = false) (hl : col.length ≤ 1000) (n : Int) (s : List UInt8) : ∀ (rest : List Pa) (k : Nat) (b : Bool), col.drop k = rest → (b = true → ints col = true) →
    L34_1145041111014 (col.map Pa.enc) n b false (k : Int) s = L34_11450411111416 (col.map Pa.enc) n (b || ints rest) (!(b || ints rest)) s ∨ b = true ∧ L34_1145041111014 (col.map Pa.enc) n b false (k : Int) s = L34_11450411111416 (col.map Pa.enc) n true false s
  | [], k, b, hk, hb => by
    left
    rw [e34_1145041111014, endK_map hk]
    cases b <;> rfl
  | p :: rest, k, b, hk, hb => by
    have A := atK_map (f := Pa.enc) hk (by simp [maxLen]; omega)
    have A' := atK hk (by simp [maxLen]; omega)
    have h5 := hc p (List.mem_of_getElem? A'.get')
    have hm : p ∈ col := List.mem_of_getElem? A'.get'
    rw [e34_1145041111014]
    simp only [A.lt, A.ge, A.get, A.next, cond_true, Option.bind_some, pa_fits, pa_0, h5, cond_false]
    cases b with
    | true =>
      simp only [cond_true, Bool.true_or, Bool.not_true, true_and]
      rcases lflag col hc hl n s rest (k + 1) true A'.drop hb with h | ⟨_, h⟩
      · left; rw [h]; rfl
      · left; exact h
    | false =>
      simp only [cond_false, Bool.false_or]
      have hb' : (p.kind == 3) = true → ints col = true := fun h => List.any_eq_true.2 ⟨p, hm, h⟩
      have hi : ints (p :: rest) = ((p.kind == 3) || ints rest) := rfl
      rw [hi]
      rcases lflag col hc hl n s rest (k + 1) (p.kind == 3) A'.drop hb' with h | ⟨h1, h⟩
      · left; exact h
      · left; rw [h, h1]; rfl
theorem ostep (col : List Pa) (h5 : ∀ p, p ∈ col → (p.kind == 5) = false) (hl : col.length ≤ 1000) (hi : ints col = true) (n : Nat) (hn : n ≤ 2000) :
    L34_114 (col.map Pa.enc) (n : Int) = bif col.any (fun p => alk p (numP n)) then L34_114 (col.map Pa.enc) ((n + 1 : Nat) : Int) else some (.pv (numP n).enc, []) := by
  obtain ⟨s', e⟩ := ltext col n hn n 0 [] (by omega) rfl
  have hfl := lflag col h5 hl n s' col 0 false rfl (fun h => by cases h)
  simp only [Bool.false_or, hi, Bool.not_true] at hfl
  have hfl' : L34_1145041111014 (col.map Pa.enc) n false false 0 s' = L34_11450411111416 (col.map Pa.enc) n true false s' := by rcases hfl with h | ⟨h, _⟩ <;> first | exact h | cases h
  have hw : IntKind.i64.wrap ((n : Int) + 1) = ((n + 1 : Nat) : Int) := by rw [wrap_i64 (by omega) (by omega)]; rfl
  rw [e34_114]
  rw [show L34_11450411014 (col.map Pa.enc) (n : Int) 0 [] = L34_11450411014 (col.map Pa.enc) (n : Int) ((0 : Nat) : Int) [] from rfl, e, hfl', e34_11450411111416]
  simp only [cond_false, cond_true, v51 (fun p _ => v52 n p) hl, Option.bind_some, retPV_pv, fits_bool, toBool_bool]
  rw [e34_1145041111141316]
  cases col.any (fun p => alk p (numP n)) with
  | false => simp only [Bool.not_false, cond_true, cond_false]; rw [pa_enc (numP n)]; rfl
  | true => simp only [Bool.not_true, cond_true, cond_false]; rw [hw]
theorem alk_num {p : Pa} {n : Int} (h : alk p (numP n) = true) : p.kind = 3 ∧ p.num = n := by
  simp only [alk, numP, kind_mk, num_mk, Bool.and_eq_true, beq_iff_eq] at h
  exact ⟨h.1, h.2.1⟩
theorem filter_lt {α : Type} (p q : α → Bool) (hpq : ∀ x, q x = true → p x = true) : ∀ (l : List α), (∃ x, x ∈ l ∧ p x = true ∧ q x = false) → (l.filter q).length < (l.filter p).length
  | [], ⟨x, h, _⟩ => absurd h List.not_mem_nil
  | a :: l, ⟨x, h, h1, h2⟩ => by
    have hle : ∀ l : List α, (l.filter q).length ≤ (l.filter p).length := fun l => by
      induction l with
      | nil => exact Nat.le_refl _
      | cons a l ih =>
        simp only [List.filter_cons]
        cases hq : q a with
        | true => rw [hpq a hq]; simpa using ih
        | false => cases p a <;> simp <;> omega
    rcases List.mem_cons.1 h with rfl | h
    · have := hle l
      simp only [List.filter_cons, h1, h2]
      simp; omega
    · have ih := filter_lt p q hpq l ⟨x, h, h1, h2⟩
      simp only [List.filter_cons]
      cases hq : q a with
      | true => rw [hpq a hq]; simpa using ih
      | false => cases p a <;> simp <;> omega
theorem lother (col : List Pa) (h5 : ∀ p, p ∈ col → (p.kind == 5) = false) (hl : col.length ≤ 1000) (hi : ints col = true) : ∀ (K n : Nat), (col.filter fun p => p.kind == 3 && decide ((n : Int) ≤ p.num)).length ≤ K → n + K ≤ 2000 →
    ∃ m : Int, L34_114 (col.map Pa.enc) (n : Int) = some (.pv (numP m).enc, []) ∧ col.any (fun p => alk p (numP m)) = false := by
  intro K
  induction K with
  | zero =>
    intro n h hn
    have hf : col.any (fun p => alk p (numP n)) = false := by
      rw [List.any_eq_false]
      intro p hp ha
      obtain ⟨h1, h2⟩ := alk_num ha
      have hmem : p ∈ (col.filter fun p => p.kind == 3 && decide ((n : Int) ≤ p.num)) := List.mem_filter.2 ⟨hp, by simp [h1, h2]⟩
      have := List.length_pos_of_mem hmem
      omega
    exact ⟨n, by rw [ostep col h5 hl hi n (by omega), hf]; rfl, hf⟩
  | succ K ih =>
    intro n h hn
    cases hf : col.any (fun p => alk p (numP n)) with
    | false => exact ⟨n, by rw [ostep col h5 hl hi n (by omega), hf]; rfl, hf⟩
    | true =>
      obtain ⟨p, hp, ha⟩ := List.any_eq_true.1 hf
      obtain ⟨h1, h2⟩ := alk_num ha
      have hlt := filter_lt (fun p : Pa => p.kind == 3 && decide ((n : Int) ≤ p.num)) (fun p : Pa => p.kind == 3 && decide (((n + 1 : Nat) : Int) ≤ p.num)) (fun x hx => by
        simp only [Bool.and_eq_true, decide_eq_true_eq] at hx ⊢; exact ⟨hx.1, by omega⟩) col ⟨p, hp, by simp [h1, h2], by simp [h2]; omega⟩
      obtain ⟨m, g1, g2⟩ := ih (n + 1) (by omega) (by omega)
      exact ⟨m, by rw [ostep col h5 hl hi n (by omega), hf]; exact g1, g2⟩
/-- A column of one type without heads: a pattern that fits what no other one there, if it has a head, fits. -/
theorem v34 {τ : Ty4} {col : List Pa} (hc : ∀ p, p ∈ col → p.ok τ) (hl : col.length ≤ 1000) (hh : col.all op = true ∨ τ = .int) :
    ∃ o : Pa, V 34 [.pv (.lst (col.map Pa.enc))] = some (.pv o.enc, []) ∧ o.ok τ ∧ o.cnt ≤ 1 ∧ (∃ v : Pa, v.vok τ ∧ o.fit v = true) ∧ ∀ v : Pa, v.vok τ → o.fit v = true → ∀ p, p ∈ col → op p = false → p.fit v = false := by
  have h5 : ∀ p, p ∈ col → (p.kind == 5) = false := fun p hp => by
    cases ho : op p with
    | true =>
      have : p.kind = 1 ∨ p.kind = 2 := by simpa [op] using ho
      rcases this with h | h <;> rw [h] <;> rfl
    | false =>
      rcases ok_heads (hc p hp) ho with ⟨_, h⟩ | ⟨x, hx, e, _⟩
      · rw [h]; rfl
      · rw [e]
        show (x.1.kind == 5) = false
        rcases (sig_len hx).2.2.2.1 with h | h <;> rw [h] <;> rfl
  cases hi : ints col with
  | false =>
    have hall : ∀ p, p ∈ col → op p = true := fun p hp => by
      rcases hh with h | rfl
      · exact List.all_eq_true.1 h p hp
      · cases ho : op p with
        | true => rfl
        | false =>
          rcases ok_heads (hc p hp) ho with ⟨_, h⟩ | ⟨x, hx, _⟩
          · have := List.any_eq_false.1 hi p hp
            rw [h] at this
            exact absurd rfl this
          · exact absurd hx List.not_mem_nil
    refine ⟨anyP, ?_, by unfold Pa.ok; exact .inl ⟨.inl rfl, rfl⟩, Nat.zero_le _, ?_, fun v _ _ p hp ho => by rw [hall p hp] at ho; cases ho⟩
    · have hfl := lflag col h5 hl 0 [] col 0 false rfl (fun h => by cases h)
      simp only [Bool.false_or, hi, Bool.not_false] at hfl
      have hfl' : L34_1145041111014 (col.map Pa.enc) 0 false false 0 [] = L34_11450411111416 (col.map Pa.enc) 0 false true [] := by rcases hfl with h | ⟨h, _⟩ <;> first | exact h | cases h
      rw [e34, e34_114, e34_11450411014, dF (by omega)]
      simp only [cond_false]
      rw [hfl', e34_11450411111416]
      simp only [cond_true, v50, Option.bind_some, retPV_pv, pa_fits, pa_eta]
    · obtain ⟨v, hv⟩ := vok_some τ
      exact ⟨v, hv, fit_op rfl⟩
  | true =>
    have hτ : τ = .int := by
      rcases hh with h | h
      · obtain ⟨p, hp, h3⟩ := List.any_eq_true.1 hi
        have ho := List.all_eq_true.1 h p hp
        have h3' : p.kind = 3 := by simpa using h3
        simp [op, h3'] at ho
      · exact h
    subst hτ
    obtain ⟨m, g1, g2⟩ := lother col h5 hl hi col.length 0 (List.length_filter_le ..) (by omega)
    refine ⟨numP m, by rw [e34]; exact g1, by unfold numP Pa.ok; exact .inr ⟨rfl, rfl, rfl⟩, Nat.le_refl 1, ⟨.mk 2 m [] [], by unfold Pa.vok; exact ⟨rfl, rfl, rfl⟩, by simp [numP, Pa.fit, kind_mk, num_mk]⟩, fun v hv hf p hp ho => ?_⟩
    rcases ok_heads (hc p hp) ho with ⟨_, e⟩ | ⟨x, hx, _⟩
    · have ha := List.any_eq_false.1 g2 p hp
      rw [e] at ha ⊢
      have hne : ¬ p.num = m := fun h => ha (by rw [h]; simp [alk, numP, kind_mk, num_mk, text_mk, args_mk])
      simp [numP, Pa.fit] at hf
      simp [Pa.fit, hf]
      exact fun h => hne h.symm
    · exact absurd hx List.not_mem_nil
end Go.AL.S11
