/- Signs; what the reader finds is spelled so. -/
import Derived.Test.YtlmodlihiglnhaaDoorS8Good
set_option linter.unusedVariables false
set_option linter.unusedSimpArgs false
set_option maxRecDepth 20000
namespace Go.AL.S8.Tok
open Go Go.AL Go.AL.S8

theorem one' {t : Str} {i : Nat} {c : UInt8} (h : t[i]? = some c) : L48_1016 t i false = L48_1101416 t i (sg c) := by
  have cf : ∀ (b x y : Bool), (bif b then L48_1101416 t i x else L48_1101416 t i y) = L48_1101416 t i (bif b then x else y) := fun b x y => by cases b <;> rfl
  rw [e48_1016]
  simp only [cond_false, dge, gI h, cond_true, Option.bind_some, cf]
  rfl
theorem two_eq {a b : UInt8} (h : two [a, b] = true) : b = 62 ∧ (a = 61 ∨ a = 45) := by
  unfold two at h
  cases h1 : ([a, b] : Str) == [61, 62] with
  | true =>
    have e : ([a, b] : Str) = [61, 62] := eq_of_beq h1
    obtain ⟨e1, e2⟩ := List.cons.inj e
    obtain ⟨e2, _⟩ := List.cons.inj e2
    exact ⟨e2, .inl e1⟩
  | false =>
    rw [h1] at h
    have e : ([a, b] : Str) = [45, 62] := eq_of_beq h
    obtain ⟨e1, e2⟩ := List.cons.inj e
    obtain ⟨e2, _⟩ := List.cons.inj e2
    exact ⟨e2, .inr e1⟩
theorem v48_two {pre rest : Str} {a b : UInt8} (h : two [a, b] = true) (hl : pre.length + 2 ≤ 5000) : sgV (pre ++ ([a, b] ++ rest)) pre.length = stO [a, b] := by
  have hlen : pre.length + 1 < (pre ++ ([a, b] ++ rest)).length := by simp
  have hm : ((pre ++ ([a, b] ++ rest)).take (pre.length + 2)).drop pre.length = [a, b] := mid pre [a, b] rest
  unfold sgV
  rw [s106 hlen (by omega), hm, h, s106t hlen (by omega), hm]
  rfl
theorem v48_one {pre rest : Str} {c : UInt8} (hr : rest = [] ∨ ∃ d r, rest = d :: r ∧ two [c, d] = false) (hl : pre.length + 2 ≤ 5000) : sgV (pre ++ ([c] ++ rest)) pre.length = stO (bif sg c then [c] else []) := by
  have hx : (pre ++ ([c] ++ rest))[pre.length]? = some c := at0
  have e : sgV (pre ++ ([c] ++ rest)) pre.length = L48_1016 (pre ++ ([c] ++ rest)) pre.length false := by
    unfold sgV
    rcases hr with rfl | ⟨d, r, rfl, h2⟩
    · exact s106e (by simp) (by omega)
    · have hm : ((pre ++ ([c] ++ d :: r)).take (pre.length + 2)).drop pre.length = [c, d] := by
        have := mid pre [c, d] r
        simpa using this
      rw [s106 (by simp) (by omega), hm, h2]
  rw [e, one' hx]
  cases h : sg c with
  | false => rw [oneN]; rfl
  | true =>
    rw [oneB (lt_of hx) (by omega)]
    have hm : ((pre ++ ([c] ++ rest)).take (pre.length + 1)).drop pre.length = [c] := mid pre [c] rest
    rw [hm]; rfl
theorem sgY_eq {t l : Str} {i : Nat} (h : sgV t i = stO l) (hi : i + l.length ≤ 5000) : sgY t i = tkO 6 l i (i + l.length : Nat) (!(l == ([] : List UInt8))) := by
  unfold sgY
  unfold sgV stO at h
  rw [h]
  simp only [Option.bind_some, retPV_pv]
  rw [show (Sh.str).fits (.str l) = true from rfl]
  simp only [cond_true, toStr_str]
  rw [wrap_i64 (by omega) (by omega), show (i : Int) + (l.length : Int) = ((i + l.length : Nat) : Int) by omega]
  rfl
theorem nx_sg {t : Str} {i : Nat} {c : UInt8} (h : t[i]? = some c) (h1 : lowB c = false) (h2 : greatB c = false) (h4 : digB c = false) (h34 : ((c.toNat : Int) == 34) = false) : nxV t i = sgY t i := by
  unfold nxV
  rw [e43]
  simp only [dge, gI h, cond_true, Option.bind_some, v81, v82, h1, h2, retPV_pv, fits_bool, toBool_bool, cond_false]
  rw [e43_1110416]
  simp only [cond_false, v47, h4, Option.bind_some, retPV_pv, fits_bool, toBool_bool, cond_true, h34]
  rfl
theorem shown6 {l : Str} (hne : l ≠ []) (h : sgV l 0 = stO l) (at_ : Int) : V 21 [.pv (.agg [.int .i64 6, .str l, .int .i64 at_])] = some (.pv (.tup [.str l, .int .i64 0]), []) := by
  have e : (!(l == ([] : List UInt8))) = true := by cases l with | nil => exact absurd rfl hne | cons a b => rfl
  unfold sgV stO at h
  have h' : V 48 [.pv (.str l), .pv (.int .i64 0)] = some (.pv (.str l), []) := h
  rw [e21, show ((6 : Int) == 1) = false from rfl, show ((6 : Int) == 2) = false from rfl, show ((6 : Int) == 3) = false from rfl, show ((6 : Int) == 4) = false from rfl, show ((6 : Int) == 5) = false from rfl, show ((6 : Int) == 6) = true from rfl, e, h']
  simp only [cond_true, cond_false, Option.bind_some, retPV_pv]
  rw [show (Sh.str).fits (.str l) = true from rfl]
  simp only [cond_true, toStr_str, beq_self_eq_true]
theorem good_one {c : UInt8} (h : sg c = true) : Good 6 [c] [c] where
  ne := ⟨c, [], rfl, by unfold firstB; rw [h]; simp⟩
  len := by simp
  shown at_ := by
    have := v48_one (pre := []) (rest := []) (c := c) (.inl rfl) (by simp)
    rw [h] at this
    exact shown6 (by simp) this at_
  read pre rest hs hp := by
    obtain ⟨n1, n2, n3, n4⟩ := sg_ok h
    have hr : rest = [] ∨ ∃ d r, rest = d :: r ∧ two [c, d] = false := by
      rcases hs with rfl | ⟨r, rfl⟩
      · exact .inl rfl
      · refine .inr ⟨32, r, rfl, ?_⟩
        cases h2 : two [c, 32] with
        | false => rfl
        | true => exact absurd (two_eq h2).1 (by decide)
    have := v48_one (pre := pre) hr (by simp at hp; omega)
    rw [h] at this
    have hx : (pre ++ ([c] ++ rest))[pre.length]? = some c := at0
    rw [nx_sg hx n1 n2 n3 n4, sgY_eq this (by simp at hp ⊢; omega)]
    rfl
theorem good_two {a b : UInt8} (h : two [a, b] = true) : Good 6 [a, b] [a, b] where
  ne := ⟨a, [b], rfl, by rcases (two_eq h).2 with rfl | rfl <;> rfl⟩
  len := by simp
  shown at_ := shown6 (by simp) (v48_two (pre := []) (rest := []) h (by simp)) at_
  read pre rest hs hp := by
    have hsg : sg a = true := by rcases (two_eq h).2 with rfl | rfl <;> rfl
    obtain ⟨n1, n2, n3, n4⟩ := sg_ok hsg
    have hx : (pre ++ ([a, b] ++ rest))[pre.length]? = some a := at0
    rw [nx_sg hx n1 n2 n3 n4, sgY_eq (v48_two h (by simp at hp; omega)) (by simp at hp ⊢; omega)]
    rfl

/-! #### What the reader finds -/
theorem dw_stops (p : UInt8 → Bool) : ∀ l : Str, Stops p (l.dropWhile p)
  | [], c, r, h => by simp at h
  | x :: l, c, r, h => by
    simp only [List.dropWhile_cons] at h
    cases hx : p x with
    | true => rw [hx] at h; exact dw_stops p l c r (by simpa using h)
    | false =>
      rw [hx] at h
      simp only [Bool.false_eq_true, if_false] at h
      obtain ⟨rfl, _⟩ := List.cons.inj h
      exact hx
theorem tw_all (p : UInt8 → Bool) : ∀ l : Str, (l.takeWhile p).all p = true
  | [] => rfl
  | x :: l => by
    simp only [List.takeWhile_cons]
    cases hx : p x with
    | true => simp only [if_true, List.all_cons, hx, tw_all p l, Bool.and_self]
    | false => simp
theorem tkO_inj {k k' : Int} {tx tx' : Str} {i : Nat} {j j' : Int} {b b' : Bool} (h : tkO k tx i j b = tkO k' tx' i j' b') : k = k' ∧ tx = tx' ∧ b = b' := by
  simp only [tkO, Option.some.injEq, Prod.mk.injEq, Arg.pv.injEq, PV.tup.injEq, List.cons.injEq, PV.agg.injEq, PV.int.injEq, PV.str.injEq, PV.bool.injEq, true_and, and_true] at h
  exact ⟨h.1.1, h.1.2, h.2.2⟩
theorem next_good {s : Str} {v : Nat} {c : UInt8} {k j : Int} {tx : Str} (hl : s.length ≤ 4000) (hc : s[v]? = some c) (h : nxV s v = tkO k tx v j true) : ∃ x, Good k tx x := by
  obtain ⟨pre, tl, rfl, rfl⟩ : ∃ pre tl, s = pre ++ c :: tl ∧ pre.length = v := by
    have hv := lt_of hc
    refine ⟨s.take v, s.drop (v + 1), ?_, by simp; omega⟩
    have hg : s[v] = c := (List.getElem?_eq_some_iff.1 hc).2
    rw [← hg, List.getElem_cons_drop hv, List.take_append_drop]
  have hlt : pre.length + tl.length + 1 ≤ 4000 := by simp only [List.length_append, List.length_cons] at hl; omega
  cases hn : (bif lowB c then true else greatB c) with
  | true =>
    have hcin : innB c = true := by
      unfold innB
      cases h1 : lowB c with
      | true => rfl
      | false => rw [h1] at hn; simp only [cond_false] at hn; rw [hn]; rfl
    have htl := List.takeWhile_append_dropWhile (p := innB) (l := tl)
    have hlen := congrArg List.length htl
    simp only [List.length_append] at hlen
    have e : pre ++ c :: tl = pre ++ (c :: tl.takeWhile innB ++ tl.dropWhile innB) := by rw [List.cons_append, htl]
    have hall : (c :: tl.takeWhile innB).all innB = true := by rw [List.all_cons, hcin, tw_all]; rfl
    rw [e, nxName hn hall (dw_stops innB tl) (by simp only [List.length_cons]; omega)] at h
    obtain ⟨rfl, rfl, h3⟩ := tkO_inj h
    exact ⟨_, good_name hn hall (by have := of_decide_eq_true h3; omega)⟩
  | false =>
    cases hd : digB c with
    | true =>
      have htl := List.takeWhile_append_dropWhile (p := digB) (l := tl)
      have hlen := congrArg List.length htl
      simp only [List.length_append] at hlen
      have e : pre ++ c :: tl = pre ++ (c :: tl.takeWhile digB ++ tl.dropWhile digB) := by rw [List.cons_append, htl]
      have hall : (c :: tl.takeWhile digB).all digB = true := by rw [List.all_cons, hd, tw_all]; rfl
      rw [e, nxDig hall (dw_stops digB tl) (by simp only [List.length_cons]; omega)] at h
      obtain ⟨rfl, rfl, h3⟩ := tkO_inj h
      exact ⟨_, good_dig hall (by simp only [List.length_cons]; omega)⟩
    | false =>
      have hlow : lowB c = false := by cases h1 : lowB c with | false => rfl | true => rw [h1] at hn; cases hn
      have hgr : greatB c = false := by rw [hlow] at hn; exact hn
      cases h34 : (c.toNat : Int) == 34 with
      | true =>
        have : c = 34 := UInt8.toNat_inj.1 (by
          have h0 : (c.toNat : Int) = 34 := by simpa using h34
          have h1 : c.toNat = 34 := by omega
          exact h1)
        subst this
        rw [nx34 at0] at h
        have y : ∀ tx' j' ok', L84_11014 (pre ++ 34 :: tl) (pre.length + 1 : Nat) [] = txO tx' j' ok' → txY (pre ++ 34 :: tl) pre.length = tkO 5 tx' pre.length j' ok' := fun tx' j' ok' h => by
          unfold txY
          rw [e84, wr1 (by omega), h]
          rfl
        rcases text hl (pre ++ 34 :: tl).length (pre.length + 1) [] (by omega) (by simp) rfl with ⟨tx', j', h1⟩ | ⟨tx', j', h1, _, _, _, h5⟩
        · rw [y _ _ _ h1] at h
          exact absurd (tkO_inj h).2.2 (by decide)
        · rw [y _ _ _ h1] at h
          obtain ⟨rfl, rfl, _⟩ := tkO_inj h
          exact ⟨_, good_text h5⟩
      | false =>
        rw [nx_sg at0 hlow hgr hd h34] at h
        have one (hr : tl = [] ∨ ∃ d r, tl = d :: r ∧ two [c, d] = false) : ∃ x, Good k tx x := by
          have h1 := v48_one (pre := pre) hr (by omega)
          cases hsg : sg c with
          | false =>
            rw [hsg] at h1
            have h2 := sgY_eq h1 (by simp; omega)
            rw [show pre ++ c :: tl = pre ++ ([c] ++ tl) from rfl, h2] at h
            exact absurd (tkO_inj h).2.2 (by simp)
          | true =>
            rw [hsg] at h1
            have h2 := sgY_eq h1 (by simp; omega)
            rw [show pre ++ c :: tl = pre ++ ([c] ++ tl) from rfl, h2] at h
            obtain ⟨rfl, rfl, _⟩ := tkO_inj h
            exact ⟨_, good_one hsg⟩
        cases tl with
        | nil => exact one (.inl rfl)
        | cons d r =>
          cases h2 : two [c, d] with
          | false => exact one (.inr ⟨d, r, rfl, h2⟩)
          | true =>
            have h3 := sgY_eq (v48_two (pre := pre) (rest := r) h2 (by omega)) (by simp; omega)
            rw [show pre ++ c :: d :: r = pre ++ ([c, d] ++ r) from rfl, h3] at h
            obtain ⟨rfl, rfl, _⟩ := tkO_inj h
            exact ⟨_, good_two h2⟩
end Go.AL.S8.Tok
