/- Talks: who waits for whom. -/
import Derived.Test.YtofjejdlggmcjaaS1Talk4
set_option linter.unusedVariables false
set_option linter.unusedSimpArgs false
namespace Go.AL.S1
open Go Go.AL

def wt (ls : List Line) (ws : List (List Deed)) (a : List Nat) (i : Nat) : Int := match cur ws a i with | none => -1 | some d => match ls[d.1.toNat]? with | some x => x.1 + x.2 - i | none => -1

theorem at_of {ws : List (List Deed)} {a : List Nat} (hv : Valid ws a) {k : Nat} (hk : k < a.length) : ∃ p w, a[k]? = some p ∧ ws[k]? = some w ∧ (a.map eNat)[(k : Int).toNat]? = some (eNat p) ∧ (ws.map eDs)[(k : Int).toNat]? = some (eDs w) ∧ p ≤ w.length ∧ cur ws a k = w[p]? := by
  have hw : k < ws.length := by rw [← hv.len]; exact hk
  have e1 := List.getElem?_eq_getElem hk
  have e2 := List.getElem?_eq_getElem hw
  exact ⟨_, _, e1, e2, by simp [hk], by simp [hw], hv.le k _ _ e1 e2, by simp [cur, e1, e2]⟩

theorem l30a {ls : List PV} {ws : List (List Deed)} {a : List Nat} (hal : a.length ≤ 8) (hv : Valid ws a) : ∀ (l : List Nat) (k : Nat), a.drop k = l → L30_111014 (a.map eNat) k ls (ws.map eDs) = L30_11111014 (a.map eNat) 0 ls (ws.map eDs) ((List.replicate a.length (0 : Int)).map eInt)
  | [], k, h => by
    rw [e30_111014, endK_map h]
    simp only [cond_false, List.length_map]
    rw [decide_eq_true (Int.natCast_nonneg _), decide_eq_true (Int.le_refl _), decide_eq_true (show (a.length : Int) ≤ 2147483648 from by omega)]
    simp only [Bool.and_self, Bool.true_and, show Nat.ble 8 65536 = true from rfl, show Nat.blt 0 1 = true from rfl, cond_true]
    simp [eInt]
  | p :: l, k, h => by
    have ha : a.length ≤ maxLen := by simp [maxLen]; omega
    have A := atK_map (f := eNat) h ha
    have ih := l30a (ls := ls) hal hv l (k + 1) (atK h ha).drop
    obtain ⟨p', w, a1, a2, a3, a4, a5, a6⟩ := at_of hv (atK h ha).ltn
    have hpp : p' = p := by have := (atK h ha).get'; rw [a1] at this; exact Option.some.inj this
    subst hpp
    rw [e30_111014]
    simp only [A.lt, A.ge, A.get, A.next, cond_true, Option.bind_some]
    simp only [cond_true, Option.bind_some, nat_fits, nat_i, dF (show ¬ (p' : Int) < 0 from by omega), cond_false, a4, ds_fits, ds_l, List.length_map, dF (show ¬ (p' : Int) > (w.length : Int) from by omega)]
    exact ih

theorem set_mid {α : Type} (A : List α) (x y : α) (B : List α) : (A ++ x :: B).set A.length y = A ++ y :: B := by
  rw [List.set_append_right _ _ (Nat.le_refl _)]; simp

theorem l30b {ls : List Line} {ws : List (List Deed)} {a : List Nat} (hwf : WF ls ws) (hv : Valid ws a) : ∀ (l : List Nat) (k : Nat), a.drop k = l → k ≤ a.length →
    L30_11111014 (a.map eNat) k (ls.map eLine) (ws.map eDs) (((List.range k).map (wt ls ws a) ++ List.replicate (a.length - k) 0).map eInt) = some (.pv (.tup [.lst (((List.range a.length).map (wt ls ws a)).map eInt), .int .i64 0]), [])
  | [], k, h, hk => by
    have : k = a.length := by
      have := congrArg List.length h
      simp at this; omega
    subst this
    rw [e30_11111014, endK_map h]
    simp
  | p :: l, k, h, _ => by
    have hal : a.length ≤ 8 := by rw [hv.len]; exact hwf.nw
    have ha : a.length ≤ maxLen := by simp [maxLen]; omega
    have A := atK_map (f := eNat) h ha
    have A' := atK h ha
    have ih := l30b hwf hv l (k + 1) A'.drop A'.ltn
    obtain ⟨p', w, a1, a2, a3, a4, a5, a6⟩ := at_of hv A'.ltn
    have hpp : p' = p := by have := A'.get'; rw [a1] at this; exact Option.some.inj this
    subst hpp
    have hrep : List.replicate (a.length - k) (0 : Int) = 0 :: List.replicate (a.length - (k + 1)) 0 := by
      rw [← List.replicate_succ]; congr 1; have := A'.ltn; omega
    have hlen : ((List.range k).map (wt ls ws a)).length = k := by simp
    have hset : ∀ v : Int, ((List.range k).map (wt ls ws a) ++ 0 :: List.replicate (a.length - (k + 1)) 0).set k v = (List.range k).map (wt ls ws a) ++ v :: List.replicate (a.length - (k + 1)) 0 := fun v => by
      have := set_mid ((List.range k).map (wt ls ws a)) 0 v (List.replicate (a.length - (k + 1)) 0)
      rw [hlen] at this; exact this
    have hset2 : ∀ u v : Int, ((List.range k).map (wt ls ws a) ++ u :: List.replicate (a.length - (k + 1)) 0).set k v = (List.range k).map (wt ls ws a) ++ v :: List.replicate (a.length - (k + 1)) 0 := fun u v => by
      have := set_mid ((List.range k).map (wt ls ws a)) u v (List.replicate (a.length - (k + 1)) 0)
      rw [hlen] at this; exact this
    have hgetm : ∀ u : Int, (((List.range k).map (wt ls ws a) ++ u :: List.replicate (a.length - (k + 1)) 0).map eInt)[(k : Int).toNat]? = some (eInt u) := fun u => by
      simp [List.getElem?_append_right]
    have hm : ∀ (u v : Int) (z : PV), z = eInt u → (((List.range k).map (wt ls ws a) ++ u :: List.replicate (a.length - (k + 1)) 0).map eInt).set (k : Int).toNat (z.setc 0 (.int .i64 v)) = ((List.range k).map (wt ls ws a) ++ v :: List.replicate (a.length - (k + 1)) 0).map eInt := by
      rintro u v z rfl
      show List.set _ _ (eInt v) = _
      rw [Int.toNat_natCast, ← List.map_set, hset2]
    have hbd : ∀ u : Int, decide ((k : Int) < ((((List.range k).map (wt ls ws a) ++ u :: List.replicate (a.length - (k + 1)) 0).map eInt).length : Int)) = true := fun u => by
      simp; omega
    have hnext : ∀ v : Int, v = wt ls ws a k → (List.range k).map (wt ls ws a) ++ v :: List.replicate (a.length - (k + 1)) 0 = (List.range (k + 1)).map (wt ls ws a) ++ List.replicate (a.length - (k + 1)) 0 := by
      rintro v rfl
      simp [List.range_succ]
    have hcf : ∀ u : Int, (Nat.blt 0 (eInt u).cells.length && true) = true := fun u => rfl
    rw [hrep, e30_11111014]
    simp only [A.lt, A.ge, A.get, A.next, cond_true, Option.bind_some]
    simp only [cond_true, Option.bind_some, nat_fits, nat_i, hbd, Bool.true_and, hgetm, hcf, a4, ds_fits, ds_l]
    simp only [hm _ _ _ rfl]
    by_cases hp : p' < w.length
    · obtain ⟨d, hd⟩ : ∃ d, w[p']? = some d := ⟨_, List.getElem?_eq_getElem hp⟩
      have hd' : (w.map eDeed)[(p' : Int).toNat]? = some (eDeed d) := by simp [hd]
      obtain ⟨g1, g2, g3, g4, g5⟩ := hwf.deed k w a2 d (List.mem_of_getElem? hd)
      obtain ⟨x, hx, hxm⟩ := get_int (xs := ls) g1 g2
      obtain ⟨f1, f2, f3, f4, f5⟩ := hwf.line x hxm
      have hnw := hwf.nw
      have hx' : (ls.map eLine)[d.1.toNat]? = some (eLine x) := by simp [hx]
      have hb2 : ∀ u : Int, decide ((k : Int) < ((((List.range k).map (wt ls ws a) ++ u :: List.replicate (a.length - (k + 1)) 0)).length : Int)) = true := fun u => by simp; omega
      simp only [List.length_map, dT (show (p' : Int) < (w.length : Int) from by omega), dT (Int.natCast_nonneg p'), cond_true, hd', Option.bind_some, deed_fits, deed_l, dT g1, hx', line_fits, line_a, line_b, hbd, hb2, A.ge, Bool.true_and, hgetm, hcf, List.length_map]
      simp only [hm _ _ _ rfl]
      have hwr : IntKind.i64.wrap (IntKind.i64.wrap (x.1 + x.2) - (k : Int)) = x.1 + x.2 - k := by
        have hk8 : k < 8 := by have := A'.ltn; omega
        rw [wrap_i64 (n := x.1 + x.2) (by omega) (by omega), wrap_i64 (by omega) (by omega)]
      rw [hwr, hnext _ (by simp [wt, a6, hd, hx])]
      exact ih
    · have hpe : w[p']? = none := List.getElem?_eq_none (by omega)
      simp only [List.length_map, dF (show ¬ (p' : Int) < (w.length : Int) from by omega), cond_false]
      rw [hnext _ (by simp [wt, a6, hpe])]
      exact ih

theorem v30 {ls : List Line} {ws : List (List Deed)} {a : List Nat} (hls : ls.length ≤ maxLen) (hws : ws.length ≤ maxLen) (h : check ls ws = 0) (hv : Valid ws a) :
    V 30 [.pv (eNet ls ws), .pv (.lst (a.map eNat))] = some (.pv (.tup [.lst (((List.range a.length).map (wt ls ws a)).map eInt), .int .i64 0]), []) := by
  have hwf := check_ok h
  have hal : a.length ≤ 8 := by rw [hv.len]; exact hwf.nw
  rw [e30, v63 hls hws, h]
  simp only [Option.bind_some, retPV_pv, fits_i64, cond_true, toInt_int, bne_self_eq_false, cond_false, List.length_map, hv.len]
  have h1 := l30a (ls := ls.map eLine) hal hv a 0 rfl
  have h2 := l30b hwf hv a 0 rfl (Nat.zero_le _)
  rw [show ((0 : Nat) : Int) = 0 from rfl] at h1 h2
  rw [h1]
  simpa [hv.len] using h2

/-- At the end nobody is at the same line with what fits. -/
theorem stuck {ls : List Line} {ws : List (List Deed)} {a : List Nat} (hwf : WF ls ws) (hv : Valid ws a) (hr : readyL ws a ls 0 = []) {i k : Nat} {d e : Deed} (hd : cur ws a i = some d) (he : cur ws a k = some e) (hi : i < a.length) (hw : wt ls ws a i = k) :
    ¬ (d.1 = e.1 ∧ d.2.2 = e.2.2 ∧ d.2.1 ≠ e.2.1) := by
  rintro ⟨h1, h2, h3⟩
  obtain ⟨p, w, a1, a2, _, _, _, a6⟩ := at_of hv hi
  rw [a6] at hd
  obtain ⟨g1, g2, g3, g4, g5⟩ := hwf.deed i w a2 d (List.mem_of_getElem? hd)
  obtain ⟨x, hx, hxm⟩ := get_int (xs := ls) g1 g2
  have hwt : x.1 + x.2 - (i : Int) = k := by
    unfold wt at hw
    rw [a6, hd] at hw
    simp only [hx] at hw
    exact hw
  have hdi : ((d.1.toNat : Nat) : Int) = d.1 := Int.toNat_of_nonneg g1
  have hmem : d.1.toNat ∈ readyL ws a ls 0 := by
    refine readyL_mem.2 ⟨Nat.zero_le _, x, by simpa using hx, ?_⟩
    have hc : cur ws a (i : Int) = some d := by rw [a6]; exact hd
    rcases g5 x hx with e1 | e1
    · have e2 : x.2 = k := by omega
      rw [e1, e2, hc, he]
      simp only [fits2, hdi, ← h1, ← h2]
      simp
      intro h; exact h3 h
    · have e2 : x.1 = k := by omega
      rw [e1, e2, hc, he]
      simp only [fits2, hdi, ← h1, ← h2]
      simp
      intro h; exact h3 h.symm
  rw [hr] at hmem
  cases hmem

theorem l7 {ls : List Line} {ws : List (List Deed)} {a : List Nat} (hwf : WF ls ws) (hv : Valid ws a) (hr : readyL ws a ls 0 = []) : ∀ (l : List Int) (k : Nat), ((List.range a.length).map (wt ls ws a)).drop k = l →
    L7_111111014 (a.map eNat) (((List.range a.length).map (wt ls ws a)).map eInt) k (ls.map eLine) (ws.map eDs) = some (.pv (.bool true), [])
  | [], k, h => by
    rw [e7_111111014, endK_map h]
    rfl
  | z :: l, k, h => by
    have hal : a.length ≤ 8 := by rw [hv.len]; exact hwf.nw
    have hl : ((List.range a.length).map (wt ls ws a)).length ≤ maxLen := by simp [maxLen]; omega
    have A := atK_map (f := eInt) h hl
    have A' := atK h hl
    have ih := l7 hwf hv hr l (k + 1) A'.drop
    have hka : k < a.length := by simpa using A'.ltn
    have hz : z = wt ls ws a k := by
      have := A'.get'
      simp [hka] at this
      exact this.symm
    obtain ⟨p, w, a1, a2, a3, a4, a5, a6⟩ := at_of hv hka
    have hnw := hwf.nw
    -- what is told of this one
    have hfacts : (z < 0 ↔ p = w.length) ∧ z < ws.length := by
      by_cases hp : p = w.length
      · have : cur ws a k = none := by rw [a6, hp]; simp
        have : z = -1 := by rw [hz]; unfold wt; rw [this]
        exact ⟨⟨fun _ => hp, fun _ => by omega⟩, by omega⟩
      · obtain ⟨d, hd⟩ : ∃ d, w[p]? = some d := ⟨_, List.getElem?_eq_getElem (show p < w.length by omega)⟩
        obtain ⟨g1, g2, g3, g4, g5⟩ := hwf.deed k w a2 d (List.mem_of_getElem? hd)
        obtain ⟨x, hx, hxm⟩ := get_int (xs := ls) g1 g2
        obtain ⟨f1, f2, f3, f4, f5⟩ := hwf.line x hxm
        have : z = x.1 + x.2 - k := by rw [hz]; unfold wt; rw [a6, hd]; simp only [hx]
        rcases g5 x hx with e | e
        · exact ⟨⟨fun _ => by omega, fun h => absurd h hp⟩, by omega⟩
        · exact ⟨⟨fun _ => by omega, fun h => absurd h hp⟩, by omega⟩
    rw [e7_111111014]
    simp only [A.lt, A.ge, A.get, A.next, cond_true, Option.bind_some]
    simp only [cond_true, Option.bind_some, int_fits, int_i, a3, nat_fits, nat_i, a4, ds_fits, ds_l, List.length_map, dF (show ¬ (p : Int) < 0 from by omega), dF (show ¬ (p : Int) > (w.length : Int) from by omega), cond_false]
    rw [show (!(decide (z < 0) == ((p : Int) == (w.length : Int)))) = false from by
      by_cases hp : p = w.length
      · have := hfacts.1.2 hp; simp [hp, this]
      · have h0 : ¬ z < 0 := fun h => hp (hfacts.1.1 h)
        have : ¬ ((p : Int) = (w.length : Int)) := by omega
        simp [h0, this]]
    simp only [cond_false, dF (show ¬ z ≥ (ws.length : Int) from by omega)]
    by_cases h0 : z < 0
    · simp only [dT h0, cond_true]; exact ih
    · have h0' : 0 ≤ z := by omega
      have hzn : ((z.toNat : Nat) : Int) = z := Int.toNat_of_nonneg h0'
      obtain ⟨q, v, b1, b2, b3, b4, b5, b6⟩ := at_of hv (k := z.toNat) (by rw [hv.len]; omega)
      rw [Int.toNat_natCast] at b3 b4
      simp only [dF h0, cond_false, dT h0', cond_true, b3, b4, Option.bind_some, nat_fits, nat_i, ds_fits, ds_l, List.length_map]
      by_cases hq : q = v.length
      · rw [show ((q : Int) == (v.length : Int)) = true from by simp [hq]]
        simp only [cond_true]; exact ih
      · rw [show ((q : Int) == (v.length : Int)) = false from by simp; omega]
        have hp : p ≠ w.length := fun e => h0 (hfacts.1.2 e)
        obtain ⟨d, hd⟩ : ∃ d, w[p]? = some d := ⟨_, List.getElem?_eq_getElem (show p < w.length by omega)⟩
        obtain ⟨e, he⟩ : ∃ d, v[q]? = some d := ⟨_, List.getElem?_eq_getElem (show q < v.length by omega)⟩
        have hd' : (w.map eDeed)[(p : Int).toNat]? = some (eDeed d) := by simp [hd]
        have he' : (v.map eDeed)[(q : Int).toNat]? = some (eDeed e) := by simp [he]
        simp only [cond_false, dT (Int.natCast_nonneg p), dT (Int.natCast_nonneg q), hd', he', Option.bind_some, deed_fits, deed_l, deed_m, deed_s, cond_true]
        have hst := stuck hwf hv hr (i := k) (k := z.toNat) (d := d) (e := e) (by rw [a6]; exact hd) (by rw [b6]; exact he) hka (by rw [← hz, hzn])
        by_cases e1 : d.1 = e.1
        · rw [show (d.1 == e.1) = true from by simpa using e1]
          by_cases e2 : d.2.2 = e.2.2
          · rw [show (d.2.2 == e.2.2) = true from by simpa using e2]
            have e3 : d.2.1 = e.2.1 := Classical.byContradiction fun h => hst ⟨e1, e2, h⟩
            rw [show (!(d.2.1 == e.2.1)) = false from by simp [e3]]
            simp only [cond_true, cond_false]; exact ih
          · rw [show (d.2.2 == e.2.2) = false from by simpa using e2]
            simp only [cond_true, cond_false]; exact ih
        · rw [show (d.1 == e.1) = false from by simpa using e1]
          simp only [cond_false]; exact ih

theorem runs_last {ls : List Line} {ws : List (List Deed)} (hwf : WF ls ws) {a b : List Nat} (hv : Valid ws a) (h : Runs ls ws a b) : Valid ws b ∧ readyL ws b ls 0 = [] := by
  induction h with
  | stop h => exact ⟨hv, h⟩
  | go hi _ ih => exact ih (step_valid hwf hv hi).1

theorem law7 {ls : List Line} {ws : List (List Deed)} (picks : List Int) (hls : ls.length ≤ maxLen) (hws : ws.length ≤ maxLen) : V 7 [.pv (eNet ls ws), .pv (.lst (picks.map eInt))] = some (.pv (.bool true), []) := by
  rw [e7, v21]
  simp only [Option.bind_some, retPV_pv, fits_bool, cond_true, toBool_bool, Bool.not_true, cond_false]
  by_cases h : check ls ws = 0
  · obtain ⟨h1, r1⟩ := v22_ok (picks := picks) hls hws h
    have hwf := check_ok h
    obtain ⟨hv, hr⟩ := runs_last hwf (valid0 ws) r1
    have h30 := v30 hls hws h hv
    have h7 := l7 hwf hv hr ((List.range (run0 ls ws picks).2.length).map (wt ls ws (run0 ls ws picks).2)) 0 rfl
    rw [show ((0 : Nat) : Int) = 0 from rfl] at h7
    rw [h1]
    simp only [Option.bind_some, retPV_pv, fits_tup, fitsL_cons, fitsL_nil, fits_lstS, fits_i64, cond_true, r_succ, r_zero, toInt_int, toLst_lst, Bool.not_false, Bool.true_or, Bool.and_self, bne_self_eq_false, cond_false, h30, List.length_map, List.length_range, hv.len]
    simpa [hv.len] using h7
  · rw [v22_no hls hws h]
    simp only [Option.bind_some, retPV_pv, fits_tup, fitsL_cons, fitsL_nil, fits_lstS, fits_i64, cond_true, r_succ, r_zero, toInt_int, toLst_lst, Bool.not_false, Bool.true_or, Bool.and_self]
    rw [show (check ls ws != 0) = true from by simpa using h]
    rfl
end Go.AL.S1
