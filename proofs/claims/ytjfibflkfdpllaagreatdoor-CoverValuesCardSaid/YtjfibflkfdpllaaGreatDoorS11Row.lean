/- What the small functions of cover come to: open, anys, alike, row, rows, column, rest, heads. -/
import Derived.Test.YtjfibflkfdpllaaGreatDoorS11Cov
import Derived.Test.YtjfibflkfdpllaaGreatDoorS11EB
set_option linter.unusedVariables false
set_option linter.unusedSimpArgs false
namespace Go.AL.S11
open Go Go.AL

def rE (l : List Pa) : PV := .lst (l.map Pa.enc)
theorem rE_fits (l : List Pa) : Sh.lst.fits (rE l) = true := rfl
theorem rE_toLst (l : List Pa) : (rE l).toLst = l.map Pa.enc := rfl
abbrev tE (t : List (List Pa)) : List PV := t.map rE
theorem v36 (p : Pa) : V 36 [.pv p.enc] = some (.pv (.bool (op p)), []) := by
  rw [pa_enc, e36]; unfold op; cases (p.kind == 1) <;> rfl
theorem v50 : V 50 [] = some (.pv anyP.enc, []) := e50
theorem l55 : ∀ (j i : Nat), i + j ≤ 1000 → L55_11014 (List.replicate i anyP.enc) ((i + j : Nat) : Int) (i : Int) = some (.bld 4 (List.replicate (i + j) anyP.enc), [])
  | 0, i, h => by rw [e55_11014, dF (by omega)]; simp
  | j + 1, i, h => by
    have ih := l55 j (i + 1) (by omega)
    rw [e55_11014, dT (by omega)]
    have hsm : small (List.replicate i anyP.enc).length 1 56 = true := small_of (by simp; omega)
    have hw : IntKind.i64.wrap ((i : Int) + 1) = ((i + 1 : Nat) : Int) := by rw [wrap_i64 (by omega) (by omega)]; rfl
    simp only [cond_true, v50, Option.bind_some, retPV_pv, pa_fits, pa_eta, hsm, hw]
    rw [show List.replicate i anyP.enc ++ [anyP.enc] = List.replicate (i + 1) anyP.enc by rw [List.replicate_succ'], show i + (j + 1) = i + 1 + j by omega]
    exact ih
theorem v55 {n : Nat} (h : n ≤ 1000) : V 55 [.pv (.int .i64 (n : Int))] = some (.bld 4 ((List.replicate n anyP).map Pa.enc), []) := by
  rw [e55, List.map_replicate]
  have := l55 n 0 (by omega)
  simpa using this
theorem v53 (a b : Pa) : V 53 [.pv a.enc, .pv b.enc] = some (.pv (.bool (alk a b)), []) := by
  rw [pa_enc, pa_enc, e53]
  unfold alk
  have e : ((a.args.map Pa.enc).length : Int) == ((b.args.map Pa.enc).length : Int) ↔ a.args.length == b.args.length := by simp; omega
  have e' : (((a.args.map Pa.enc).length : Int) == ((b.args.map Pa.enc).length : Int)) = (a.args.length == b.args.length) := Bool.eq_iff_iff.2 e
  rw [e']
  cases (a.kind == b.kind) <;> cases (a.num == b.num) <;> cases (a.text == b.text) <;> rfl
theorem v10 (l : List Pa) (h : l.length ≤ 1000) : V 10 [.pv (.lst (l.map Pa.enc))] = some (.bld 4 (l.map Pa.enc), []) := by
  rw [e10]
  unfold cloneOut
  rw [headOk_pa, small_of (by simp; omega)]
  rfl
theorem headOk_drop (l : List Pa) : headOk 4 ((l.map Pa.enc).drop (1 : Int).toNat) = true := by
  rw [← List.map_drop]; exact headOk_pa _

def rowOut (o : Option (List Pa)) : Out := (.pv (.tup [rE (o.getD []), .bool o.isSome]), [])
theorem v37 (p : Pa) (ps : List Pa) (h : Pa) (h1 : h.args.length ≤ 1000) (h2 : ps.length ≤ 1000) (h3 : p.args.length ≤ 1000) : V 37 [.pv (.lst ((p :: ps).map Pa.enc)), .pv h.enc] = some (rowOut (rowP (p :: ps) h)) := by
  rw [pa_enc h, e37]
  have hz : ((p :: ps).map Pa.enc)[(0 : Int).toNat]? = some p.enc := rfl
  have hd : ((p :: ps).map Pa.enc).drop (1 : Int).toNat = ps.map Pa.enc := rfl
  have hb : (decide (0 ≤ (1 : Int)) && decide ((1 : Int) ≤ (((p :: ps).map Pa.enc).length : Int))) = true := by simp; omega
  simp only [hz, Option.bind_some, pa_fits, pa_eta, cond_true, v36, retPV_pv, fits_bool, toBool_bool]
  cases ho : op p with
  | true =>
    have hsm : small ((List.replicate h.args.length anyP).map Pa.enc).length ((ps.map Pa.enc).length) 56 = true := small_of (by simp; omega)
    have hl : ((h.args.map Pa.enc).length : Int) = (h.args.length : Int) := by simp
    simp only [cond_true, hl, v55 h1, Option.bind_some, retB_bld, headOk_pa, hb, hd, hsm]
    simp [rowP, ho, rowOut, rE]
  | false =>
    rw [← pa_enc h]
    simp only [cond_false, v53, Option.bind_some, retPV_pv, fits_bool, cond_true, toBool_bool]
    cases ha : alk p h with
    | true =>
      have hsm : small (p.args.map Pa.enc).length ((ps.map Pa.enc).length) 56 = true := small_of (by simp; omega)
      simp only [cond_true, pa_3, v10 _ h3, Option.bind_some, retB_bld, headOk_pa, hb, hd, hsm]
      simp [rowP, ho, ha, rowOut, rE]
    | false => simp [rowP, ho, ha, rowOut, rE]
/-- Short enough rows. -/
def shortR (l : List Pa) : Prop := l ≠ [] ∧ l.length ≤ 1000 ∧ ∀ p, p ∈ l → p.args.length ≤ 1000
theorem l35 (h : Pa) (hh : h.args.length ≤ 1000) (t : List (List Pa)) (ht : t.length ≤ 1000) (hs : ∀ l, l ∈ t → shortR l) : ∀ (rest : List (List Pa)) (k : Nat), t.drop k = rest → L35_11014 (tE (rowsP (t.take k) h)) (tE t) (k : Int) h.kind h.num h.text (h.args.map Pa.enc) = some (.bld 1 (tE (rowsP t h)), [])
  | [], k, hk => by
    have : t.take k = t := List.take_of_length_le (by have := congrArg List.length hk; simp at this; omega)
    rw [e35_11014, endK_map hk, this]
    rfl
  | x :: rest, k, hk => by
    have A := atK_map (f := rE) hk (by simp [maxLen]; omega)
    have A' := atK hk (by simp [maxLen]; omega)
    have hx := hs x (List.mem_of_getElem? A'.get')
    have ih := l35 h hh t ht hs rest (k + 1) A'.drop
    have htk : t.take (k + 1) = t.take k ++ [x] := by rw [List.take_add_one, A'.get']; rfl
    have hrow : rowsP (t.take (k + 1)) h = rowsP (t.take k) h ++ (rowP x h).toList := by
      rw [htk]; unfold rowsP; rw [List.filterMap_append]; simp only [List.filterMap_cons, List.filterMap_nil]; cases rowP x h <;> rfl
    obtain ⟨hne, hlx, hax⟩ := hx
    obtain ⟨p, ps, rfl⟩ : ∃ p ps, x = p :: ps := by cases x with | nil => exact absurd rfl hne | cons p ps => exact ⟨p, ps, rfl⟩
    have hv := v37 p ps h hh (by simp at hlx; omega) (hax p (List.mem_cons_self ..))
    rw [pa_enc h] at hv
    rw [e35_11014]
    simp only [A.lt, A.ge, A.get, A.next, cond_true, Option.bind_some, rE_fits, rE_toLst, hv, rowOut, retPV_pv]
    rw [hrow] at ih
    have hsm : small (tE (rowsP (t.take k) h)).length 1 24 = true := small_of (by
      have : (rowsP (t.take k) h).length ≤ (t.take k).length := rows_len _ _
      simp at this ⊢; omega)
    cases hr : rowP (p :: ps) h with
    | none =>
      rw [hr] at ih
      simp only [fits_tup, fitsL_cons, fitsL_nil, fits_bool, rE_fits, Bool.not_false, Bool.true_or, Bool.and_true, cond_true, r_zero, r_succ, toBool_bool, Option.isSome_none, cond_false]
      simpa using ih
    | some m =>
      rw [hr] at ih
      simp only [fits_tup, fitsL_cons, fitsL_nil, fits_bool, rE_fits, Bool.not_false, Bool.true_or, Bool.and_true, cond_true, r_zero, r_succ, toBool_bool, Option.isSome_some, Option.getD_some, rE_toLst, hsm]
      rw [show (PV.lst (m.map Pa.enc)) = rE m from rfl]
      simpa using ih
theorem v35 {h : Pa} (hh : h.args.length ≤ 1000) {t : List (List Pa)} (ht : t.length ≤ 1000) (hs : ∀ l, l ∈ t → shortR l) : V 35 [.pv (.lst (tE t)), .pv h.enc] = some (.bld 1 (tE (rowsP t h)), []) := by
  rw [pa_enc h, e35]
  exact l35 h hh t ht hs t 0 rfl
theorem l32 (t : List (List Pa)) (ht : t.length ≤ 1000) (hs : ∀ l, l ∈ t → shortR l) : ∀ (rest : List (List Pa)) (k : Nat), t.drop k = rest → L32_11014 ((colP (t.take k)).map Pa.enc) (tE t) (k : Int) = some (.bld 4 ((colP t).map Pa.enc), [])
  | [], k, hk => by
    have : t.take k = t := List.take_of_length_le (by have := congrArg List.length hk; simp at this; omega)
    rw [e32_11014, endK_map hk, this]
    rfl
  | x :: rest, k, hk => by
    have A := atK_map (f := rE) hk (by simp [maxLen]; omega)
    have A' := atK hk (by simp [maxLen]; omega)
    obtain ⟨hne, hlx, hax⟩ := hs x (List.mem_of_getElem? A'.get')
    have ih := l32 t ht hs rest (k + 1) A'.drop
    have htk : t.take (k + 1) = t.take k ++ [x] := by rw [List.take_add_one, A'.get']; rfl
    obtain ⟨p, ps, rfl⟩ : ∃ p ps, x = p :: ps := by cases x with | nil => exact absurd rfl hne | cons p ps => exact ⟨p, ps, rfl⟩
    have hz : ((p :: ps).map Pa.enc)[(0 : Int).toNat]? = some p.enc := rfl
    have hsm : small ((colP (t.take k)).map Pa.enc).length 1 56 = true := small_of (by simp [colP]; omega)
    rw [e32_11014]
    simp only [A.lt, A.ge, A.get, A.next, cond_true, Option.bind_some, rE_fits, rE_toLst, hz, pa_fits, pa_eta, hsm]
    rw [htk] at ih
    have : (colP (t.take k ++ [p :: ps])).map Pa.enc = (colP (t.take k)).map Pa.enc ++ [p.enc] := by simp [colP]
    rw [this] at ih
    exact ih
theorem v32 {t : List (List Pa)} (ht : t.length ≤ 1000) (hs : ∀ l, l ∈ t → shortR l) : V 32 [.pv (.lst (tE t))] = some (.bld 4 ((colP t).map Pa.enc), []) := by
  rw [e32]
  exact l32 t ht hs t 0 rfl
theorem l33 (t : List (List Pa)) (ht : t.length ≤ 1000) (hs : ∀ l, l ∈ t → shortR l) : ∀ (rest : List (List Pa)) (k : Nat), t.drop k = rest → L33_11014 (tE (restP (t.take k))) (tE t) (k : Int) = some (.bld 1 (tE (restP t)), [])
  | [], k, hk => by
    have : t.take k = t := List.take_of_length_le (by have := congrArg List.length hk; simp at this; omega)
    rw [e33_11014, endK_map hk, this]
    rfl
  | x :: rest, k, hk => by
    have A := atK_map (f := rE) hk (by simp [maxLen]; omega)
    have A' := atK hk (by simp [maxLen]; omega)
    obtain ⟨hne, hlx, hax⟩ := hs x (List.mem_of_getElem? A'.get')
    have ih := l33 t ht hs rest (k + 1) A'.drop
    have htk : t.take (k + 1) = t.take k ++ [x] := by rw [List.take_add_one, A'.get']; rfl
    obtain ⟨p, ps, rfl⟩ : ∃ p ps, x = p :: ps := by cases x with | nil => exact absurd rfl hne | cons p ps => exact ⟨p, ps, rfl⟩
    have hz : ((p :: ps).map Pa.enc)[(0 : Int).toNat]? = some p.enc := rfl
    have hd : ((p :: ps).map Pa.enc).drop (1 : Int).toNat = ps.map Pa.enc := rfl
    have hb : (decide (0 ≤ (1 : Int)) && decide ((1 : Int) ≤ ((rE (p :: ps)).toLst.length : Int))) = true := by simp [rE_toLst]; omega
    have hsm : small (tE (restP (t.take k))).length 1 24 = true := small_of (by
      have : (restP (t.take k)).length ≤ (t.take k).length := rest_len _
      simp at this ⊢; omega)
    rw [e33_11014]
    simp only [A.lt, A.ge, A.get, A.next, cond_true, Option.bind_some, hb]
    simp only [cond_true, Option.bind_some, rE_fits, rE_toLst, hz, pa_fits, pa_eta, v36, retPV_pv, fits_bool, toBool_bool]
    have hrow : restP (t.take (k + 1)) = restP (t.take k) ++ (restR (p :: ps)).toList := by
      rw [htk]; unfold restP; rw [List.filterMap_append]; simp only [List.filterMap_cons, List.filterMap_nil]; cases restR (p :: ps) <;> rfl
    rw [hrow] at ih
    cases ho : op p with
    | true =>
      simp only [restR, ho, cond_true, Option.toList_some] at ih
      simp only [cond_true, headOk_pa, hd, hsm]
      rw [show (PV.lst (ps.map Pa.enc)) = rE ps from rfl]
      rw [← List.map_singleton, ← List.map_append]
      exact ih
    | false =>
      simp only [restR, ho, cond_false, Option.toList_none, List.append_nil] at ih
      simpa using ih
theorem v33 {t : List (List Pa)} (ht : t.length ≤ 1000) (hs : ∀ l, l ∈ t → shortR l) : V 33 [.pv (.lst (tE t))] = some (.bld 1 (tE (restP t)), []) := by
  rw [e33]
  exact l33 t ht hs t 0 rfl
end Go.AL.S11
