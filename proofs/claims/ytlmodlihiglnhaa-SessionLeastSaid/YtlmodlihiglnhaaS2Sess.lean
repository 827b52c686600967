/- Sessions: check, dual, after. -/
import Derived.Test.YtlmodlihiglnhaaS2ESess
import Derived.Test.YtlmodlihiglnhaaAL4
set_option linter.unusedVariables false
set_option linter.unusedSimpArgs false
namespace Go.AL.S2.Se
open Go Go.AL Go.AL.S2

abbrev Br := Int × Int
abbrev Sta := Int × List Br
abbrev Wd := Bool × Int
def eBr (b : Br) : PV := .agg [.int .i64 b.1, .int .i64 b.2]
def eSt (s : Sta) : PV := .agg [.int .i64 s.1, .lst (s.2.map eBr)]
def eWd (w : Wd) : PV := .agg [.bool w.1, .int .i64 w.2]
theorem br_fits (b : Br) : (Sh.agg [Sh.int .i64, Sh.int .i64]).fits (eBr b) = true := nrfl rfl
theorem br_m (b : Br) : ((eBr b).c 0).toInt = b.1 := nrfl rfl
theorem br_n (b : Br) : ((eBr b).c 1).toInt = b.2 := nrfl rfl
theorem st_fits (s : Sta) : (Sh.agg [Sh.int .i64, Sh.lst]).fits (eSt s) = true := nrfl rfl
theorem st_k (s : Sta) : ((eSt s).c 0).toInt = s.1 := nrfl rfl
theorem st_b (s : Sta) : ((eSt s).c 1).toLst = s.2.map eBr := nrfl rfl
theorem st_eta (s : Sta) : PV.agg [.int .i64 s.1, .lst (s.2.map eBr)] = eSt s := nrfl rfl
theorem wd_fits (w : Wd) : (Sh.agg [Sh.bool, Sh.int .i64]).fits (eWd w) = true := nrfl rfl
theorem wd_s (w : Wd) : ((eWd w).c 0).toBool = w.1 := nrfl rfl
theorem wd_m (w : Wd) : ((eWd w).c 1).toInt = w.2 := nrfl rfl

/-! #### Check -/
def ckB (n : Int) : Option Int → List Br → Int
  | _, [] => 0
  | p, b :: l => if b.1 < 0 then 1 else if b.1 > 20 then 1 else if b.2 < 0 then 1 else if b.2 ≥ n then 1 else
    match p with
    | some m => if m ≥ b.1 then 3 else ckB n (some b.1) l
    | none => ckB n (some b.1) l
def ckS (n : Int) : List Sta → Int
  | [] => 0
  | s :: l => if s.1 < 1 then 3 else if s.1 > 3 then 3 else if ((s.1 == 3) == ((s.2.length : Int) == 0)) = false then 3 else if (s.2.length : Int) > 6 then 2 else
    if ckB n none s.2 ≠ 0 then ckB n none s.2 else ckS n l
def chk (l : List Sta) : Int := if l.length = 0 then 2 else if (l.length : Int) > 16 then 2 else ckS l.length l

theorem l28b {ls : List Sta} {v : List Br} (hv : v.length ≤ maxLen) (i1 k0 : Int) : ∀ (l : List Br) (k : Nat), v.drop k = l → L28_110145110411114 (ls.map eSt) i1 (v.map eBr) k k0 =
    if ckB ls.length (if k = 0 then none else (v[k - 1]?).map (·.1)) l ≠ 0 then some (.pv (.int .i64 (ckB ls.length (if k = 0 then none else (v[k - 1]?).map (·.1)) l)), []) else L28_11014 (ls.map eSt) (IntKind.i64.wrap (i1 + 1))
  | [], k, h => by
    rw [e28_110145110411114, endK_map h]
    simp [ckB]
  | b :: l, k, h => by
    have A := atK_map (f := eBr) h hv
    have A' := atK h hv
    have ih := l28b (ls := ls) hv i1 k0 l (k + 1) A'.drop
    have e0 : (if k + 1 = 0 then none else (v[k + 1 - 1]?).map (·.1)) = some b.1 := by rw [if_neg (by omega), Nat.add_sub_cancel, A'.get']; rfl
    rw [e0] at ih
    rw [e28_110145110411114]
    simp only [A.lt, A.ge, A.get, A.next, cond_true, Option.bind_some]
    simp only [cD]
    simp only [cond_true, br_fits, br_m, br_n, List.length_map, ckB]
    by_cases h1 : b.1 < 0
    · simp [h1]
    by_cases h2 : b.1 > 20
    · simp [h1, h2]
    by_cases h3 : b.2 < 0
    · simp [h1, h2, h3]
    by_cases h4 : b.2 ≥ (ls.length : Int)
    · simp [h1, h2, h3, h4]
    by_cases h5 : k = 0
    · subst h5
      simp only [if_neg h1, if_neg h2, if_neg h3, if_neg h4, if_neg (show ¬ ((0 : Nat) : Int) > 0 from by omega), if_pos rfl]
      exact ih
    · obtain ⟨k', rfl⟩ : ∃ k', k = k' + 1 := ⟨k - 1, by omega⟩
      have hk' : k' < v.length := by have := A'.ltn; omega
      have hw : IntKind.i64.wrap (((k' + 1 : Nat) : Int) - 1) = (k' : Int) := by
        rw [wrap_i64 (by omega) (by simp [maxLen] at hv; omega)]; omega
      have hg : (v.map eBr)[(k' : Int).toNat]? = some (eBr v[k']) := by simp [hk']
      simp only [if_neg h1, if_neg h2, if_neg h3, if_neg h4, if_pos (show (((k' + 1 : Nat) : Int)) > 0 from by omega), hw, if_pos (Int.natCast_nonneg k'), hg, Option.bind_some, br_fits, cond_true, br_m, if_neg (show ¬ (k' + 1 = 0) from by omega), Nat.add_sub_cancel, List.getElem?_eq_getElem hk', Option.map_some]
      by_cases h6 : v[k'].1 ≥ b.1
      · simp [h6]
      · simp only [if_neg h6]
        exact ih

theorem l28a {ls : List Sta} (hl : ls.length ≤ maxLen) : ∀ (l : List Sta) (k : Nat), ls.drop k = l → L28_11014 (ls.map eSt) k = some (.pv (.int .i64 (ckS ls.length l)), [])
  | [], k, h => by
    rw [e28_11014, endK_map h]
    rfl
  | s :: l, k, h => by
    have A := atK_map (f := eSt) h hl
    have ih := l28a hl l (k + 1) (atK h hl).drop
    rw [e28_11014]
    simp only [A.lt, A.ge, A.get, cond_true, Option.bind_some]
    simp only [cD]
    simp only [cond_true, st_fits, st_k, st_b, List.length_map, ckS]
    by_cases h1 : s.1 < 1
    · simp [h1]
    by_cases h2 : s.1 > 3
    · simp [h1, h2]
    cases h3 : ((s.1 == 3) == ((s.2.length : Int) == 0)) with
    | false => simp [h1, h2]
    | true =>
      by_cases h4 : (s.2.length : Int) > 6
      · simp [h1, h2, h4]
      · have := l28b (ls := ls) (v := s.2) (by simp [maxLen]; omega) k s.1 s.2 0 rfl
        rw [show ((0 : Nat) : Int) = 0 from rfl, if_pos rfl] at this
        simp only [if_neg h1, if_neg h2, Bool.not_true, cond_false, if_neg h4, Bool.true_eq_false, if_false]
        rw [this, A.next, ih]
        split <;> rfl

theorem v28 {ls : List Sta} (hl : ls.length ≤ maxLen) : V 28 [.pv (.lst (ls.map eSt))] = some (.pv (.int .i64 (chk ls)), []) := by
  have h1 := l28a hl ls 0 rfl
  rw [show ((0 : Nat) : Int) = 0 from rfl] at h1
  rw [e28, h1]
  simp only [List.length_map, cD, chk]
  by_cases h : ls.length = 0
  · simp [h]
  · rw [show ((ls.length : Int) == 0) = false from by simp; intro e; subst e; simp at h]
    simp only [cond_false, if_neg h]
    split <;> rfl

structure WF (ls : List Sta) : Prop where
  n : ls.length ≤ 16
  pos : 0 < ls.length
  st : ∀ s, s ∈ ls → 1 ≤ s.1 ∧ s.1 ≤ 3 ∧ s.2.length ≤ 6 ∧ (s.1 = 3 ↔ s.2 = []) ∧ ∀ b, b ∈ s.2 → 0 ≤ b.1 ∧ b.1 ≤ 20 ∧ 0 ≤ b.2 ∧ b.2 < ls.length
theorem ckB_ok {n : Int} : ∀ {l : List Br} {p : Option Int}, ckB n p l = 0 → ∀ b, b ∈ l → 0 ≤ b.1 ∧ b.1 ≤ 20 ∧ 0 ≤ b.2 ∧ b.2 < n
  | [], _, _, b, hb => by cases hb
  | c :: l, p, h, b, hb => by
    simp only [ckB] at h
    split at h
    · cases h
    split at h
    · cases h
    split at h
    · cases h
    split at h
    · cases h
    have h' : ckB n (some c.1) l = 0 := by
      cases p with
      | none => exact h
      | some m =>
        simp only at h
        split at h
        · cases h
        · exact h
    rcases List.mem_cons.1 hb with rfl | hb
    · exact ⟨by omega, by omega, by omega, by omega⟩
    · exact ckB_ok h' b hb
theorem ckS_ok {n : Int} : ∀ {l : List Sta}, ckS n l = 0 → ∀ s, s ∈ l → 1 ≤ s.1 ∧ s.1 ≤ 3 ∧ s.2.length ≤ 6 ∧ (s.1 = 3 ↔ s.2 = []) ∧ ckB n none s.2 = 0
  | [], _, b, hb => by cases hb
  | c :: l, h, b, hb => by
    simp only [ckS] at h
    split at h
    · cases h
    split at h
    · cases h
    split at h
    · cases h
    split at h
    · cases h
    split at h
    · contradiction
    rename_i h1 h2 h3 h4 h5
    rcases List.mem_cons.1 hb with rfl | hb
    · refine ⟨by omega, by omega, by omega, ?_, by simpa using h5⟩
      have h3' : ((b.1 == 3) == ((b.2.length : Int) == 0)) = true := by simpa using h3
      have := beq_iff_eq.1 h3'
      constructor
      · intro e
        rw [e] at this
        have h0 : ((b.2.length : Int) == 0) = true := this.symm
        exact List.eq_nil_of_length_eq_zero (by have := beq_iff_eq.1 h0; omega)
      · intro e
        rw [e] at this
        have h0 : (b.1 == 3) = true := this
        exact beq_iff_eq.1 h0
    · exact ckS_ok h b hb
theorem chk_ok {ls : List Sta} (h : chk ls = 0) : WF ls := by
  unfold chk at h
  split at h
  · cases h
  split at h
  · cases h
  refine ⟨by omega, by omega, fun s hs => ?_⟩
  obtain ⟨g1, g2, g3, g4, g5⟩ := ckS_ok h s hs
  exact ⟨g1, g2, g3, g4, ckB_ok g5⟩

/-! #### Dual -/
def tk (k : Int) : Int := if k = 1 then 2 else if k = 2 then 1 else k
def dual (l : List Sta) : List Sta := l.map fun s => (tk s.1, s.2)
theorem ckS_dual (n : Int) : ∀ l : List Sta, ckS n (dual l) = ckS n l
  | [] => rfl
  | s :: l => by
    have ih := ckS_dual n l
    simp only [dual, List.map_cons, ckS] at ih ⊢
    rw [ih]
    unfold tk
    by_cases h1 : s.1 = 1
    · simp [h1]
    · by_cases h2 : s.1 = 2
      · simp [h2]
      · simp [h1, h2]
theorem chk_dual (l : List Sta) : chk (dual l) = chk l := by
  unfold chk
  have : (dual l).length = l.length := by simp [dual]
  rw [this, ckS_dual]

theorem clone_br {v : List Br} (hv : v.length ≤ 6) : V 70 [.pv (.lst (v.map eBr))] = some (.bld 2 (v.map eBr), []) := by
  rw [e70]
  unfold cloneOut
  have h1 : headOk 2 (v.map eBr) = true := by cases v <;> rfl
  have h2 : small 0 (v.map eBr).length 16 = true := small_of (by simp; omega)
  rw [h1, h2]
  rfl
theorem l27 {ls : List Sta} (hwf : WF ls) : ∀ (l : List Sta) (k : Nat) (acc : List Sta), ls.drop k = l → acc.length = k → L27_111014 (acc.map eSt) (ls.map eSt) k = some (.pv (.tup [.lst ((acc ++ dual l).map eSt), .int .i64 0]), [])
  | [], k, acc, h, _ => by
    rw [e27_111014, endK_map h]
    simp [dual]
  | s :: l, k, acc, h, hacc => by
    have hl : ls.length ≤ maxLen := by have := hwf.n; simp [maxLen]; omega
    have A := atK_map (f := eSt) h hl
    have A' := atK h hl
    have ih := l27 hwf l (k + 1) (acc ++ [(tk s.1, s.2)]) A'.drop (by simp [hacc])
    obtain ⟨g1, g2, g3, _⟩ := hwf.st s (List.mem_of_getElem? A'.get')
    have hs : small (acc.map eSt).length 1 32 = true := small_of (by have := A'.ltn; have := hwf.n; simp; omega)
    have go : ∀ i : Int, i = tk s.1 → L27_11101451104116 (acc.map eSt) (ls.map eSt) k i (s.2.map eBr) = some (.pv (.tup [.lst ((acc ++ dual (s :: l)).map eSt), .int .i64 0]), []) := by
      rintro i rfl
      rw [e27_11101451104116, clone_br g3]
      simp only [Option.bind_some, retPV_bld, fits_lstS, cond_true, hs, toLst_lst]
      have : acc.map eSt ++ [PV.agg [.int .i64 (tk s.1), .lst (s.2.map eBr)]] = (acc ++ [(tk s.1, s.2)]).map eSt := by simp [eSt]
      rw [this, A.next, ih]
      simp [dual]
    rw [e27_111014]
    simp only [A.lt, A.ge, A.get, cond_true, Option.bind_some]
    simp only [st_fits, st_k, st_b, cond_true]
    by_cases h1 : s.1 = 1
    · rw [show (s.1 == 1) = true from by simpa using h1]
      exact go 2 (by simp [tk, h1])
    · rw [show (s.1 == 1) = false from by simpa using h1]
      by_cases h2 : s.1 = 2
      · rw [show (s.1 == 2) = true from by simpa using h2]
        exact go 1 (by simp [tk, h2])
      · rw [show (s.1 == 2) = false from by simpa using h2]
        exact go s.1 (by simp [tk, h1, h2])
theorem v27_ok {ls : List Sta} (hl : ls.length ≤ maxLen) (h : chk ls = 0) : V 27 [.pv (.lst (ls.map eSt))] = some (.pv (.tup [.lst ((dual ls).map eSt), .int .i64 0]), []) := by
  rw [e27, v28 hl, h]
  exact l27 (chk_ok h) ls 0 [] rfl rfl
theorem v27_no {ls : List Sta} (hl : ls.length ≤ maxLen) (h : chk ls ≠ 0) : V 27 [.pv (.lst (ls.map eSt))] = some (.pv (.tup [.lst [], .int .i64 (chk ls)]), []) := by
  rw [e27, v28 hl]
  simp only [Option.bind_some, retPV_pv, fits_i64, cond_true, toInt_int]
  rw [show (chk ls != 0) = true from by simpa using h]
  rfl
theorem v9 : V 9 [] = some (.pv (.bool true), []) := by
  have h := v27_ok (ls := [(1, [(1, 1)]), (3, [])]) (by simp [maxLen]) (by decide)
  have h1 : V 27 [.pv (.lst [.agg [.int .i64 1, .lst [.agg [.int .i64 1, .int .i64 1]]], .agg [.int .i64 3, .lst []]])] = some (.pv (.tup [.lst [.agg [.int .i64 2, .lst [.agg [.int .i64 1, .int .i64 1]]], .agg [.int .i64 3, .lst []]], .int .i64 0]), []) := h
  rw [e9, h1]
  rfl

/-! #### After -/
def nxt (m : Int) : List Br → Option Int
  | [] => none
  | b :: l => if b.1 = m then some b.2 else nxt m l
theorem l74 {v : List Br} (hv : v.length ≤ maxLen) (m : Int) : ∀ (l : List Br) (k : Nat), v.drop k = l → L74_1014 m (v.map eBr) k = some (.pv (.tup [.int .i64 ((nxt m l).getD 0), .bool (nxt m l).isSome]), [])
  | [], k, h => by
    rw [e74_1014, endK_map h]
    rfl
  | b :: l, k, h => by
    have A := atK_map (f := eBr) h hv
    have ih := l74 hv m l (k + 1) (atK h hv).drop
    rw [e74_1014]
    simp only [A.lt, A.ge, A.get, A.next, cond_true, Option.bind_some]
    simp only [br_fits, br_m, br_n, cond_true, nxt]
    by_cases h1 : b.1 = m
    · rw [show (b.1 == m) = true from by simpa using h1]; simp [h1]
    · rw [show (b.1 == m) = false from by simpa using h1]; simp only [cond_false, if_neg h1]; exact ih
theorem v74 {s : Sta} (hv : s.2.length ≤ maxLen) (m : Int) : V 74 [.pv (eSt s), .pv (.int .i64 m)] = some (.pv (.tup [.int .i64 ((nxt m s.2).getD 0), .bool (nxt m s.2).isSome]), []) := by
  have h : V 74 [.pv (eSt s), .pv (.int .i64 m)] = _ := e74 s.1 (s.2.map eBr) m
  rw [h]
  exact l74 hv m s.2 0 rfl
theorem nxt_mem {m : Int} : ∀ {l : List Br} {n : Int}, nxt m l = some n → ∃ b, b ∈ l ∧ b.2 = n
  | [], n, h => by cases h
  | b :: l, n, h => by
    simp only [nxt] at h
    split at h
    · exact ⟨b, by simp, Option.some.inj h⟩
    · obtain ⟨c, h1, h2⟩ := nxt_mem h
      exact ⟨c, by simp [h1], h2⟩

end Go.AL.S2.Se
