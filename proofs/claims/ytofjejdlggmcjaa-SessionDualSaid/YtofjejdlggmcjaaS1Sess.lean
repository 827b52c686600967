/- Sessions: check, dual, after. -/
import Derived.Test.YtofjejdlggmcjaaS1ESess
import Derived.Test.YtofjejdlggmcjaaAL4
set_option linter.unusedVariables false
set_option linter.unusedSimpArgs false
namespace Go.AL.S1.Se
open Go Go.AL Go.AL.S1

abbrev Br := Int × Int
abbrev Sta := Int × List Br
abbrev Wd := Bool × Int
def eBr (b : Br) : PV := .agg [.int .i64 b.1, .int .i64 b.2]
def eSt (s : Sta) : PV := .agg [.int .i64 s.1, .lst (s.2.map eBr)]
def eWd (w : Wd) : PV := .agg [.bool w.1, .int .i64 w.2]
theorem br_fits (b : Br) : (Sh.agg [Sh.int .i64, Sh.int .i64]).fits (eBr b) = true := nrfl rfl
theorem br_m (b : Br) : ((eBr b).c 0).toInt = b.1 := nrfl rfl
theorem br_n (b : Br) : ((eBr b).c 1).toInt = b.2 := nrfl rfl
theorem st_fits (s : Sta) : (Sh.agg [Sh.int .i64, Sh.lst]).fits (eSt s) = true := nrfl rfl
theorem st_k (s : Sta) : ((eSt s).c 0).toInt = s.1 := nrfl rfl
theorem st_b (s : Sta) : ((eSt s).c 1).toLst = s.2.map eBr := nrfl rfl
theorem st_eta (s : Sta) : PV.agg [.int .i64 s.1, .lst (s.2.map eBr)] = eSt s := nrfl rfl
theorem wd_fits (w : Wd) : (Sh.agg [Sh.bool, Sh.int .i64]).fits (eWd w) = true := nrfl rfl
theorem wd_s (w : Wd) : ((eWd w).c 0).toBool = w.1 := nrfl rfl
theorem wd_m (w : Wd) : ((eWd w).c 1).toInt = w.2 := nrfl rfl

/-! #### Check -/
def ckB (n : Int) : Option Int → List Br → Int
  | _, [] => 0
  | p, b :: l => if b.1 < 0 then 1 else if b.1 > 20 then 1 else if b.2 < 0 then 1 else if b.2 ≥ n then 1 else
    match p with
    | some m => if m ≥ b.1 then 3 else ckB n (some b.1) l
    | none => ckB n (some b.1) l
def ckS (n : Int) : List Sta → Int
  | [] => 0
  | s :: l => if s.1 < 1 then 3 else if s.1 > 3 then 3 else if ((s.1 == 3) == ((s.2.length : Int) == 0)) = false then 3 else if (s.2.length : Int) > 6 then 2 else
    if ckB n none s.2 ≠ 0 then ckB n none s.2 else ckS n l
def chk (l : List Sta) : Int := if l.length = 0 then 2 else if (l.length : Int) > 16 then 2 else ckS l.length l

theorem l34b {ls : List Sta} {v : List Br} (hv : v.length ≤ maxLen) (i1 k0 : Int) : ∀ (l : List Br) (k : Nat), v.drop k = l → L34_110145110411114 (ls.map eSt) i1 (v.map eBr) k k0 =
    if ckB ls.length (if k = 0 then none else (v[k - 1]?).map (·.1)) l ≠ 0 then some (.pv (.int .i64 (ckB ls.length (if k = 0 then none else (v[k - 1]?).map (·.1)) l)), []) else L34_11014 (ls.map eSt) (IntKind.i64.wrap (i1 + 1))
  | [], k, h => by
    rw [e34_110145110411114, endK_map h]
    simp [ckB]
  | b :: l, k, h => by
    have A := atK_map (f := eBr) h hv
    have A' := atK h hv
    have ih := l34b (ls := ls) hv i1 k0 l (k + 1) A'.drop
    have e0 : (if k + 1 = 0 then none else (v[k + 1 - 1]?).map (·.1)) = some b.1 := by rw [if_neg (by omega), Nat.add_sub_cancel, A'.get']; rfl
    rw [e0] at ih
    rw [e34_110145110411114]
    simp only [A.lt, A.ge, A.get, A.next, cond_true, Option.bind_some]
    simp only [cD]
    simp only [cond_true, br_fits, br_m, br_n, List.length_map, ckB]
    by_cases h1 : b.1 < 0
    · simp [h1]
    by_cases h2 : b.1 > 20
    · simp [h1, h2]
    by_cases h3 : b.2 < 0
    · simp [h1, h2, h3]
    by_cases h4 : b.2 ≥ (ls.length : Int)
    · simp [h1, h2, h3, h4]
    by_cases h5 : k = 0
    · subst h5
      simp only [if_neg h1, if_neg h2, if_neg h3, if_neg h4, if_neg (show ¬ ((0 : Nat) : Int) > 0 from by omega), if_pos rfl]
      exact ih
    · obtain ⟨k', rfl⟩ : ∃ k', k = k' + 1 := ⟨k - 1, by omega⟩
      have hk' : k' < v.length := by have := A'.ltn; omega
      have hw : IntKind.i64.wrap (((k' + 1 : Nat) : Int) - 1) = (k' : Int) := by
        rw [wrap_i64 (by omega) (by simp [maxLen] at hv; omega)]; omega
      have hg : (v.map eBr)[(k' : Int).toNat]? = some (eBr v[k']) := by simp [hk']
      simp only [if_neg h1, if_neg h2, if_neg h3, if_neg h4, if_pos (show (((k' + 1 : Nat) : Int)) > 0 from by omega), hw, if_pos (Int.natCast_nonneg k'), hg, Option.bind_some, br_fits, cond_true, br_m, if_neg (show ¬ (k' + 1 = 0) from by omega), Nat.add_sub_cancel, List.getElem?_eq_getElem hk', Option.map_some]
      by_cases h6 : v[k'].1 ≥ b.1
      · simp [h6]
      · simp only [if_neg h6]
        exact ih

theorem l34a {ls : List Sta} (hl : ls.length ≤ maxLen) : ∀ (l : List Sta) (k : Nat), ls.drop k = l → L34_11014 (ls.map eSt) k = some (.pv (.int .i64 (ckS ls.length l)), [])
  | [], k, h => by
    rw [e34_11014, endK_map h]
    rfl
  | s :: l, k, h => by
    have A := atK_map (f := eSt) h hl
    have ih := l34a hl l (k + 1) (atK h hl).drop
    rw [e34_11014]
    simp only [A.lt, A.ge, A.get, cond_true, Option.bind_some]
    simp only [cD]
    simp only [cond_true, st_fits, st_k, st_b, List.length_map, ckS]
    by_cases h1 : s.1 < 1
    · simp [h1]
    by_cases h2 : s.1 > 3
    · simp [h1, h2]
    cases h3 : ((s.1 == 3) == ((s.2.length : Int) == 0)) with
    | false => simp [h1, h2]
    | true =>
      by_cases h4 : (s.2.length : Int) > 6
      · simp [h1, h2, h4]
      · have := l34b (ls := ls) (v := s.2) (by simp [maxLen]; omega) k s.1 s.2 0 rfl
        rw [show ((0 : Nat) : Int) = 0 from rfl, if_pos rfl] at this
        simp only [if_neg h1, if_neg h2, Bool.not_true, cond_false, if_neg h4, Bool.true_eq_false, if_false]
        rw [this, A.next, ih]
        split <;> rfl

theorem v34 {ls : List Sta} (hl : ls.length ≤ maxLen) : V 34 [.pv (.lst (ls.map eSt))] = some (.pv (.int .i64 (chk ls)), []) := by
  have h1 := l34a hl ls 0 rfl
  rw [show ((0 : Nat) : Int) = 0 from rfl] at h1
  rw [e34, h1]
  simp only [List.length_map, cD, chk]
  by_cases h : ls.length = 0
  · simp [h]
  · rw [show ((ls.length : Int) == 0) = false from by simp; intro e; subst e; simp at h]
    simp only [cond_false, if_neg h]
    split <;> rfl

structure WF (ls : List Sta) : Prop where
  n : ls.length ≤ 16
  pos : 0 < ls.length
  st : ∀ s, s ∈ ls → 1 ≤ s.1 ∧ s.1 ≤ 3 ∧ s.2.length ≤ 6 ∧ (s.1 = 3 ↔ s.2 = []) ∧ ∀ b, b ∈ s.2 → 0 ≤ b.1 ∧ b.1 ≤ 20 ∧ 0 ≤ b.2 ∧ b.2 < ls.length
theorem ckB_ok {n : Int} : ∀ {l : List Br} {p : Option Int}, ckB n p l = 0 → ∀ b, b ∈ l → 0 ≤ b.1 ∧ b.1 ≤ 20 ∧ 0 ≤ b.2 ∧ b.2 < n
  | [], _, _, b, hb => by cases hb
  | c :: l, p, h, b, hb => by
    simp only [ckB] at h
    split at h
    · cases h
    split at h
    · cases h
    split at h
    · cases h
    split at h
    · cases h
    have h' : ckB n (some c.1) l = 0 := by
      cases p with
      | none => exact h
      | some m =>
        simp only at h
        split at h
        · cases h
        · exact h
    rcases List.mem_cons.1 hb with rfl | hb
    · exact ⟨by omega, by omega, by omega, by omega⟩
    · exact ckB_ok h' b hb
theorem ckS_ok {n : Int} : ∀ {l : List Sta}, ckS n l = 0 → ∀ s, s ∈ l → 1 ≤ s.1 ∧ s.1 ≤ 3 ∧ s.2.length ≤ 6 ∧ (s.1 = 3 ↔ s.2 = []) ∧ ckB n none s.2 = 0
  | [], _, b, hb => by cases hb
  | c :: l, h, b, hb => by
    simp only [ckS] at h
    split at h
    · cases h
    split at h
    · cases h
    split at h
    · cases h
    split at h
    · cases h
    split at h
    · contradiction
    rename_i h1 h2 h3 h4 h5
    rcases List.mem_cons.1 hb with rfl | hb
    · refine ⟨by omega, by omega, by omega, ?_, by simpa using h5⟩
      have h3' : ((b.1 == 3) == ((b.2.length : Int) == 0)) = true := by simpa using h3
      have := beq_iff_eq.1 h3'
      constructor
      · intro e
        rw [e] at this
        have h0 : ((b.2.length : Int) == 0) = true := this.symm
        exact List.eq_nil_of_length_eq_zero (by have := beq_iff_eq.1 h0; omega)
      · intro e
        rw [e] at this
        have h0 : (b.1 == 3) = true := this
        exact beq_iff_eq.1 h0
    · exact ckS_ok h b hb
theorem chk_ok {ls : List Sta} (h : chk ls = 0) : WF ls := by
  unfold chk at h
  split at h
  · cases h
  split at h
  · cases h
  refine ⟨by omega, by omega, fun s hs => ?_⟩
  obtain ⟨g1, g2, g3, g4, g5⟩ := ckS_ok h s hs
  exact ⟨g1, g2, g3, g4, ckB_ok g5⟩

/-! #### Dual -/
def tk (k : Int) : Int := if k = 1 then 2 else if k = 2 then 1 else k
def dual (l : List Sta) : List Sta := l.map fun s => (tk s.1, s.2)
theorem ckS_dual (n : Int) : ∀ l : List Sta, ckS n (dual l) = ckS n l
  | [] => rfl
  | s :: l => by
    have ih := ckS_dual n l
    simp only [dual, List.map_cons, ckS] at ih ⊢
    rw [ih]
    unfold tk
    by_cases h1 : s.1 = 1
    · simp [h1]
    · by_cases h2 : s.1 = 2
      · simp [h2]
      · simp [h1, h2]
theorem chk_dual (l : List Sta) : chk (dual l) = chk l := by
  unfold chk
  have : (dual l).length = l.length := by simp [dual]
  rw [this, ckS_dual]

theorem clone_br {v : List Br} (hv : v.length ≤ 6) : V 65 [.pv (.lst (v.map eBr))] = some (.bld 2 (v.map eBr), []) := by
  rw [e65]
  unfold cloneOut
  have h1 : headOk 2 (v.map eBr) = true := by cases v <;> rfl
  have h2 : small 0 (v.map eBr).length 16 = true := small_of (by simp; omega)
  rw [h1, h2]
  rfl
theorem l25 {ls : List Sta} (hwf : WF ls) : ∀ (l : List Sta) (k : Nat) (acc : List Sta), ls.drop k = l → acc.length = k → L25_111014 (acc.map eSt) (ls.map eSt) k = some (.pv (.tup [.lst ((acc ++ dual l).map eSt), .int .i64 0]), [])
  | [], k, acc, h, _ => by
    rw [e25_111014, endK_map h]
    simp [dual]
  | s :: l, k, acc, h, hacc => by
    have hl : ls.length ≤ maxLen := by have := hwf.n; simp [maxLen]; omega
    have A := atK_map (f := eSt) h hl
    have A' := atK h hl
    have ih := l25 hwf l (k + 1) (acc ++ [(tk s.1, s.2)]) A'.drop (by simp [hacc])
    obtain ⟨g1, g2, g3, _⟩ := hwf.st s (List.mem_of_getElem? A'.get')
    have hs : small (acc.map eSt).length 1 32 = true := small_of (by have := A'.ltn; have := hwf.n; simp; omega)
    have go : ∀ i : Int, i = tk s.1 → L25_11101451104116 (acc.map eSt) (ls.map eSt) k i (s.2.map eBr) = some (.pv (.tup [.lst ((acc ++ dual (s :: l)).map eSt), .int .i64 0]), []) := by
      rintro i rfl
      rw [e25_11101451104116, clone_br g3]
      simp only [Option.bind_some, retPV_bld, fits_lstS, cond_true, hs, toLst_lst]
      have : acc.map eSt ++ [PV.agg [.int .i64 (tk s.1), .lst (s.2.map eBr)]] = (acc ++ [(tk s.1, s.2)]).map eSt := by simp [eSt]
      rw [this, A.next, ih]
      simp [dual]
    rw [e25_111014]
    simp only [A.lt, A.ge, A.get, cond_true, Option.bind_some]
    simp only [st_fits, st_k, st_b, cond_true]
    by_cases h1 : s.1 = 1
    · rw [show (s.1 == 1) = true from by simpa using h1]
      exact go 2 (by simp [tk, h1])
    · rw [show (s.1 == 1) = false from by simpa using h1]
      by_cases h2 : s.1 = 2
      · rw [show (s.1 == 2) = true from by simpa using h2]
        exact go 1 (by simp [tk, h2])
      · rw [show (s.1 == 2) = false from by simpa using h2]
        exact go s.1 (by simp [tk, h1, h2])
theorem v25_ok {ls : List Sta} (hl : ls.length ≤ maxLen) (h : chk ls = 0) : V 25 [.pv (.lst (ls.map eSt))] = some (.pv (.tup [.lst ((dual ls).map eSt), .int .i64 0]), []) := by
  rw [e25, v34 hl, h]
  exact l25 (chk_ok h) ls 0 [] rfl rfl
theorem v25_no {ls : List Sta} (hl : ls.length ≤ maxLen) (h : chk ls ≠ 0) : V 25 [.pv (.lst (ls.map eSt))] = some (.pv (.tup [.lst [], .int .i64 (chk ls)]), []) := by
  rw [e25, v34 hl]
  simp only [Option.bind_some, retPV_pv, fits_i64, cond_true, toInt_int]
  rw [show (chk ls != 0) = true from by simpa using h]
  rfl
theorem v24 : V 24 [] = some (.pv (.bool true), []) := by
  have h := v25_ok (ls := [(1, [(1, 1)]), (3, [])]) (by simp [maxLen]) (by decide)
  have h1 : V 25 [.pv (.lst [.agg [.int .i64 1, .lst [.agg [.int .i64 1, .int .i64 1]]], .agg [.int .i64 3, .lst []]])] = some (.pv (.tup [.lst [.agg [.int .i64 2, .lst [.agg [.int .i64 1, .int .i64 1]]], .agg [.int .i64 3, .lst []]], .int .i64 0]), []) := h
  rw [e24, h1]
  rfl

/-! #### After -/
def nxt (m : Int) : List Br → Option Int
  | [] => none
  | b :: l => if b.1 = m then some b.2 else nxt m l
theorem l66 {v : List Br} (hv : v.length ≤ maxLen) (m : Int) : ∀ (l : List Br) (k : Nat), v.drop k = l → L66_1014 m (v.map eBr) k = some (.pv (.tup [.int .i64 ((nxt m l).getD 0), .bool (nxt m l).isSome]), [])
  | [], k, h => by
    rw [e66_1014, endK_map h]
    rfl
  | b :: l, k, h => by
    have A := atK_map (f := eBr) h hv
    have ih := l66 hv m l (k + 1) (atK h hv).drop
    rw [e66_1014]
    simp only [A.lt, A.ge, A.get, A.next, cond_true, Option.bind_some]
    simp only [br_fits, br_m, br_n, cond_true, nxt]
    by_cases h1 : b.1 = m
    · rw [show (b.1 == m) = true from by simpa using h1]; simp [h1]
    · rw [show (b.1 == m) = false from by simpa using h1]; simp only [cond_false, if_neg h1]; exact ih
theorem v66 {s : Sta} (hv : s.2.length ≤ maxLen) (m : Int) : V 66 [.pv (eSt s), .pv (.int .i64 m)] = some (.pv (.tup [.int .i64 ((nxt m s.2).getD 0), .bool (nxt m s.2).isSome]), []) := by
  have h : V 66 [.pv (eSt s), .pv (.int .i64 m)] = _ := e66 s.1 (s.2.map eBr) m
  rw [h]
  exact l66 hv m s.2 0 rfl
theorem nxt_mem {m : Int} : ∀ {l : List Br} {n : Int}, nxt m l = some n → ∃ b, b ∈ l ∧ b.2 = n
  | [], n, h => by cases h
  | b :: l, n, h => by
    simp only [nxt] at h
    split at h
    · exact ⟨b, by simp, Option.some.inj h⟩
    · obtain ⟨c, h1, h2⟩ := nxt_mem h
      exact ⟨c, by simp [h1], h2⟩

def aft (l : List Sta) : Int → List Wd → Int × Int
  | i, [] => (i, 0)
  | i, w :: ws => match l[i.toNat]? with
    | none => (0, 0)
    | some s => if s.1 = 3 then (0, 8) else bif !((s.1 == 1) == w.1) then (0, 8) else
      match nxt w.2 s.2 with
      | none => (0, 4)
      | some n => aft l n ws
theorem l26 {ls : List Sta} (hwf : WF ls) {ws : List Wd} (hw : ws.length ≤ maxLen) : ∀ (l : List Wd) (k : Nat) (i : Int), ws.drop k = l → 0 ≤ i → i < ls.length → L26_111014 (ls.map eSt) i (ws.map eWd) k = some (.pv (.tup [.int .i64 (aft ls i l).1, .int .i64 (aft ls i l).2]), [])
  | [], k, i, h, _, _ => by
    rw [e26_111014, endK_map h]
    rfl
  | w :: l, k, i, h, h0, h1 => by
    have A := atK_map (f := eWd) h hw
    have A' := atK h hw
    obtain ⟨s, hs, hsm⟩ := get_int (xs := ls) h0 h1
    obtain ⟨g1, g2, g3, g4, g5⟩ := hwf.st s hsm
    have hs' : (ls.map eSt)[i.toNat]? = some (eSt s) := by simp [hs]
    rw [e26_111014]
    simp only [A.lt, A.ge, A.get, A.next, cond_true, Option.bind_some]
    simp only [wd_fits, wd_s, wd_m, cond_true, dT h0, hs', Option.bind_some, st_fits, st_k, st_b, st_eta, v66 (s := s) (by simp [maxLen]; omega), retPV_pv, fits_tup, fitsL_cons, fitsL_nil, fits_i64, fits_bool, Bool.not_false, Bool.true_or, Bool.and_self, r_succ, r_zero, toInt_int, toBool_bool, aft, hs]
    by_cases h3 : s.1 = 3
    · rw [show (s.1 == 3) = true from by simpa using h3]; simp [h3]
    rw [show (s.1 == 3) = false from by simpa using h3]
    simp only [cond_false, if_neg h3]
    cases h4 : ((s.1 == 1) == w.1) with
    | false => simp
    | true =>
      simp only [Bool.not_true, cond_false]
      cases hn : nxt w.2 s.2 with
      | none => simp
      | some n =>
        obtain ⟨b, hb, rfl⟩ := nxt_mem hn
        obtain ⟨_, _, f3, f4⟩ := g5 b hb
        simp only [Option.isSome_some, Bool.not_true, cond_false, Option.getD_some]
        exact l26 hwf hw l (k + 1) b.2 A'.drop f3 f4
theorem v26 {ls : List Sta} (hl : ls.length ≤ maxLen) (h : chk ls = 0) {ws : List Wd} (hw : ws.length ≤ maxLen) : V 26 [.pv (.lst (ls.map eSt)), .pv (.lst (ws.map eWd))] = some (.pv (.tup [.int .i64 (aft ls 0 ws).1, .int .i64 (aft ls 0 ws).2]), []) := by
  rw [e26, v34 hl, h]
  exact l26 (chk_ok h) hw ws 0 0 rfl (Int.le_refl _) (by have := (chk_ok h).pos; omega)

def tw (w : Wd) : Wd := (!w.1, w.2)
theorem aft_dual {ls : List Sta} (hwf : WF ls) : ∀ (ws : List Wd) (i : Int), aft (dual ls) i (ws.map tw) = aft ls i ws
  | [], i => rfl
  | w :: ws, i => by
    simp only [List.map_cons, aft]
    have hg : (dual ls)[i.toNat]? = (ls[i.toNat]?).map fun s => (tk s.1, s.2) := by simp [dual]
    rw [hg]
    cases hs : ls[i.toNat]? with
    | none => rfl
    | some s =>
      obtain ⟨g1, g2, _⟩ := hwf.st s (List.mem_of_getElem? hs)
      simp only [Option.map_some, tw]
      have h3 : (tk s.1 = 3) ↔ (s.1 = 3) := by unfold tk; constructor <;> intro h <;> (repeat' split at h) <;> (try split) <;> (try split) <;> omega
      by_cases e3 : s.1 = 3
      · rw [if_pos (h3.2 e3), if_pos e3]
      · rw [if_neg (fun h => e3 (h3.1 h)), if_neg e3]
        have hb : ((tk s.1 == 1) == !w.1) = ((s.1 == 1) == w.1) := by
          rcases (show s.1 = 1 ∨ s.1 = 2 by omega) with e | e
          · rw [e]; cases w.1 <;> rfl
          · rw [e]; cases w.1 <;> rfl
        rw [hb]
        cases nxt w.2 s.2 with
        | none => rfl
        | some n => simp only [aft_dual hwf ws n]

theorem l5 {aP vP : List PV} {ws : List Wd} (hw : ws.length ≤ maxLen) (hb : ws.length * 16 ≤ reachBytes) : ∀ (l : List Wd) (k : Nat) (acc : List Wd), ws.drop k = l → acc.length = k → ws = acc ++ l → L5_11111014 aP (ws.map eWd) vP ((acc.map tw).map eWd) k = L5_11111014 aP (ws.map eWd) vP ((ws.map tw).map eWd) ws.length
  | [], k, acc, h, hk, he => by
    have : ws = acc := by simpa using he
    subst this
    rw [hk]
  | w :: l, k, acc, h, hacc, he => by
    have A := atK_map (f := eWd) h hw
    have A' := atK h hw
    have ih := l5 (aP := aP) (vP := vP) hw hb l (k + 1) (acc ++ [w]) A'.drop (by simp [hacc]) (by simp [he])
    have hs : small ((acc.map tw).map eWd).length 1 16 = true := small_of (by have := A'.ltn; unfold reachBytes at hb; simp; omega)
    rw [e5_11111014]
    simp only [A.lt, A.ge, A.get, A.next, cond_true, Option.bind_some]
    simp only [wd_fits, wd_s, wd_m, cond_true, hs]
    have : (acc.map tw).map eWd ++ [PV.agg [.bool (!w.1), .int .i64 w.2]] = ((acc ++ [w]).map tw).map eWd := by simp [tw, eWd]
    rw [this, ih]
theorem law5 {ls : List Sta} {ws : List Wd} (hl : ls.length ≤ maxLen) (hw : ws.length ≤ maxLen) (hb : ws.length * 16 ≤ reachBytes) : V 5 [.pv (.lst (ls.map eSt)), .pv (.lst (ws.map eWd))] = some (.pv (.bool true), []) := by
  rw [e5, v24]
  simp only [Option.bind_some, retPV_pv, fits_bool, cond_true, toBool_bool, Bool.not_true, cond_false]
  by_cases h : chk ls = 0
  · have hwf := chk_ok h
    have hl' : (dual ls).length ≤ maxLen := by simpa [dual] using hl
    have h5 := l5 (aP := ls.map eSt) (vP := (dual ls).map eSt) hw hb ws 0 [] rfl rfl rfl
    rw [show ((0 : Nat) : Int) = 0 from rfl] at h5
    simp only [List.map_nil] at h5
    rw [v25_ok hl h]
    simp only [Option.bind_some, retPV_pv, fits_tup, fitsL_cons, fitsL_nil, fits_lstS, fits_i64, Bool.not_false, Bool.true_or, Bool.and_self, cond_true, r_succ, r_zero, toInt_int, toLst_lst, bne_self_eq_false, cond_false]
    rw [h5, e5_11111014]
    rw [show decide ((ws.length : Int) < ((ws.map eWd).length : Int)) = false from by simp]
    have k1 := v26 hl h hw
    have k2 := v26 hl' (by rw [chk_dual]; exact h) (ws := ws.map tw) (by simpa using hw)
    rw [aft_dual hwf] at k2
    simp only [cond_false, k1, k2, Option.bind_some, retPV_pv, fits_tup, fitsL_cons, fitsL_nil, fits_i64, Bool.not_false, Bool.true_or, Bool.and_self, cond_true, r_succ, r_zero, toInt_int, beq_self_eq_true]
  · rw [v25_no hl h]
    simp only [Option.bind_some, retPV_pv, fits_tup, fitsL_cons, fitsL_nil, fits_lstS, fits_i64, Bool.not_false, Bool.true_or, Bool.and_self, cond_true, r_succ, r_zero, toInt_int, toLst_lst]
    rw [show (chk ls != 0) = true from by simpa using h]
    rfl
end Go.AL.S1.Se
