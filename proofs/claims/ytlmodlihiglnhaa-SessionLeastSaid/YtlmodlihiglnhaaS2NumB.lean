/- Sessions: states numbered, and compared, as the program does it. -/
import Derived.Test.YtlmodlihiglnhaaS2NumA
set_option linter.unusedVariables false
set_option linter.unusedSimpArgs false
namespace Go.AL.S2.Se
open Go Go.AL Go.AL.S2

def eI (n : Int) : PV := .int .i64 n
theorem i_fits (n : Int) : (Sh.int .i64).fits (eI n) = true := nrfl rfl
theorem i_i (n : Int) : (eI n).toInt = n := nrfl rfl
def eMp (c : Int → Nat) : List Int → Nat → List (PV × PV)
  | [], _ => []
  | r :: l, k => (eN (c r), eN k) :: eMp c l (k + 1)
theorem key_nn (m n : Nat) : keyEq (.one .int) (eN m) (eN n) = some (m == n) := by
  show (bif decide (IntKind.i64 = IntKind.i64) then some ((m : Int) == (n : Int)) else none) = _
  rw [beq_cast]; rfl
theorem mget_eMp (c : Int → Nat) (x : Nat) : ∀ (l : List Int) (k : Nat), mget (.one .int) (eMp c l k) (eN x) = some ((pos c x l k).map eN)
  | [], k => rfl
  | r :: l, k => by
    have ih := mget_eMp c x l (k + 1)
    simp only [eMp, mget, key_nn, pos, ih]
    by_cases h : c r = x
    · subst h; simp
    · rw [show (x == c r) = false from by simpa using fun e => h e.symm]
      simp [h]
theorem mset_eMp (c : Int → Nat) (x j : Nat) : ∀ (l : List Int) (k : Nat), pos c x l k = none → mset (.one .int) (eMp c l k) (eN x) (eN j) = some (eMp c l k ++ [(eN x, eN j)])
  | [], k, _ => rfl
  | r :: l, k, h => by
    simp only [pos] at h
    split at h
    · cases h
    · rename_i hr
      have ih := mset_eMp c x j l (k + 1) h
      simp only [eMp, mset, key_nn, ih]
      rw [show (x == c r) = false from by simpa using fun e => hr e.symm]
      simp
theorem eMp_snoc (c : Int → Nat) (r : Int) : ∀ (l : List Int) (k : Nat), eMp c (l ++ [r]) k = eMp c l k ++ [(eN (c r), eN (k + l.length))]
  | [], k => rfl
  | s :: l, k => by
    have ih := eMp_snoc c r l (k + 1)
    simp only [List.cons_append, eMp, ih, List.length_cons]
    rw [show k + 1 + l.length = k + (l.length + 1) by omega]

theorem c_at {cl : List Nat} {n : Int} (h0 : 0 ≤ n) (h1 : n < cl.length) : (cl.map eN)[n.toNat]? = some (eN (cOf cl n)) := get_map (getD_at 0 (by omega))

theorem l31c {lsP clP outP v : List PV} {c : Int → Nat} {row : List Int} {i1 kind msg nx : Int} {acc : List Br} (x j : Nat) (hx : pos c x row 0 = some j) (hacc : acc.length ≤ 6) {k : Int} :
    L31_111101451041014511041116 lsP clP (row.map eI) outP i1 x v k (eMp c row 0) kind (acc.map eBr) msg nx = L31_111101451041014 lsP clP (row.map eI) outP i1 v (IntKind.i64.wrap (k + 1)) (eMp c row 0) kind ((acc ++ [(msg, (j : Int))]).map eBr) := by
  have hg := mget_eMp c x row 0
  rw [hx] at hg
  rw [e31_111101451041014511041116]
  rw [show (PV.int .i64 (x : Int)) = eN x from rfl, hg]
  simp only [Option.bind_some, Option.map_some, Option.getD_some, n_fits, n_i, cond_true, List.length_map, small_of (show (acc.length + 1) * 16 ≤ 141000000000000 by omega)]
  rw [List.map_append]
  rfl

theorem l31b {ls : List Sta} (hw : WF ls) {cl : List Nat} (hg : Good ls cl) {v : List Br} (hv : v.length ≤ 6) (hin : In ls.length v) {outP : List PV} (hout : outP.length ≤ 16) {i1 kind : Int} : ∀ (l : List Br) (k : Nat) (row : List Int) (acc : List Br), v.drop k = l → acc.length = k → RowOk (cOf cl) ls.length row →
    L31_111101451041014 (ls.map eSt) (cl.map eN) (row.map eI) outP i1 (v.map eBr) k (eMp (cOf cl) row 0) kind (acc.map eBr) = L31_1111014 (ls.map eSt) (cl.map eN) ((nB (cOf cl) l row acc).1.map eI) (outP ++ [eSt (kind, (nB (cOf cl) l row acc).2)]) (IntKind.i64.wrap (i1 + 1)) (eMp (cOf cl) (nB (cOf cl) l row acc).1 0)
  | [], k, row, acc, h, _, hr => by
    rw [e31_111101451041014, endK_map h]
    simp only [cond_false, small_of (show (outP.length + 1) * 32 ≤ 141000000000000 by omega), cond_true, nB]
    rfl
  | b :: l, k, row, acc, h, hacc, hr => by
    have hn := hw.n
    have hvm : v.length ≤ maxLen := by simp [maxLen]; omega
    have A := atK_map (f := eBr) h hvm
    have A' := atK h hvm
    have hb := hin b (List.mem_of_getElem? A'.get')
    have hk := A'.ltn
    have hcl := c_at (cl := cl) hb.1 (by have := hg.len; omega)
    have hm := mget_eMp (cOf cl) (cOf cl b.2) row 0
    have hrl := hr.len
    rw [e31_111101451041014]
    simp only [A.lt, A.ge, A.get, cond_true, Option.bind_some]
    simp only [br_fits, br_m, br_n, cond_true, dT hb.1, hcl, Option.bind_some, n_fits, n_i]
    rw [show (PV.int .i64 ((cOf cl b.2 : Nat) : Int)) = eN (cOf cl b.2) from rfl, hm]
    cases hp : pos (cOf cl) (cOf cl b.2) row 0 with
    | some p =>
      have ih := l31b hw hg hv hin hout (i1 := i1) (kind := kind) l (k + 1) row (acc ++ [(b.1, (p : Int))]) A'.drop (by simp [hacc]) hr
      simp only [Option.bind_some, Option.map_some, Option.getD_some, n_fits, cond_true, Option.isSome_some, Bool.not_true, cond_false]
      rw [l31c _ p hp (by omega), A.next, ih]
      simp only [nB, hp]
    | none =>
      have hr' := hr.snoc hb (good_c hg _ hb.1 hb.2) hp
      have ih := l31b hw hg hv hin hout (i1 := i1) (kind := kind) l (k + 1) (row ++ [b.2]) (acc ++ [(b.1, (row.length : Int))]) A'.drop (by simp [hacc]) hr'
      have hs := mset_eMp (cOf cl) (cOf cl b.2) row.length row 0 hp
      have he := eMp_snoc (cOf cl) b.2 row 0
      rw [Nat.zero_add] at he
      rw [← he] at hs
      have hfz : (Sh.int .i64).fits ((none : Option PV).getD (.int .i64 0)) = true := nrfl rfl
      simp only [Option.bind_some, Option.map_none, hfz, cond_true, Option.isSome_none, Bool.not_false, List.length_map]
      rw [show (PV.int .i64 ((row.length : Nat) : Int)) = eN row.length from rfl, hs]
      simp only [Option.bind_some, small_of (show (row.length + 1) * 8 ≤ 141000000000000 by omega), cond_true]
      rw [show (row.map eI ++ [PV.int .i64 b.2]) = (row ++ [b.2]).map eI from by rw [List.map_append]; rfl]
      have hp' := pos_snoc (c := cOf cl) (r := b.2) rfl hp
      rw [Nat.zero_add] at hp'
      rw [l31c _ row.length hp' (by omega), A.next, ih]
      simp only [nB, hp]

theorem l31a {ls : List Sta} (hw : WF ls) {cl : List Nat} (hg : Good ls cl) (f : Nat) : ∀ (k : Nat) (row : List Int) (out : List Sta), 17 - k ≤ f → NInv (cOf cl) ls k row out → L31_1111014 (ls.map eSt) (cl.map eN) (row.map eI) (out.map eSt) k (eMp (cOf cl) row 0) = some (.bld 2 ((nR (cOf cl) ls f k row out).map eSt), []) := by
  induction f with
  | zero =>
    intro k row out hf h
    have hn := hw.n
    have hl := h.ok.len
    have := h.le
    omega
  | succ f ih =>
    intro k row out hf h
    have hn := hw.n
    have hl := h.ok.len
    have hle := h.le
    have hol := h.len
    rw [e31_1111014]
    rcases Nat.lt_or_ge k row.length with hk | hk
    · obtain ⟨r, hr⟩ : ∃ r, row[k]? = some r := ⟨_, List.getElem?_eq_getElem hk⟩
      have hrr := h.ok.rng r (List.mem_of_getElem? hr)
      obtain ⟨s, hs, hsm⟩ := get_int (xs := ls) hrr.1 hrr.2
      have hb := l31b hw hg (v := s.2) (hw.st s hsm).2.2.1 (wf_in hw hsm rfl) (outP := out.map eSt) (by simp; omega) (i1 := (k : Int)) (kind := s.1) s.2 0 row [] rfl rfl h.ok
      have hi := ih (k + 1) _ _ (by omega) (h.next hw (good_c hg) hr hs)
      rw [show ((0 : Nat) : Int) = 0 from rfl, show ([] : List Br).map eBr = [] from rfl, wrap_i64 (by omega) (by omega), show (k : Int) + 1 = ((k + 1 : Nat) : Int) from by omega, show (out.map eSt ++ [eSt (s.1, (nB (cOf cl) s.2 row []).2)]) = (out ++ [(s.1, (nB (cOf cl) s.2 row []).2)]).map eSt from by rw [List.map_append]; rfl, hi] at hb
      simp only [List.length_map, dT (show (k : Int) < ((row.length : Nat) : Int) by omega), dT (Int.natCast_nonneg k), cond_true, Int.toNat_natCast, get_map (f := eI) hr, Option.bind_some, i_fits, i_i, dT hrr.1, get_map (f := eSt) hs, st_fits, st_k, st_b]
      rw [hb]
      simp only [nR, hr, hs]
    · simp only [List.length_map, dF (show ¬ (k : Int) < ((row.length : Nat) : Int) by omega), cond_false, nR, List.getElem?_eq_none hk]

theorem v31 {ls : List Sta} (hw : WF ls) {cl : List Nat} (hg : Good ls cl) : V 31 [.pv (.lst (ls.map eSt)), .pv (.lst (cl.map eN))] = some (.bld 2 ((numF ls cl).map eSt), []) := by
  have hp := hw.pos
  have h := l31a hw hg 17 0 [0] [] (by omega) (inv_start hw hg)
  have hc : (cl.map eN)[(0 : Int).toNat]? = some (eN (cOf cl 0)) := c_at (Int.le_refl _) (by have := hg.len; omega)
  have hm : mset (.one .int) ([] : List (PV × PV)) (.int .i64 (eN (cOf cl 0)).toInt) (.int .i64 0) = some (eMp (cOf cl) [0] 0) := rfl
  rw [e31, hc]
  simp only [Option.bind_some, n_fits, cond_true]
  rw [hm]
  simp only [Option.bind_some]
  exact h
theorem t31 {ls : List Sta} (hw : WF ls) {cl : List Nat} (hg : Good ls cl) : T31 ls cl = some (.pv (.tup [.lst ((numF ls cl).map eSt), .int .i64 0]), []) := by
  unfold T31
  rw [v31 hw hg]
  simp only [Option.bind_some, retB_bld]

/-! #### Alike as they stand -/
theorem l35 {a b : List Br} (hl : a.length = b.length) (ha : a.length ≤ maxLen) : ∀ (l m : List Br) (k : Nat), a.drop k = l → b.drop k = m → L35_11014 (a.map eBr) (b.map eBr) k = some (.pv (.bool (decide (l = m))), [])
  | [], m, k, h, h2 => by
    have : m = [] := by
      have e1 := congrArg List.length h
      have e2 := congrArg List.length h2
      simp at e1 e2
      exact List.eq_nil_of_length_eq_zero (by omega)
    subst this
    rw [e35_11014, endK_map h]
    rfl
  | x :: l, [], k, h, h2 => by
    have e1 := congrArg List.length h
    have e2 := congrArg List.length h2
    simp at e1 e2
    omega
  | x :: l, y :: m, k, h, h2 => by
    have A := atK_map (f := eBr) h ha
    have B := atK_map (f := eBr) h2 (by omega)
    have ih := l35 hl ha l m (k + 1) (atK h ha).drop (atK h2 (by omega)).drop
    rw [e35_11014]
    simp only [A.lt, A.ge, A.get, A.next, B.get, cond_true, Option.bind_some, br_fits, br_m, br_n]
    have hd : ((x.1 == y.1) && ((x.2 == y.2) && true)) = decide (x = y) := by
      obtain ⟨p, q⟩ := x
      obtain ⟨r, s⟩ := y
      by_cases h1 : p = r <;> by_cases h2 : q = s <;> simp [h1, h2]
    rw [hd]
    by_cases hxy : x = y
    · subst hxy
      simp only [decide_true, Bool.not_true, cond_false]
      rw [ih]
      simp
    · simp [hxy]
theorem v35 (a b : List Br) (ha : a.length ≤ maxLen) : V 35 [.pv (.lst (a.map eBr)), .pv (.lst (b.map eBr))] = some (.pv (.bool (decide (a = b))), []) := by
  rw [e35]
  simp only [List.length_map]
  by_cases h : a.length = b.length
  · rw [show ((a.length : Int) != (b.length : Int)) = false from by simp [h]]
    exact l35 h ha a b 0 rfl rfl
  · rw [show ((a.length : Int) != (b.length : Int)) = true from by simp; omega]
    have : ¬ a = b := fun e => h (by rw [e])
    simp [this]
theorem v34 (x y : Sta) (hx : x.2.length ≤ maxLen) : V 34 [.pv (eSt x), .pv (eSt y)] = some (.pv (.bool (decide (x = y))), []) := by
  have h : V 34 [.pv (eSt x), .pv (eSt y)] = _ := e34 x.1 (x.2.map eBr) y.1 (y.2.map eBr)
  rw [h, v35 x.2 y.2 hx]
  obtain ⟨p, q⟩ := x
  obtain ⟨r, s⟩ := y
  by_cases h1 : p = r
  · subst h1
    simp only [beq_self_eq_true, cond_true, Option.bind_some, retPV_pv, fits_bool, toBool_bool]
    by_cases h2 : q = s <;> simp [h2]
  · rw [show (p == r) = false from by simpa using h1]
    simp [h1]
theorem l33 {a b : List Sta} (hw : WF a) (hl : a.length = b.length) : ∀ (l m : List Sta) (k : Nat), a.drop k = l → b.drop k = m → L33_11014 (b.map eSt) 34 [] (a.map eSt) k = some (.pv (.bool (decide (l = m))), [])
  | [], m, k, h, h2 => by
    have : m = [] := by
      have e1 := congrArg List.length h
      have e2 := congrArg List.length h2
      simp at e1 e2
      exact List.eq_nil_of_length_eq_zero (by omega)
    subst this
    rw [e33_11014, endK_map h]
    rfl
  | x :: l, [], k, h, h2 => by
    have e1 := congrArg List.length h
    have e2 := congrArg List.length h2
    simp at e1 e2
    omega
  | x :: l, y :: m, k, h, h2 => by
    have ha : a.length ≤ maxLen := by have := hw.n; simp [maxLen]; omega
    have A := atK_map (f := eSt) h ha
    have B := atK_map (f := eSt) h2 (by omega)
    have A' := atK h ha
    have ih := l33 hw hl l m (k + 1) A'.drop (atK h2 (by omega)).drop
    have h6 := (hw.st x (List.mem_of_getElem? A'.get')).2.2.1
    rw [e33_11014]
    simp only [A.lt, A.ge, A.get, A.next, B.get, cond_true, Option.bind_some, st_fits, st_k, st_b, st_eta, List.append_nil, List.map_cons, List.map_nil, v34 x y (by simp [maxLen]; omega), retPV_pv, fits_bool, toBool_bool]
    by_cases hxy : x = y
    · subst hxy
      simp only [decide_true, Bool.not_true, cond_false]
      rw [ih]
      simp
    · simp [hxy]
theorem v12 {a b : List Sta} (hw : WF a) : V 12 [.pv (.lst (a.map eSt)), .pv (.lst (b.map eSt))] = some (.pv (.bool (decide (a = b))), []) := by
  rw [e12, e33]
  simp only [List.length_map]
  by_cases h : a.length = b.length
  · rw [show ((a.length : Int) != (b.length : Int)) = false from by simp [h]]
    have := l33 hw h a b 0 rfl rfl
    rw [show ((0 : Nat) : Int) = 0 from rfl] at this
    simp only [cond_false, this, Option.bind_some, retPV_pv, fits_bool, cond_true, toBool_bool]
  · rw [show ((a.length : Int) != (b.length : Int)) = true from by simp; omega]
    have : ¬ a = b := fun e => h (by rw [e])
    simp only [cond_true, Option.bind_some, retPV_pv, fits_bool, toBool_bool, this, decide_false]

/-! #### Least, same -/
theorem v10 {a : List Sta} (hl : a.length ≤ maxLen) (h : chk a = 0) : ∃ cl, Good a cl ∧ V 10 [.pv (.lst (a.map eSt))] = some (.pv (.tup [.lst ((numF a cl).map eSt), .int .i64 0]), []) := by
  obtain ⟨cl, g, e⟩ := v10_ok hl h
  exact ⟨cl, g, e.trans (t31 (chk_ok h) g)⟩
theorem v11_ok {a b : List Sta} (ha : a.length ≤ maxLen) (hb : b.length ≤ maxLen) (h1 : chk a = 0) (h2 : chk b = 0) : ∃ r, V 11 [.pv (.lst (a.map eSt)), .pv (.lst (b.map eSt))] = some (.pv (.tup [.bool r, .int .i64 0]), []) ∧ (r = true ↔ Eqv a b 0 0) := by
  obtain ⟨r, e1, e2⟩ := v32_ok ha hb h1 h2
  obtain ⟨s, f1, f2⟩ := v32_ok hb ha h2 h1
  refine ⟨r && s, ?_, ?_⟩
  · rw [e11, e1, f1]
    simp only [Option.bind_some, retPV_pv, fits_tup, fitsL_cons, fitsL_nil, fits_i64, fits_bool, Bool.not_false, Bool.true_or, Bool.and_self, cond_true, r_succ, r_zero, toInt_int, toBool_bool, bne_self_eq_false, cond_false]
    cases r <;> rfl
  · rw [← same_eqv h1 h2, ← e2, ← f2]
    cases r <;> cases s <;> simp
theorem v11_no {a b : List Sta} (ha : a.length ≤ maxLen) (hb : b.length ≤ maxLen) (h : ¬ (chk a = 0 ∧ chk b = 0)) : ∃ e : Int, V 11 [.pv (.lst (a.map eSt)), .pv (.lst (b.map eSt))] = some (.pv (.tup [.bool false, .int .i64 e]), []) := by
  obtain ⟨e, he, e1⟩ := v32_no ha hb h
  refine ⟨e, ?_⟩
  rw [e11, e1]
  simp only [Option.bind_some, retPV_pv, fits_tup, fitsL_cons, fitsL_nil, fits_i64, fits_bool, Bool.not_false, Bool.true_or, Bool.and_self, cond_true, r_succ, r_zero, toInt_int]
  rw [show (e != 0) = true from by simpa using he]
  rfl

theorem law3 {a b : List Sta} (ha : a.length ≤ maxLen) (hb : b.length ≤ maxLen) : V 3 [.pv (.lst (a.map eSt)), .pv (.lst (b.map eSt))] = some (.pv (.bool true), []) := by
  rw [e3, v9]
  simp only [Option.bind_some, retPV_pv, fits_bool, cond_true, toBool_bool, Bool.not_true, cond_false]
  by_cases h : chk a = 0
  · obtain ⟨ca, ga, e10⟩ := v10 ha h
    obtain ⟨n1, n2, n3⟩ := num_ok h ga
    have hn : (numF a ca).length ≤ maxLen := by omega
    obtain ⟨cn, gn, f10⟩ := v10 hn n1
    have hnn : numF (numF a ca) cn = numF a ca := (num_step ga gn n3).symm
    obtain ⟨r, g1, g2⟩ := v11_ok ha hn h n1
    have hr : r = true := g2.2 n3
    subst hr
    have w := chk_ok n1
    have k1 := v12 (b := numF (numF a ca) cn) w
    rw [hnn] at k1 f10
    rw [e10]
    simp only [Option.bind_some, retPV_pv, fits_tup, fitsL_cons, fitsL_nil, fits_lstS, fits_i64, fits_bool, Bool.not_false, Bool.true_or, Bool.and_self, cond_true, r_succ, r_zero, toInt_int, toBool_bool, toLst_lst, bne_self_eq_false, cond_false]
    rw [f10]
    simp only [Option.bind_some, retPV_pv, fits_tup, fitsL_cons, fitsL_nil, fits_lstS, fits_i64, fits_bool, Bool.not_false, Bool.true_or, Bool.and_self, cond_true, r_succ, r_zero, toInt_int, toBool_bool, toLst_lst, bne_self_eq_false, cond_false]
    rw [g1]
    simp only [Option.bind_some, retPV_pv, fits_tup, fitsL_cons, fitsL_nil, fits_lstS, fits_i64, fits_bool, Bool.not_false, Bool.true_or, Bool.and_self, cond_true, r_succ, r_zero, toInt_int, toBool_bool, toLst_lst, bne_self_eq_false, cond_false, Bool.not_true, List.length_map, dF (show ¬ ((numF a ca).length : Int) > (a.length : Int) by omega)]
    rw [k1]
    simp only [Option.bind_some, retPV_pv, fits_bool, toBool_bool, decide_true, Bool.not_true, cond_true, cond_false]
    by_cases hb0 : chk b = 0
    · obtain ⟨cb, gb, b10⟩ := v10 hb hb0
      obtain ⟨m1, m2, m3⟩ := num_ok hb0 gb
      obtain ⟨s, p1, p2⟩ := v11_ok ha hb h hb0
      have k2 := v12 (b := numF b cb) w
      rw [b10, p1]
      simp only [Option.bind_some, retPV_pv, fits_tup, fitsL_cons, fitsL_nil, fits_lstS, fits_i64, fits_bool, Bool.not_false, Bool.true_or, Bool.and_self, cond_true, r_succ, r_zero, toInt_int, toBool_bool, toLst_lst, bne_self_eq_false, cond_false]
      rw [k2]
      simp only [Option.bind_some, retPV_pv, fits_bool, toBool_bool, cond_true]
      have : s = decide (numF a ca = numF b cb) := by
        rw [Bool.eq_iff_iff, p2, decide_eq_true_iff]
        constructor
        · intro hE; exact num_step ga gb hE
        · intro hE
          rw [hE] at n3
          exact n3.trans m3.symm
      rw [this]
      simp
    · rw [v10_no hb hb0]
      obtain ⟨e, p1⟩ := v11_no ha hb (fun q => hb0 q.2)
      rw [p1]
      simp only [Option.bind_some, retPV_pv, fits_tup, fitsL_cons, fitsL_nil, fits_lstS, fits_i64, fits_bool, Bool.not_false, Bool.true_or, Bool.and_self, cond_true, r_succ, r_zero, toInt_int, toBool_bool, toLst_lst]
      rw [show (chk b != 0) = true from by simpa using hb0]
      rfl
  · rw [v10_no ha h]
    simp only [Option.bind_some, retPV_pv, fits_tup, fitsL_cons, fitsL_nil, fits_lstS, fits_i64, fits_bool, Bool.not_false, Bool.true_or, Bool.and_self, cond_true, r_succ, r_zero, toInt_int, toBool_bool, toLst_lst]
    rw [show (chk a != 0) = true from by simpa using h]
    rfl
end Go.AL.S2.Se
