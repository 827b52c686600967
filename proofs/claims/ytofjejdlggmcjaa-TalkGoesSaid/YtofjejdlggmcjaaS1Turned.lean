/- Talks: those that are turned, and duals. -/
import Derived.Test.YtofjejdlggmcjaaS1Talk4
set_option linter.unusedVariables false
set_option linter.unusedSimpArgs false
namespace Go.AL.S1
open Go Go.AL

def tnD (d : Deed) : Deed := (d.1, !d.2.1, d.2.2)
def tnW (w : List Deed) : List Deed := w.map tnD
def tn (ws : List (List Deed)) : List (List Deed) := ws.map tnW

/-! #### What is turned is checked alike, ready alike -/
theorem ckD_tn (ls : List Line) (i : Int) : ∀ w : List Deed, ckD ls i (tnW w) = ckD ls i w
  | [] => rfl
  | d :: w => by
    have ih := ckD_tn ls i w
    simp only [tnW, List.map_cons, ckD, tnD] at ih ⊢
    cases ls[d.1.toNat]? <;> simp [ih]
theorem ckW_tn (ls : List Line) : ∀ (ws : List (List Deed)) (k : Nat), ckW ls k (tn ws) = ckW ls k ws
  | [], k => rfl
  | w :: ws, k => by
    have ih := ckW_tn ls ws (k + 1)
    have h2 := ckD_tn ls k w
    simp only [tn, List.map_cons, ckW] at ih ⊢
    rw [h2, ih]
    simp [tnW]
theorem check_tn (ls : List Line) (ws : List (List Deed)) : check ls (tn ws) = check ls ws := by
  unfold check
  rw [ckW_tn]
  simp [tn]
theorem cur_tn (ws : List (List Deed)) (a : List Nat) (p : Int) : cur (tn ws) a p = (cur ws a p).map tnD := by
  unfold cur tn
  rw [List.getElem?_map]
  cases ws[p.toNat]? with
  | none => rfl
  | some w =>
    simp only [Option.map_some, Option.bind_some]
    cases a[p.toNat]? with
    | none => rfl
    | some k => simp [tnW]
theorem fits2_tn (i : Nat) (a b : Option Deed) : fits2 i (a.map tnD) (b.map tnD) = fits2 i a b := by
  cases a with
  | none => cases b <;> rfl
  | some a =>
    cases b with
    | none => rfl
    | some b =>
      have : ∀ x y : Bool, ((!x) == !y) = (x == y) := by decide
      simp only [Option.map_some, fits2, tnD, this]
theorem readyL_tn (ws : List (List Deed)) (a : List Nat) : ∀ (l : List Line) (k : Nat), readyL (tn ws) a l k = readyL ws a l k
  | [], k => rfl
  | x :: l, k => by
    simp only [readyL, cur_tn, fits2_tn, readyL_tn ws a l (k + 1)]
theorem runF_tn (ls : List Line) (ws : List (List Deed)) (picks : List Int) : ∀ (n : Nat) (out a : List Nat), runF ls (tn ws) picks n out a = runF ls ws picks n out a
  | 0, out, a => rfl
  | n + 1, out, a => by
    simp only [runF, readyL_tn]
    cases (readyL ws a ls 0)[pk picks out.length (readyL ws a ls 0).length]? with
    | none => rfl
    | some i => exact runF_tn ls ws picks n _ _
theorem run0_tn (ls : List Line) (ws : List (List Deed)) (picks : List Int) : run0 ls (tn ws) picks = run0 ls ws picks := by
  unfold run0
  rw [runF_tn]
  simp only [tn, List.length_map, List.map_map]
  congr 2
  simp [Function.comp_def, tnW]

/-! #### Dual -/
def small24 (l : List Deed) : Prop := l.length * 24 ≤ reachBytes
def onLine (w : List Deed) (i : Int) : List Deed := w.filter fun d => d.1 == i
def dualOk : List Deed → List Deed → Bool
  | [], [] => true
  | a :: l, b :: m => (a.2.2 == b.2.2 && !(a.2.1 == b.2.1)) && dualOk l m
  | _, _ => false
theorem deed_eta (d : Deed) : PV.agg [.int .i64 d.1, .bool d.2.1, .int .i64 d.2.2] = eDeed d := rfl

theorem l72 {w : List Deed} {i : Int} (hw : w.length ≤ maxLen) (hb : small24 w) : ∀ (l : List Deed) (k : Nat) (acc : List Deed), w.drop k = l → acc.length ≤ k → L72_11014 i (acc.map eDeed) (w.map eDeed) k = some (.bld 3 ((acc ++ onLine l i).map eDeed), [])
  | [], k, acc, h, _ => by
    rw [e72_11014, endK_map h]
    simp [onLine]
  | d :: l, k, acc, h, hacc => by
    have A := atK_map (f := eDeed) h hw
    have A' := atK h hw
    have ih1 := l72 (i := i) hw hb l (k + 1) acc A'.drop (by omega)
    have ih2 := l72 (i := i) hw hb l (k + 1) (acc ++ [d]) A'.drop (by simp; omega)
    have hs : small (acc.map eDeed).length 1 24 = true := small_of (by
      have := A'.ltn; unfold small24 reachBytes at hb; simp; omega)
    rw [e72_11014]
    simp only [A.lt, A.ge, A.get, A.next, cond_true, Option.bind_some]
    simp only [deed_fits, deed_l, deed_s, deed_m, cond_true, deed_eta]
    by_cases h1 : d.1 = i
    · rw [show (d.1 == i) = true from by simpa using h1, hs]
      simp only [cond_true]
      rw [show acc.map eDeed ++ [eDeed d] = (acc ++ [d]).map eDeed by simp, ih2]
      simp [onLine, h1]
    · rw [show (d.1 == i) = false from by simpa using h1]
      simp only [cond_false]
      rw [ih1]
      simp [onLine, h1]
theorem v72 {w : List Deed} (i : Int) (hw : w.length ≤ maxLen) (hb : small24 w) : V 72 [.pv (.lst (w.map eDeed)), .pv (.int .i64 i)] = some (.bld 3 ((onLine w i).map eDeed), []) := by
  rw [e72]
  exact l72 hw hb w 0 [] rfl (Nat.le_refl _)

theorem v73 (a b : Deed) : V 73 [.pv (eDeed a), .pv (eDeed b)] = some (.pv (.bool (a.2.2 == b.2.2 && !(a.2.1 == b.2.1))), []) := by
  have h : V 73 [.pv (eDeed a), .pv (eDeed b)] = _ := e73 a.1 a.2.1 a.2.2 b.1 b.2.1 b.2.2
  rw [h]
  cases a.2.2 == b.2.2 <;> rfl

theorem l71 {a b : List Deed} (hl : a.length = b.length) (ha : a.length ≤ maxLen) : ∀ (l m : List Deed) (k : Nat), a.drop k = l → b.drop k = m → L71_11014 (b.map eDeed) 73 [] (a.map eDeed) k = some (.pv (.bool (dualOk l m)), [])
  | [], m, k, h, h2 => by
    have : m = [] := by
      have e1 := congrArg List.length h
      have e2 := congrArg List.length h2
      simp at e1 e2
      exact List.eq_nil_of_length_eq_zero (by omega)
    subst this
    rw [e71_11014, endK_map h]
    rfl
  | x :: l, [], k, h, h2 => by
    have e1 := congrArg List.length h
    have e2 := congrArg List.length h2
    simp at e1 e2
    omega
  | x :: l, y :: m, k, h, h2 => by
    have A := atK_map (f := eDeed) h ha
    have B := atK_map (f := eDeed) h2 (by omega)
    have ih := l71 hl ha l m (k + 1) (atK h ha).drop (atK h2 (by omega)).drop
    rw [e71_11014]
    simp only [A.lt, A.ge, A.get, A.next, B.get, cond_true, Option.bind_some]
    simp only [deed_fits, deed_l, deed_s, deed_m, cond_true, deed_eta, List.append_nil, List.map_cons, List.map_nil, v73, Option.bind_some, retPV_pv, fits_bool, toBool_bool, dualOk]
    cases (x.2.2 == y.2.2 && !(x.2.1 == y.2.1)) with
    | false => rfl
    | true => exact ih
theorem v71 (a b : List Deed) (ha : a.length ≤ maxLen) : V 71 [.pv (.lst (a.map eDeed)), .pv (.lst (b.map eDeed)), .pv (.fn 73 [])] = some (.pv (.bool (dualOk a b)), []) := by
  rw [e71]
  simp only [List.length_map]
  by_cases h : a.length = b.length
  · rw [show ((a.length : Int) != (b.length : Int)) = false from by simp [h]]
    exact l71 h ha a b 0 rfl rfl
  · rw [show ((a.length : Int) != (b.length : Int)) = true from by simp; omega]
    simp only [cond_true]
    have : ∀ (a b : List Deed), a.length ≠ b.length → dualOk a b = false := by
      intro a
      induction a with
      | nil => intro b hb; cases b with | nil => exact absurd rfl hb | cons _ _ => rfl
      | cons x a ih =>
        intro b hb
        cases b with
        | nil => rfl
        | cons y b => simp only [dualOk, ih b (by simpa using hb), Bool.and_false]
    rw [this a b h]

def dualL (ws : List (List Deed)) : List Line → Nat → Int
  | [], _ => -1
  | x :: l, i => if dualOk (onLine (ws.getD x.1.toNat []) i) (onLine (ws.getD x.2.toNat []) i) = true then dualL ws l (i + 1) else i
theorem l31 {ls : List Line} {ws : List (List Deed)} (hwf : WF ls ws) : ∀ (l : List Line) (k : Nat), ls.drop k = l → L31_11014 (ls.map eLine) k (ws.map eDs) = some (.pv (.tup [.int .i64 (dualL ws l k), .int .i64 0]), [])
  | [], k, h => by
    rw [e31_11014, endK_map h]
    rfl
  | x :: l, k, h => by
    have hls : ls.length ≤ maxLen := by have := hwf.nl; simp [maxLen]; omega
    have A := atK_map (f := eLine) h hls
    have A' := atK h hls
    have ih := l31 hwf l (k + 1) A'.drop
    obtain ⟨g1, g2, g3, g4, g5⟩ := hwf.line x (List.mem_of_getElem? A'.get')
    obtain ⟨v, hv, hvm⟩ := get_int (xs := ws) g1 g3
    obtain ⟨w, hw, hwm⟩ := get_int (xs := ws) g2 g4
    have hv' : (ws.map eDs)[x.1.toNat]? = some (eDs v) := by simp [hv]
    have hw' : (ws.map eDs)[x.2.toNat]? = some (eDs w) := by simp [hw]
    have lv := hwf.deeds v hvm
    have lw := hwf.deeds w hwm
    have mv : v.length ≤ maxLen := by simp [maxLen]; omega
    have mw : w.length ≤ maxLen := by simp [maxLen]; omega
    have mo : (onLine v k).length ≤ maxLen := Nat.le_trans (List.length_filter_le _ _) mv
    rw [e31_11014]
    simp only [A.lt, A.ge, A.get, A.next, cond_true, Option.bind_some]
    simp only [line_fits, line_a, line_b, cond_true, dT g1, dT g2, hv', hw', Option.bind_some, ds_fits, ds_l, v72 (k : Int) mv (by unfold small24 reachBytes; omega), v72 (k : Int) mw (by unfold small24 reachBytes; omega), retPV_bld, fits_lstS, toLst_lst, v71 _ _ mo, retPV_pv, fits_bool, toBool_bool]
    simp only [dualL, List.getD, hv, hw, Option.getD_some]
    cases dualOk (onLine v k) (onLine w k) with
    | false => rfl
    | true => exact ih
theorem v31_ok {ls : List Line} {ws : List (List Deed)} (hls : ls.length ≤ maxLen) (hws : ws.length ≤ maxLen) (h : check ls ws = 0) : V 31 [.pv (eNet ls ws)] = some (.pv (.tup [.int .i64 (dualL ws ls 0), .int .i64 0]), []) := by
  rw [e31, v63 hls hws, h]
  simp only [Option.bind_some, retPV_pv, fits_i64, cond_true, toInt_int, bne_self_eq_false, cond_false]
  exact l31 (check_ok h) ls 0 rfl
theorem v31_no {ls : List Line} {ws : List (List Deed)} (hls : ls.length ≤ maxLen) (hws : ws.length ≤ maxLen) (h : check ls ws ≠ 0) : V 31 [.pv (eNet ls ws)] = some (.pv (.tup [.int .i64 0, .int .i64 (check ls ws)]), []) := by
  rw [e31, v63 hls hws]
  simp only [Option.bind_some, retPV_pv, fits_i64, cond_true, toInt_int]
  rw [show (check ls ws != 0) = true from by simpa using h]
  rfl

theorem onLine_tn (w : List Deed) (i : Int) : onLine (tnW w) i = tnW (onLine w i) := by
  unfold onLine tnW
  rw [List.filter_map]
  rfl
theorem dualOk_tn : ∀ a b : List Deed, dualOk (tnW a) (tnW b) = dualOk a b
  | [], [] => rfl
  | [], _ :: _ => rfl
  | _ :: _, [] => rfl
  | x :: a, y :: b => by
    have ih := dualOk_tn a b
    have hn : ∀ x y : Bool, ((!x) == !y) = (x == y) := by decide
    show ((x.2.2 == y.2.2 && !((!x.2.1) == (!y.2.1))) && dualOk (tnW a) (tnW b)) = _
    rw [ih, hn]
    rfl
theorem dualL_tn (ws : List (List Deed)) : ∀ (l : List Line) (k : Nat), dualL (tn ws) l k = dualL ws l k
  | [], k => rfl
  | x :: l, k => by
    have hg : ∀ p : Nat, (tn ws).getD p [] = tnW (ws.getD p []) := fun p => by
      simp only [tn, List.getD, List.getElem?_map]
      cases ws[p]? <;> rfl
    simp only [dualL, hg, onLine_tn, dualOk_tn, dualL_tn ws l (k + 1)]

/-! #### The law -/
theorem l8b {picks lsP wsP : List PV} {i1 : Int} {l1 : List PV} {w : List Deed} (hw : w.length ≤ maxLen) (hb : small24 w) (hs1 : small l1.length 1 24 = true) : ∀ (l : List Deed) (k : Nat) (acc : List Deed), w.drop k = l → acc.length = k →
    L8_1110145110411014 picks ((tnW acc).map eDeed) wsP i1 (w.map eDeed) k lsP l1 = L8_111014 picks wsP (IntKind.i64.wrap (i1 + 1)) lsP (l1 ++ [eDs (tnW (acc ++ l))])
  | [], k, acc, h, _ => by
    rw [e8_1110145110411014, endK_map h]
    simp only [cond_false, hs1, cond_true, List.append_nil]
    rfl
  | d :: l, k, acc, h, hacc => by
    have A := atK_map (f := eDeed) h hw
    have A' := atK h hw
    have ih := l8b (picks := picks) (lsP := lsP) (wsP := wsP) (i1 := i1) (l1 := l1) hw hb hs1 l (k + 1) (acc ++ [d]) A'.drop (by simp [hacc])
    have hs : small ((tnW acc).map eDeed).length 1 24 = true := small_of (by
      have := A'.ltn; unfold small24 reachBytes at hb; simp [tnW]; omega)
    rw [e8_1110145110411014]
    simp only [A.lt, A.ge, A.get, A.next, cond_true, Option.bind_some]
    simp only [deed_fits, deed_l, deed_s, deed_m, cond_true, hs]
    have : (tnW acc).map eDeed ++ [PV.agg [.int .i64 d.1, .bool (!d.2.1), .int .i64 d.2.2]] = (tnW (acc ++ [d])).map eDeed := by simp [tnW, tnD, eDeed]
    rw [this, ih]
    simp

theorem l8a {picks lsP : List PV} {ws : List (List Deed)} (hws : ws.length ≤ maxLen) (hwb : ws.length * 24 ≤ reachBytes) (hall : ∀ w, w ∈ ws → w.length ≤ maxLen ∧ small24 w) : ∀ (l : List (List Deed)) (k : Nat) (acc : List (List Deed)), ws.drop k = l → acc.length = k → ws = acc ++ l →
    L8_111014 picks (ws.map eDs) k lsP ((tn acc).map eDs) = L8_111014 picks (ws.map eDs) ws.length lsP ((tn ws).map eDs)
  | [], k, acc, h, hk, he => by
    have : ws = acc := by simpa using he
    subst this
    rw [hk]
  | w :: l, k, acc, h, hacc, he => by
    have A := atK_map (f := eDs) h hws
    have A' := atK h hws
    have ih := l8a (picks := picks) (lsP := lsP) hws hwb hall l (k + 1) (acc ++ [w]) A'.drop (by simp [hacc]) (by simp [he])
    obtain ⟨g1, g2⟩ := hall w (List.mem_of_getElem? A'.get')
    have hs1 : small ((tn acc).map eDs).length 1 24 = true := small_of (by
      have := A'.ltn; unfold reachBytes at hwb; simp [tn]; omega)
    have hb := l8b (picks := picks) (lsP := lsP) (wsP := ws.map eDs) (i1 := k) (l1 := (tn acc).map eDs) g1 g2 hs1 w 0 [] rfl rfl
    rw [e8_111014]
    simp only [A.lt, A.ge, A.get, cond_true, Option.bind_some]
    simp only [ds_fits, ds_l, cond_true]
    rw [show ((0 : Nat) : Int) = 0 from rfl] at hb
    simp only [List.nil_append, tnW, List.map_nil] at hb
    rw [hb, A.next, ← ih]
    simp [tn, tnW]

theorem law8 {ls : List Line} {ws : List (List Deed)} (picks : List Int) (hls : ls.length ≤ maxLen) (hws : ws.length ≤ maxLen) (hwb : ws.length * 24 ≤ reachBytes) (hall : ∀ w, w ∈ ws → w.length ≤ maxLen ∧ small24 w) :
    V 8 [.pv (eNet ls ws), .pv (.lst (picks.map eInt))] = some (.pv (.bool true), []) := by
  have hws' : (tn ws).length ≤ maxLen := by simpa [tn] using hws
  have h1 := l8a (picks := picks.map eInt) (lsP := ls.map eLine) hws hwb hall ws 0 [] rfl rfl rfl
  rw [show ((0 : Nat) : Int) = 0 from rfl] at h1
  rw [e8, v21]
  simp only [Option.bind_some, retPV_pv, fits_bool, cond_true, toBool_bool, Bool.not_true, cond_false]
  simp only [tn, List.map_nil] at h1
  rw [h1]
  rw [e8_111014]
  rw [show decide ((ws.length : Int) < ((ws.map eDs).length : Int)) = false from by simp]
  simp only [cond_false]
  have hlenrun : ∀ {x y : List Nat}, Runs ls ws x y → x.length = y.length := by
    intro x y h
    induction h with
    | stop _ => rfl
    | go _ _ ih => rw [← ih]; unfold step; split <;> simp [length_inc]
  by_cases h : check ls ws = 0
  · have h' : check ls (tn ws) = 0 := by rw [check_tn]; exact h
    obtain ⟨k1, r1⟩ := v22_ok (picks := picks) hls hws h
    obtain ⟨k2, _⟩ := v22_ok (picks := picks) hls hws' h'
    have d1 := v31_ok hls hws h
    have d2 := v31_ok hls hws' h'
    rw [run0_tn] at k2
    rw [dualL_tn] at d2
    simp only [tn] at k2 d2
    have hl2 : (run0 ls ws picks).2.length ≤ maxLen := by rw [← hlenrun r1]; simpa using hws
    have hl1 : (run0 ls ws picks).1.length ≤ maxLen := by
      have : ∀ (n : Nat) (out a : List Nat), Valid ws a → out.length ≤ a.sum → (runF ls ws picks n out a).1.length ≤ 320 := by
        have hwf := check_ok h
        intro n
        induction n with
        | zero => intro out a hv ho; have := sum_le hv; have := total_le hwf; simp only [runF]; omega
        | succ n ih =>
          intro out a hv ho
          simp only [runF]
          split
          · have := sum_le hv; have := total_le hwf; simp only; omega
          · rename_i i hi
            obtain ⟨hv', hs'⟩ := step_valid hwf hv (List.mem_of_getElem? hi)
            exact ih _ _ hv' (by simp; omega)
      have := this ((ws.map List.length).sum + 1) [] _ (valid0 ws) (Nat.zero_le _)
      simp only [run0]
      have h0 : (320 : Nat) ≤ maxLen := by simp [maxLen]
      omega
    simp only [k1, k2, d1, d2, Option.bind_some, retPV_pv, fits_tup, fitsL_cons, fitsL_nil, fits_lstS, fits_i64, fits_bool, cond_true, r_succ, r_zero, toInt_int, toLst_lst, toBool_bool, Bool.not_false, Bool.true_or, Bool.and_self, beq_self_eq_true, v23n _ _ hl1, v23n _ _ hl2]
  · have h' : check ls (tn ws) ≠ 0 := by rw [check_tn]; exact h
    have k1 := v22_no (picks := picks.map eInt) hls hws h
    have k2 := v22_no (picks := picks.map eInt) hls hws' h'
    have d1 := v31_no hls hws h
    have d2 := v31_no hls hws' h'
    rw [check_tn] at k2 d2
    simp only [tn] at k2 d2
    have h0 := v23n [] [] (by simp)
    simp only [List.map_nil] at h0
    simp only [k1, k2, d1, d2, h0, Option.bind_some, retPV_pv, fits_tup, fitsL_cons, fitsL_nil, fits_lstS, fits_i64, fits_bool, cond_true, r_succ, r_zero, toInt_int, toLst_lst, toBool_bool, Bool.not_false, Bool.true_or, Bool.and_self, beq_self_eq_true]
end Go.AL.S1
