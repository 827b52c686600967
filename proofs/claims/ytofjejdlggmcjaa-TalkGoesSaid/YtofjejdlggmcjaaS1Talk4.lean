/- Talks: Run. -/
import Derived.Test.YtofjejdlggmcjaaS1Talk3
set_option linter.unusedVariables false
set_option linter.unusedSimpArgs false
namespace Go.AL.S1
open Go Go.AL

theorem total_le {ls : List Line} {ws : List (List Deed)} (hwf : WF ls ws) : (ws.map List.length).sum ≤ 320 := by
  have : ∀ (l : List (List Deed)), (∀ w, w ∈ l → w.length ≤ 40) → (l.map List.length).sum ≤ 40 * l.length := by
    intro l
    induction l with
    | nil => intro _; simp
    | cons w l ih =>
      intro h
      have := ih fun v hv => h v (by simp [hv])
      have := h w (by simp)
      simp only [List.map_cons, List.sum_cons, List.length_cons]
      omega
  have h1 := this ws hwf.deeds
  have h2 := hwf.nw
  omega

theorem readyL_length {ws : List (List Deed)} {a : List Nat} : ∀ (l : List Line) (k : Nat), (readyL ws a l k).length ≤ l.length
  | [], k => by simp [readyL]
  | x :: l, k => by
    have := readyL_length (ws := ws) (a := a) l (k + 1)
    simp only [readyL]
    split <;> simp <;> omega

theorem pk_lt (picks : List Int) (n : Nat) {len : Nat} (h : 0 < len) : pk picks n len < len := by
  unfold pk
  split
  · exact Nat.mod_lt _ h
  · exact h

theorem pk_eq {x : Int} {len : Nat} (h0 : 0 < len) (h : len ≤ 12) : IntKind.i64.wrap ((IntKind.u64.wrap x).tmod (IntKind.u64.wrap (len : Int))) = (((IntKind.u64.wrap x).toNat % len : Nat) : Int) := by
  have h1 : IntKind.u64.wrap (len : Int) = len := by
    simp [IntKind.wrap, IntKind.bits, IntKind.signed]
    omega
  have h2 := u64_range x
  rw [h1, Int.tmod_eq_emod_of_nonneg h2]
  have h3 : (IntKind.u64.wrap x) % (len : Int) = (((IntKind.u64.wrap x).toNat % len : Nat) : Int) := by
    rw [Int.natCast_emod, Int.toNat_of_nonneg h2]
  rw [h3]
  have : (IntKind.u64.wrap x).toNat % len < len := Nat.mod_lt _ h0
  exact wrap_i64 (by omega) (by omega)

theorem inc_map {a : List Nat} {p k : Nat} (h : a[p]? = some k) (hk : k ≤ 40) (z : PV) (hz : z = eNat k) : (a.map eNat).set p (z.setc 0 (.int .i64 (IntKind.i64.wrap (((eNat k).cl 0).toInt + 1)))) = (inc a p).map eNat := by
  subst hz
  have : IntKind.i64.wrap ((k : Int) + 1) = ((k + 1 : Nat) : Int) := by
    have := wrap_nat (k := k + 1) (by simp [maxLen]; omega)
    simpa using this
  show (a.map eNat).set p (PV.int .i64 (IntKind.i64.wrap ((k : Int) + 1))) = _
  rw [this]
  show (a.map eNat).set p (eNat (k + 1)) = _
  have hg : a.getD p 0 = k := by simp [List.getD, h]
  rw [inc, hg, List.map_set]

theorem natc_fits (k : Nat) : (Nat.blt 0 (eNat k).cells.length && (Sh.int .i64).fits ((eNat k).cl 0)) = true := nrfl rfl
theorem natc_set (k : Nat) : (Nat.blt 0 (eNat k).cells.length && true) = true := nrfl rfl

theorem l22c {ls : List Line} {ws : List (List Deed)} {picks : List PV} (hwf : WF ls ws) {a out rd : List Nat} (hv : Valid ws a) (hrd : rd = readyL ws a ls 0) {m i : Nat} (hm : rd[m]? = some i) (hout : out.length ≤ a.sum) :
    L22_111145411116 picks (out.map eNat) (rd.map eNat) m (ls.map eLine) (ws.map eDs) (a.map eNat) = L22_11114 picks ((out ++ [i]).map eNat) (ls.map eLine) (ws.map eDs) ((step ls a i).map eNat) := by
  have hi : i ∈ readyL ws a ls 0 := by rw [← hrd]; exact List.mem_of_getElem? hm
  obtain ⟨x, p, q, v, w, d, e, hx, h1, h2, h3, hp, hq, hv1, hw1, hd, he, _⟩ := ready_at hwf hv hi
  obtain ⟨g1, g2, g3, g4, g5⟩ := hwf.line x (List.mem_of_getElem? hx)
  have hpl : p ≤ 40 := by have := hwf.deeds v (List.mem_of_getElem? hv1); have := hv.le _ _ _ hp hv1; omega
  have hql : q ≤ 40 := by have := hwf.deeds w (List.mem_of_getElem? hw1); have := hv.le _ _ _ hq hw1; omega
  have hrm : (rd.map eNat)[(m : Int).toNat]? = some (eNat i) := by simp [hm]
  have hlm : (ls.map eLine)[(i : Int).toNat]? = some (eLine x) := by simp [hx]
  have hpm : (a.map eNat)[x.1.toNat]? = some (eNat p) := by simp [hp]
  have hbd1 : (decide (0 ≤ x.1) && decide (x.1 < ((a.map eNat).length : Int))) = true := by simp; exact ⟨g1, by rw [hv.len]; exact g3⟩
  have hbd2 : ∀ b : List Nat, b.length = a.length → (decide (0 ≤ x.2) && decide (x.2 < ((b.map eNat).length : Int))) = true := fun b hb => by simp; exact ⟨g2, by rw [hb, hv.len]; exact g4⟩
  have hqm : ((inc a x.1.toNat).map eNat)[x.2.toNat]? = some (eNat q) := by
    rw [List.getElem?_map, getD_inc h1, if_neg h3, hq]; rfl
  have hq' : (inc a x.1.toNat)[x.2.toNat]? = some q := by rw [getD_inc h1, if_neg h3, hq]
  have hlen : (inc a x.1.toNat).length = a.length := length_inc _ _
  rw [e22_111145411116]
  simp only [dT (Int.natCast_nonneg m), hrm, cond_true, Option.bind_some, nat_fits, nat_i, dT (Int.natCast_nonneg i), hlm, line_fits, line_a, line_b]
  simp only [hbd1, hpm, cond_true, Option.bind_some, natc_fits, natc_set]
  simp only [inc_map hp hpl _ rfl]
  simp only [hbd2 _ hlen, hqm, cond_true, Option.bind_some, natc_fits, natc_set]
  simp only [inc_map hq' hql _ rfl]
  have hs : small (out.map eNat).length 1 8 = true := small_of (by have := sum_le hv; have := total_le hwf; simp; omega)
  simp only [hs, cond_true]
  rw [step_eq hx]
  simp [eNat]

theorem l22 {ls : List Line} {ws : List (List Deed)} {picks : List Int} (hwf : WF ls ws) : ∀ (n : Nat) (out a : List Nat), Valid ws a → (ws.map List.length).sum - a.sum < n → out.length ≤ a.sum →
    L22_11114 (picks.map eInt) (out.map eNat) (ls.map eLine) (ws.map eDs) (a.map eNat) = some (.pv (.tup [.lst ((runF ls ws picks n out a).1.map eNat), .lst ((runF ls ws picks n out a).2.map eNat), .int .i64 0]), []) ∧ Runs ls ws a (runF ls ws picks n out a).2
  | 0, out, a, hv, h, _ => by omega
  | n + 1, out, a, hv, h, hout => by
    have hall : ((readyL ws a ls 0).map eNat).all (Sh.int .i64).fits = true := by
      rw [List.all_eq_true]; intro x hx
      obtain ⟨y, _, rfl⟩ := List.mem_map.1 hx
      exact nat_fits y
    have hsm : small (out.map eNat).length 1 8 = true := small_of (by have := sum_le hv; have := total_le hwf; simp; omega)
    rw [e22_11114, v64 hwf hv]
    simp only [Option.bind_some, retB_bld, hall, cond_true]
    simp only [runF]
    cases hr : readyL ws a ls 0 with
    | nil => exact ⟨rfl, .stop hr⟩
    | cons r0 rl =>
      have hlen : 0 < (readyL ws a ls 0).length := by rw [hr]; simp
      have hlen12 : (readyL ws a ls 0).length ≤ 12 := Nat.le_trans (readyL_length _ _) hwf.nl
      have hk := pk_lt picks out.length hlen
      rw [← hr]
      have hget := List.getElem?_eq_getElem hk
      generalize hi : (readyL ws a ls 0)[pk picks out.length (readyL ws a ls 0).length] = i at hget
      rw [hget]
      have him : i ∈ readyL ws a ls 0 := List.mem_of_getElem? hget
      obtain ⟨hv', hs'⟩ := step_valid hwf hv him
      have hle := sum_le hv'
      obtain ⟨k1, k2⟩ := l22 (picks := picks) hwf n (out ++ [i]) (step ls a i) hv' (by omega) (by simp; omega)
      have hc := l22c (picks := picks.map eInt) hwf hv rfl hget hout
      refine ⟨?_, .go him k2⟩
      simp only [List.length_map]
      rw [show (((readyL ws a ls 0).length : Int) == 0) = false from by simp; rintro e; rw [e] at hlen; simp at hlen]
      simp only [cond_false]
      by_cases hp : out.length < picks.length
      · rw [decide_eq_true (show (out.length : Int) < (picks.length : Int) from by omega)]
        simp only [cond_true, decide_eq_true (Int.natCast_nonneg out.length)]
        have hpg : (picks.map eInt)[(out.length : Int).toNat]? = some (eInt picks[out.length]) := by simp [hp]
        rw [hpg]
        simp only [Option.bind_some, int_fits, cond_true, int_i]
        have hz : IntKind.u64.wrap ((readyL ws a ls 0).length : Int) ≠ 0 := by
          have : IntKind.u64.wrap ((readyL ws a ls 0).length : Int) = (readyL ws a ls 0).length := by
            simp [IntKind.wrap, IntKind.bits, IntKind.signed]
            omega
          rw [this]; omega
        rw [decide_eq_false hz]
        simp only [cond_false]
        rw [pk_eq hlen hlen12]
        have : pk picks out.length (readyL ws a ls 0).length = (IntKind.u64.wrap picks[out.length]).toNat % (readyL ws a ls 0).length := by
          unfold pk; rw [List.getElem?_eq_getElem hp]
        rw [← this, hc]
        exact k1
      · rw [decide_eq_false (show ¬ (out.length : Int) < (picks.length : Int) from by omega)]
        simp only [cond_false]
        have : pk picks out.length (readyL ws a ls 0).length = 0 := by
          unfold pk; rw [List.getElem?_eq_none (by omega)]
        rw [this] at hc
        rw [show ((0 : Nat) : Int) = 0 from rfl] at hc
        rw [hc]
        exact k1

theorem valid0 (ws : List (List Deed)) : Valid ws (List.replicate ws.length 0) := ⟨by simp, fun i k w h1 h2 => by
  have := (List.mem_replicate.1 (List.mem_of_getElem? h1)).2
  omega⟩

def run0 (ls : List Line) (ws : List (List Deed)) (picks : List Int) : List Nat × List Nat := runF ls ws picks ((ws.map List.length).sum + 1) [] (List.replicate ws.length 0)

theorem v22_ok {ls : List Line} {ws : List (List Deed)} {picks : List Int} (hls : ls.length ≤ maxLen) (hws : ws.length ≤ maxLen) (h : check ls ws = 0) :
    V 22 [.pv (eNet ls ws), .pv (.lst (picks.map eInt))] = some (.pv (.tup [.lst ((run0 ls ws picks).1.map eNat), .lst ((run0 ls ws picks).2.map eNat), .int .i64 0]), []) ∧ Runs ls ws (List.replicate ws.length 0) (run0 ls ws picks).2 := by
  have hwf := check_ok h
  obtain ⟨k1, k2⟩ := l22 (picks := picks) hwf ((ws.map List.length).sum + 1) [] (List.replicate ws.length 0) (valid0 ws) (by omega) (Nat.zero_le _)
  refine ⟨?_, k2⟩
  rw [e22, v63 hls hws, h]
  have hw : (ws.length : Int) ≤ 2147483648 := by have := hwf.nw; omega
  simp only [Option.bind_some, retPV_pv, fits_i64, cond_true, toInt_int, bne_self_eq_false, cond_false, List.length_map]
  rw [decide_eq_true (Int.natCast_nonneg _), decide_eq_true (Int.le_refl _), decide_eq_true hw]
  simp only [Bool.and_self, Bool.true_and, show Nat.ble 8 65536 = true from rfl, show Nat.blt 0 1 = true from rfl, cond_true]
  have : (List.replicate (ws.length : Int).toNat (PV.int .i64 0)) = (List.replicate ws.length 0).map eNat := by simp [eNat]
  rw [this]
  exact k1
theorem v22_no {ls : List Line} {ws : List (List Deed)} {picks : List PV} (hls : ls.length ≤ maxLen) (hws : ws.length ≤ maxLen) (h : check ls ws ≠ 0) :
    V 22 [.pv (eNet ls ws), .pv (.lst picks)] = some (.pv (.tup [.lst [], .lst [], .int .i64 (check ls ws)]), []) := by
  rw [e22, v63 hls hws]
  simp only [Option.bind_some, retPV_pv, fits_i64, cond_true, toInt_int]
  rw [show (check ls ws != 0) = true from by simpa using h]
  rfl

theorem v21 : V 21 [] = some (.pv (.bool true), []) := by
  have h := v22_ok (ls := [(0, 1)]) (ws := [[(0, true, 3)], [(0, false, 3)]]) (picks := []) (by simp [maxLen]) (by simp [maxLen]) (by decide)
  have hr : run0 [(0, 1)] [[(0, true, 3)], [(0, false, 3)]] [] = ([0], [1, 1]) := by decide
  rw [hr] at h
  have h1 : V 22 [.pv (.agg [.lst [.agg [.int .i64 0, .int .i64 1]], .lst [.lst [.agg [.int .i64 0, .bool true, .int .i64 3]], .lst [.agg [.int .i64 0, .bool false, .int .i64 3]]]]), .pv (.lst [])] = some (.pv (.tup [.lst [.int .i64 0], .lst [.int .i64 1, .int .i64 1], .int .i64 0]), []) := h.1
  have h2 : V 23 [.pv (.lst [.int .i64 0]), .pv (.lst [.int .i64 0])] = some (.pv (.bool true), []) := v23 [0] [0] (by simp [maxLen])
  have h3 : V 23 [.pv (.lst [.int .i64 1, .int .i64 1]), .pv (.lst [.int .i64 1, .int .i64 1])] = some (.pv (.bool true), []) := v23 [1, 1] [1, 1] (by simp [maxLen])
  rw [e21, h1]
  show ((V 23 [.pv (.lst [.int .i64 0]), .pv (.lst [.int .i64 0])]).bind retPV).bind _ = _
  rw [h2]
  show ((V 23 [.pv (.lst [.int .i64 1, .int .i64 1]), .pv (.lst [.int .i64 1, .int .i64 1])]).bind retPV).bind _ = _
  rw [h3]
  rfl

theorem nat_int (l : List Nat) : l.map eNat = (l.map (fun n : Nat => (n : Int))).map eInt := by simp [eNat, eInt]

theorem v23n (a b : List Nat) (ha : a.length ≤ maxLen) : V 23 [.pv (.lst (a.map eNat)), .pv (.lst (b.map eNat))] = some (.pv (.bool (a == b)), []) := by
  rw [nat_int, nat_int, v23 _ _ (by simpa using ha)]
  congr 3
  by_cases h : a = b
  · subst h; simp
  · have : ¬ (a.map (fun n : Nat => (n : Int))) = (b.map fun n : Nat => (n : Int)) := fun e => h ((List.map_inj_right (fun x y h => by omega)).1 e)
    rw [beq_eq_false_iff_ne.2 h, beq_eq_false_iff_ne.2 this]

theorem law4 {ls : List Line} {ws : List (List Deed)} (a b : List Int) (hls : ls.length ≤ maxLen) (hws : ws.length ≤ maxLen) : V 4 [.pv (eNet ls ws), .pv (.lst (a.map eInt)), .pv (.lst (b.map eInt))] = some (.pv (.bool true), []) := by
  rw [e4, v21]
  simp only [Option.bind_some, retPV_pv, fits_bool, cond_true, toBool_bool, Bool.not_true, cond_false]
  by_cases h : check ls ws = 0
  · obtain ⟨h1, r1⟩ := v22_ok (picks := a) hls hws h
    obtain ⟨h2, r2⟩ := v22_ok (picks := b) hls hws h
    have hwf := check_ok h
    have he := runs_one hwf _ (valid0 ws) (Nat.lt_succ_self _) r1 r2
    have hlen : (run0 ls ws a).2.length ≤ maxLen := by
      have : ∀ {x y : List Nat}, Runs ls ws x y → x.length = y.length := by
        intro x y h
        induction h with
        | stop _ => rfl
        | go _ _ ih => rw [← ih]; unfold step; split <;> simp [length_inc]
      rw [← this r1]; simpa using hws
    rw [h1, h2, he]
    have hlen' := hlen
    rw [he] at hlen'
    have := v23n (run0 ls ws b).2 (run0 ls ws b).2 hlen'
    simp only [Option.bind_some, retPV_pv, fits_tup, fitsL_cons, fitsL_nil, fits_lstS, fits_i64, cond_true, r_succ, r_zero, toInt_int, toLst_lst, Bool.not_false, Bool.true_or, Bool.and_self, beq_self_eq_true, this, fits_bool, toBool_bool]
  · rw [v22_no hls hws h, v22_no hls hws h]
    have := v23n [] [] (by simp)
    simp only [List.map_nil] at this
    simp only [Option.bind_some, retPV_pv, fits_tup, fitsL_cons, fitsL_nil, fits_lstS, fits_i64, cond_true, r_succ, r_zero, toInt_int, toLst_lst, Bool.not_false, Bool.true_or, Bool.and_self, beq_self_eq_true, this, fits_bool, toBool_bool]
end Go.AL.S1
