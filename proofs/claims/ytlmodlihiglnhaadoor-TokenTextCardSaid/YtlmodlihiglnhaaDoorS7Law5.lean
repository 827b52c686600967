/- The law: a quoted text is one token. -/
import Derived.Test.YtlmodlihiglnhaaDoorS7Text
set_option linter.unusedVariables false
set_option linter.unusedSimpArgs false
namespace Go.AL.S7.Tok
open Go Go.AL Go.AL.S7

theorem low34 : V 81 [.pv (.int .u8 34)] = some (.pv (.bool false), []) := (V_A pa 81 _).le 60 _ (by kernel_rfl)
theorem great34 : V 82 [.pv (.int .u8 34)] = some (.pv (.bool false), []) := (V_A pa 82 _).le 60 _ (by kernel_rfl)
theorem digit34 : V 47 [.pv (.int .u8 34)] = some (.pv (.bool false), []) := (V_A pa 47 _).le 60 _ (by kernel_rfl)
theorem nx34 {t : Str} {i : Nat} (h : t[i]? = some 34) : nxV t i = txY t i := by
  have e34 : ((34 : UInt8).toNat : Int) = 34 := rfl
  unfold nxV
  rw [e43]
  simp only [dge, gI h, cond_true, Option.bind_some, e34, low34, great34, retPV_pv, fits_bool, toBool_bool, cond_false]
  rw [e43_1110416]
  simp only [cond_false, e34, digit34, Option.bind_some, retPV_pv, fits_bool, toBool_bool, cond_true]
  rfl
theorem ws34 : ws 34 = false := rfl
/-- A quoted text is read as one token. -/
theorem text_back {s pre suf : Str} (hs : s.length ≤ 64) (hp : pre.length + (qs s).length + 2 ≤ 5000) : nxV (pre ++ 34 :: (qs s ++ 34 :: suf)) pre.length = tkO 5 s pre.length (pre.length + (qs s).length + 2 : Nat) true := by
  rw [nx34 at0]
  unfold txY
  have h := readq s (pre ++ [34]) suf [] (by simp only [List.length_append, List.length_cons, List.length_nil]; omega) (by simp)
  rw [List.append_assoc] at h
  simp only [List.cons_append, List.nil_append, List.length_append, List.length_cons, List.length_nil, List.map_nil] at h
  rw [e84, wr1 (show pre.length ≤ 5000 by omega), show pre.length + 1 = pre.length + (0 + 1) from rfl, h]
  unfold txO tkO
  simp only [Option.bind_some, retPV_pv, fitsT, cond_true, r_zero, r_succ, toInt_int, toBool_bool]
  rw [decide_eq_true (show ((s.length : Nat) : Int) ≤ 64 by omega), show pre.length + (0 + 1) + (qs s).length + 1 = pre.length + (qs s).length + 2 by omega]
  rfl
theorem law5 (s : Str) : V 5 [.pv (.str s)] = some (.pv (.bool true), []) := by
  have fits2 : ∀ (l : Str) (n : Int), (Sh.tup [Sh.str, Sh.int .i64]).fits (.tup [.str l, .int .i64 n]) = true := fun _ _ => nrfl rfl
  rw [e5, v18]
  simp only [Option.bind_some, retPV_pv, fits_bool, toBool_bool, cond_true, Bool.not_true, cond_false]
  rcases Nat.lt_or_ge 64 s.length with hs | hs
  · rw [v19_long hs]
    simp only [Option.bind_some, retPV_pv, fits2, r_zero, r_succ, toInt_int, cond_true]
    rw [decide_eq_true (show (s.length : Int) > 64 by omega)]
    rfl
  · have hq := qs_len s
    have hlen : (34 :: qs s ++ [34]).length = (qs s).length + 2 := by simp
    have h0 : L42_104 (34 :: qs s ++ [34]) (0 : Nat) = iO (0 : Nat) := by
      rw [s84 (i := 0) (c := 34) rfl (by omega), ws34]; rfl
    have hn : nxV (34 :: qs s ++ [34]) 0 = tkO 5 s 0 ((qs s).length + 2 : Nat) true := by
      have := text_back (s := s) (pre := []) (suf := []) hs (by simp only [List.length_nil]; omega)
      simpa using this
    have hend : L42_104 (34 :: qs s ++ [34]) ((qs s).length + 2 : Nat) = iO ((qs s).length + 2 : Nat) := s84e (by omega)
    have h20 : V 20 [.pv (.str (34 :: qs s ++ [34]))] = rO [(5, s, 0)] 0 0 := by
      unfold iO at h0
      have h' : V 42 [.pv (.str (34 :: qs s ++ [34])), .pv (.int .i64 0)] = some (.pv (.int .i64 ((0 : Nat) : Int)), []) := (e42 _ _).trans h0
      have hd : decide (((List.length (34 :: qs s ++ [34]) : Nat) : Int) > 4000) = false := decide_eq_false (by omega)
      rw [e20, hd, h']
      have g1 := r42g (t := 34 :: qs s ++ [34]) (l := []) (v := 0) (by omega) (by simp) hn hend
      have g2 := r42e (t := 34 :: qs s ++ [34]) (l := [(5, s, 0)]) (v := (qs s).length + 2) (by omega)
      exact g1.trans g2
    rw [v19 hs]
    unfold qO
    simp only [Option.bind_some, retPV_pv, fits2, r_zero, r_succ, toInt_int, cond_true, toStr_str]
    rw [show ((0 : Int) != 0) = false from rfl]
    simp only [cond_false]
    rw [h20]
    unfold rO
    simp only [Option.bind_some, retPV_pv, fits3, r_zero, r_succ, toInt_int, toLst_lst, cond_true]
    have e : ([(5, s, 0)] : List Tk).map eT = [.agg [.int .i64 5, .str s, .int .i64 0]] := rfl
    rw [e]
    have : (s == s) = true := beq_self_eq_true s
    show (bif _ then _ else _) = _
    simp only [show ((0 : Int) == 0) = true from rfl, cond_true, List.length_cons, List.length_nil]
    rw [show ((([PV.agg [.int .i64 5, .str s, .int .i64 0]] : List PV)[(0 : Int).toNat]?)) = some (PV.agg [.int .i64 5, .str s, .int .i64 0]) from rfl]
    simp only [Option.bind_some]
    rw [show (Sh.agg [Sh.int .i64, Sh.str, Sh.int .i64]).fits (.agg [.int .i64 5, .str s, .int .i64 0]) = true from nrfl rfl]
    show (bif _ then (bif true then (bif true then (some (Arg.pv (.bool (s == s)), [])) else none) else _) else _) = _
    rw [this]; rfl
end Go.AL.S7.Tok
