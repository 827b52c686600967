/- The law: what is shown, with blanks between, is read again. -/
import Derived.Test.YtlmodlihiglnhaaDoorS8Good2
set_option linter.unusedVariables false
set_option linter.unusedSimpArgs false
set_option maxRecDepth 20000
namespace Go.AL.S8.Tok
open Go Go.AL Go.AL.S8

inductive Gs : List Tk → List Str → Prop where
  | nil : Gs [] []
  | cons {t : Tk} {x : Str} {l : List Tk} {xs : List Str} : Good t.1 t.2.1 x → Gs l xs → Gs (t :: l) (x :: xs)
theorem Gs.len {l : List Tk} {xs : List Str} (h : Gs l xs) : xs.length = l.length := by
  induction h with
  | nil => rfl
  | cons _ _ ih => simp [ih]

/-! #### Reading -/
theorem rd6 {s : Str} (hl : s.length ≤ 4000) : ∀ (n v : Nat) (acc : List Tk), s.length - v ≤ n → v ≤ s.length → acc.length ≤ v →
    (∃ toks xs, L20_111014 s (acc.map eT) v = rO (acc ++ toks) 0 0 ∧ Gs toks xs ∧ toks.length + v ≤ s.length) ∨ (∃ at_ : Nat, L20_111014 s (acc.map eT) v = rO [] at_ 10) := by
  intro n
  induction n with
  | zero => intro v acc h1 h2 h3; exact .inl ⟨[], [], by rw [r42e (by omega), List.append_nil], .nil, by simp; omega⟩
  | succ n ih =>
    intro v acc h1 h2 h3
    rcases Nat.lt_or_ge v s.length with hv | hv
    · have hc : s[v]? = some s[v] := List.getElem?_eq_getElem hv
      rcases next hl hc with ⟨k, tx, j, hn⟩ | ⟨k, tx, j, hn, hj1, hj2, _⟩
      · exact .inr ⟨v, r42f hv hn⟩
      · obtain ⟨x, hx⟩ := next_good hl hc hn
        obtain ⟨⟨j', q1, q2, q3, _⟩, _⟩ := skip hl s.length j (by omega) hj2
        have hstep := r42g (l := acc) hv (by omega) hn q3
        rcases ih j' (acc ++ [(k, tx, v)]) (by omega) q2 (by simp; omega) with ⟨toks, xs, g1, g2, g3⟩ | ⟨at_, g1⟩
        · exact .inl ⟨(k, tx, v) :: toks, x :: xs, by rw [hstep, g1]; simp, .cons hx g2, by simp only [List.length_cons]; omega⟩
        · exact .inr ⟨at_, hstep.trans g1⟩
    · exact .inl ⟨[], [], by rw [r42e hv, List.append_nil], .nil, by simp; omega⟩

/-! #### Joining -/
def J (xs : List Str) : Str := joinS [32] xs
theorem J_nil : J [] = [] := rfl
theorem J_one (x : Str) : J [x] = x := by simp [J, joinS, List.intercalate]
theorem J_two (x y : Str) (l : List Str) : J (x :: y :: l) = x ++ 32 :: J (y :: l) := by simp [J, joinS, List.intercalate, List.intersperse]
theorem J_len : ∀ {l : List Tk} {xs : List Str}, Gs l xs → (J xs).length ≤ 4001 * xs.length
  | _, _, .nil => by simp [J_nil]
  | _, _, .cons (xs := []) h _ => by have := h.len; simp only [J_one, List.length_cons, List.length_nil]; omega
  | _, _, .cons (xs := y :: xs) h g => by
    have h1 := h.len
    have h2 := J_len g
    simp only [J_two, List.length_append, List.length_cons] at h2 ⊢
    omega
theorem J_head : ∀ {l : List Tk} {xs : List Str} {y : Str}, Gs l (y :: xs) → ∃ c r, J (y :: xs) = c :: r ∧ firstB c = true
  | _, [], y, .cons h _ => by
    obtain ⟨c, r, rfl, hc⟩ := h.ne
    exact ⟨c, r, J_one _, hc⟩
  | _, z :: xs, y, .cons h _ => by
    obtain ⟨c, r, rfl, hc⟩ := h.ne
    exact ⟨c, _, by rw [J_two]; rfl, hc⟩
theorem skip_first {t : Str} {i : Nat} {c : UInt8} (h : t[i]? = some c) (hf : firstB c = true) (hi : i ≤ 5000) : L42_104 t i = iO i := by
  obtain ⟨h1, h2⟩ := first_ok hf
  rw [s84 h hi, h1, h2]; rfl

/-! #### Reading again -/
def kt (t : Tk) : Int × Str := (t.1, t.2.1)
theorem rd7 : ∀ {toks : List Tk} {xs : List Str}, Gs toks xs → ∀ (pre : Str) (acc : List Tk), acc.length ≤ pre.length → (pre ++ J xs).length ≤ 4000 →
    ∃ toks' : List Tk, L20_111014 (pre ++ J xs) (acc.map eT) pre.length = rO (acc ++ toks') 0 0 ∧ toks'.map kt = toks.map kt
  | _, _, .nil, pre, acc, h1, h2 => ⟨[], by rw [r42e (by simp [J_nil]), List.append_nil], rfl⟩
  | _, _, .cons (t := t) (x := x) (xs := []) h g, pre, acc, h1, h2 => by
    cases g
    obtain ⟨c, r, hx, hc⟩ := h.ne
    rw [J_one] at h2 ⊢
    rw [List.length_append] at h2
    have hxl : 0 < x.length := by rw [hx]; simp
    have hr := h.read pre [] (.inl rfl) (by omega)
    rw [List.append_nil] at hr
    have hend : L42_104 (pre ++ x) (pre.length + x.length : Nat) = iO (pre.length + x.length : Nat) := s84e (by simp)
    refine ⟨[(t.1, t.2.1, pre.length)], ?_, rfl⟩
    rw [r42g (l := acc) (by simp; omega) (by omega) hr hend, r42e (by simp)]
  | _, _, .cons (t := t) (x := x) (xs := y :: xs) (l := l) h g, pre, acc, h1, h2 => by
    obtain ⟨c, r, hx, hc⟩ := h.ne
    have hxl : 0 < x.length := by rw [hx]; simp
    rw [J_two] at h2 ⊢
    have hlen : pre.length + x.length + 1 + (J (y :: xs)).length ≤ 4000 := by simp only [List.length_append, List.length_cons] at h2; omega
    have hr := h.read pre (32 :: J (y :: xs)) (.inr ⟨_, rfl⟩) (by omega)
    obtain ⟨d, q, hy, hd⟩ := J_head g
    have h32 : (pre ++ (x ++ 32 :: J (y :: xs)))[pre.length + x.length]? = some 32 := by
      rw [← List.append_assoc, ← List.length_append]; exact at0
    have hdd : (pre ++ (x ++ 32 :: J (y :: xs)))[pre.length + x.length + 1]? = some d := by
      rw [hy, ← List.append_assoc, ← List.length_append]; exact at1
    have hskip : L42_104 (pre ++ (x ++ 32 :: J (y :: xs))) (pre.length + x.length : Nat) = iO (pre.length + x.length + 1 : Nat) := by
      rw [s84 h32 (by omega), show ws 32 = true from rfl]
      exact skip_first hdd hd (by omega)
    have ih := rd7 g (pre ++ x ++ [32]) (acc ++ [(t.1, t.2.1, pre.length)]) (by simp only [List.length_append, List.length_cons, List.length_nil]; omega) (by simp only [List.length_append, List.length_cons, List.length_nil]; omega)
    obtain ⟨toks', g1, g2⟩ := ih
    have e : pre ++ x ++ [32] ++ J (y :: xs) = pre ++ (x ++ 32 :: J (y :: xs)) := by simp
    have e9 : List.length (pre ++ x ++ [32]) = pre.length + x.length + 1 := by simp; omega
    rw [e, e9] at g1
    refine ⟨(t.1, t.2.1, pre.length) :: toks', ?_, by rw [List.map_cons, List.map_cons, g2]; rfl⟩
    rw [r42g (l := acc) (by simp only [List.length_append, List.length_cons]; omega) (by omega) hr hskip, g1]
    simp
theorem read_again {toks : List Tk} {xs : List Str} (h : Gs toks xs) (hw : (J xs).length ≤ 4000) : ∃ toks' : List Tk, V 20 [.pv (.str (J xs))] = rO toks' 0 0 ∧ toks'.map kt = toks.map kt := by
  have h0 : L42_104 (J xs) (0 : Nat) = iO (0 : Nat) := by
    cases xs with
    | nil => exact s84e (by simp [J_nil])
    | cons y xs =>
      obtain ⟨c, r, e, hc⟩ := J_head h
      exact skip_first (c := c) (by rw [e]; rfl) hc (by omega)
  obtain ⟨toks', g1, g2⟩ := rd7 h [] [] (by simp) (by simpa using hw)
  refine ⟨toks', ?_, g2⟩
  unfold iO at h0
  have h' : V 42 [.pv (.str (J xs)), .pv (.int .i64 0)] = some (.pv (.int .i64 ((0 : Nat) : Int)), []) := (e42 _ _).trans h0
  have hd : decide (((List.length (J xs) : Nat) : Int) > 4000) = false := decide_eq_false (by omega)
  rw [e20, hd, h']
  exact g1

/-! #### The loops of the law -/
theorem eT_0 (x : Tk) : ((eT x).c 0).toInt = x.1 := nrfl rfl
theorem eT_1 (x : Tk) : ((eT x).c 1).toStr = x.2.1 := nrfl rfl
theorem show_all {toks : List Tk} (ht : toks.length ≤ 4000) : ∀ {l : List Tk} {xs : List Str}, Gs l xs → ∀ (k : Nat) (done : List Str), toks.drop k = l → k ≤ toks.length → done.length ≤ k →
    L6_11111014 (toks.map eT) (done.map PV.str) k = L6_11111014 (toks.map eT) ((done ++ xs).map PV.str) (toks.length : Nat)
  | _, _, .nil, k, done, h, hk, _ => by
    have : k = toks.length := by have := congrArg List.length h; simp at this; omega
    rw [this, List.append_nil]
  | _, _, .cons (t := t) (x := x) (xs := xs) hg g, k, done, h, hk, hdn => by
    have htm : toks.length ≤ maxLen := Nat.le_trans ht (by decide)
    have A := atK_map (f := eT) h htm
    have A' := atK h htm
    have ih := show_all ht g (k + 1) (done ++ [x]) A'.drop A'.ltn (by simp; omega)
    have sm' : small (done.map PV.str).length 1 16 = true := small_of (by simp; omega)
    have fits2 : ∀ (l : Str) (n : Int), (Sh.tup [Sh.str, Sh.int .i64]).fits (.tup [.str l, .int .i64 n]) = true := fun _ _ => nrfl rfl
    rw [e6_11111014]
    simp only [A.lt, A.ge, A.get, A.next, cond_true, Option.bind_some, eT_fits, eT_0, eT_1, eT_2, hg.shown, retPV_pv, fits2, r_zero, r_succ, toInt_int, toStr_str, sm']
    rw [show ((0 : Int) != 0) = false from rfl]
    simp only [cond_false]
    rw [show done.map PV.str ++ [PV.str x] = (done ++ [x]).map PV.str by simp]
    exact ih.trans (by rw [List.append_assoc]; rfl)
theorem cmp {toks toks' : List Tk} (ht : toks.length ≤ 4000) (he : toks'.map kt = toks.map kt) : ∀ (l l' : List Tk) (k : Nat), toks.drop k = l → toks'.drop k = l' → L6_1111111111014 (toks.map eT) (toks'.map eT) k = some (.pv (.bool true), [])
  | [], l', k, h, h' => by rw [e6_1111111111014, endK_map h]; rfl
  | x :: l, l', k, h, h' => by
    have hlen : toks'.length = toks.length := by have := congrArg List.length he; simpa using this
    have htm : toks.length ≤ maxLen := Nat.le_trans ht (by decide)
    have A := atK_map (f := eT) h htm
    have A' := atK h htm
    have hlt := A'.ltn
    cases l' with
    | nil => have := congrArg List.length h'; simp at this; omega
    | cons y l' =>
      have B := atK_map (f := eT) h' (by omega)
      have B' := atK h' (by omega)
      have hxy : kt y = kt x := by
        have h1 : (toks'.map kt)[k]? = some (kt y) := by rw [List.getElem?_map, show toks'[k]? = some y by simpa using B'.get']; rfl
        have h2 : (toks.map kt)[k]? = some (kt x) := by rw [List.getElem?_map, show toks[k]? = some x by simpa using A'.get']; rfl
        rw [he, h2] at h1
        exact (Option.some.inj h1).symm
      obtain ⟨hk, htx⟩ : y.1 = x.1 ∧ y.2.1 = x.2.1 := by
        unfold kt at hxy
        exact Prod.mk.inj hxy
      have ih := cmp ht he l l' (k + 1) A'.drop B'.drop
      rw [e6_1111111111014]
      simp only [A.lt, A.ge, A.get, B.get, A.next, cond_true, Option.bind_some, eT_fits, eT_0, eT_1, hk, htx]
      rw [show (x.1 != x.1) = false by simp, show (x.2.1 == x.2.1) = true from beq_self_eq_true _]
      exact ih
theorem e22 (l : List PV) (s : Str) : V 22 [.pv (.lst l), .pv (.str s)] = joinP [.pv (.lst l), .pv (.str s)] := V_prim pa (g := fun _ => joinP) rfl _
theorem v22 {xs : List Str} (h1 : xs.length ≤ 4000) (h2 : (J xs).length ≤ 100000000) : V 22 [.pv (.lst (xs.map PV.str)), .pv (.str [32])] = some (.pv (.str (J xs)), []) := by
  rw [e22]
  have ha : (xs.map PV.str).all isStrPV = true := by
    rw [List.all_eq_true]; intro x hx; obtain ⟨c, _, rfl⟩ := List.mem_map.1 hx; rfl
  have hm : (xs.map PV.str).map PV.toStr = xs := by
    rw [List.map_map]
    conv => rhs; rw [← List.map_id xs]
    exact List.map_congr_left fun c _ => rfl
  show (bif (xs.map PV.str).all isStrPV && (Nat.ble (xs.map PV.str).length 1000000 && Nat.ble (joinS [32] ((xs.map PV.str).map PV.toStr)).length 100000000) then some (Arg.pv (.str (joinS [32] ((xs.map PV.str).map PV.toStr))), ([] : List Ref)) else none) = _
  have h2' : (joinS [32] xs).length ≤ 100000000 := h2
  rw [ha, hm, Nat.ble_eq_true_of_le h2', Nat.ble_eq_true_of_le (show (xs.map PV.str).length ≤ 1000000 by rw [List.length_map]; omega)]
  rfl
theorem law6 (s : Str) : V 6 [.pv (.str s)] = some (.pv (.bool true), []) := by
  rw [e6, v18]
  simp only [Option.bind_some, retPV_pv, fits_bool, toBool_bool, cond_true, Bool.not_true, cond_false]
  rcases Nat.lt_or_ge 4000 s.length with hbig | hl
  · have h20 : V 20 [.pv (.str s)] = some (.pv (.tup [.lst [], .int .i64 0, .int .i64 2]), []) := by
      rw [e20, decide_eq_true (show (s.length : Int) > 4000 by omega)]; rfl
    rw [h20]
    simp only [Option.bind_some, retPV_pv, fits3, r_zero, r_succ, toInt_int, toLst_lst, cond_true]
    rfl
  · have read : ∀ (v0 : Nat), L42_104 s 0 = iO v0 → V 20 [.pv (.str s)] = L20_111014 s (([] : List Tk).map eT) v0 := fun v0 h => by
      unfold iO at h
      have h' : V 42 [.pv (.str s), .pv (.int .i64 0)] = some (.pv (.int .i64 (v0 : Int)), []) := (e42 _ _).trans h
      rw [e20, decide_eq_false (show ¬ (s.length : Int) > 4000 by omega), h']
      rfl
    obtain ⟨⟨v0, q1, q2, q3, q4⟩, _⟩ := skip hl s.length 0 (by omega) (by omega)
    rw [read v0 q3]
    rcases rd6 hl s.length v0 [] (by omega) q2 (by simp) with ⟨toks, xs, g1, g2, g3⟩ | ⟨at_, g1⟩
    · rw [List.nil_append] at g1
      rw [g1]
      unfold rO
      simp only [Option.bind_some, retPV_pv, fits3, r_zero, r_succ, toInt_int, toLst_lst, cond_true]
      rw [show ((0 : Int) != 0) = false from rfl]
      simp only [cond_false]
      have hx := g2.len
      have hsh := show_all (toks := toks) (by omega) g2 0 [] rfl (by omega) (by simp)
      rw [List.nil_append] at hsh
      have hJ := J_len g2
      have hsh' : L6_11111014 (toks.map eT) [] 0 = L6_11111014 (toks.map eT) (xs.map PV.str) (toks.length : Nat) := hsh
      rw [hsh', e6_11111014, endK_map (k := toks.length) (by simp)]
      simp only [cond_false]
      rw [v22 (by omega) (by omega)]
      simp only [Option.bind_some, retPV_pv]
      rw [show (Sh.str).fits (.str (J xs)) = true from rfl]
      simp only [cond_true, toStr_str]
      rcases Nat.lt_or_ge 4000 (J xs).length with hw | hw
      · have hd : decide (((List.length (J xs) : Nat) : Int) > 4000) = true := decide_eq_true (by omega)
        have h20 : V 20 [.pv (.str (J xs))] = some (.pv (.tup [.lst [], .int .i64 0, .int .i64 2]), []) := by
          rw [e20, hd]; rfl
        rw [h20]
        simp only [Option.bind_some, retPV_pv, fits3, r_zero, r_succ, toInt_int, toLst_lst, cond_true, hd]
        rfl
      · have hd : decide (((List.length (J xs) : Nat) : Int) > 4000) = false := decide_eq_false (by omega)
        obtain ⟨toks', k1, k2⟩ := read_again g2 hw
        have hlen : toks'.length = toks.length := by have := congrArg List.length k2; simpa using this
        rw [k1]
        unfold rO
        simp only [Option.bind_some, retPV_pv, fits3, r_zero, r_succ, toInt_int, toLst_lst, cond_true, hd, cond_false]
        rw [show ((0 : Int) != 0) = false from rfl]
        have hne : (((List.length (toks'.map eT) : Nat) : Int) != ((List.length (toks.map eT) : Nat) : Int)) = false := by simp [hlen]
        simp only [cond_false, hne]
        exact cmp (by omega) k2 toks toks' 0 rfl rfl
    · rw [g1]
      unfold rO
      simp only [Option.bind_some, retPV_pv, fits3, r_zero, r_succ, toInt_int, toLst_lst, cond_true, List.map_nil]
      rfl
end Go.AL.S8.Tok
